/- a statement's arguments read as data: rows of numbers; from a contract to a statement. -/
import Derived.Test.YtlkdkhmdmgchbaaG4
import Derived.Test.YtlkdkhmdmgchbaaJD
namespace Go.Proofs.Ytlkdkhmdmgchbaa
set_option linter.unusedSimpArgs false
set_option linter.unusedVariables false
open Go.ChangeShapes Go.WideShapes Go.ChangeAt Go.RowKit Go.Joins Go.Deep
section
variable {H : Type} {enc : TypeId × Value → H} {W : World} {base n : Nat} {held : Bool} {y : DataW H × List MemPlace}
set_option maxRecDepth 100000 in
theorem u_row {v : Value} (h : DataW.trod enc Try.prog W base (fun _ => true) held n 85 [v] = some y) : ∃ l : List Int, RepD (fun _ => True) W v (UD l) := by
  rcases open_slice Try.underlying85 h with ⟨e, -⟩ | ⟨a, len, cap, m, k, D, Pl, e, -, hlc, hm, hmm, -, hx⟩
  · simp at e
    subst e
    exact ⟨[], .nil 1⟩
  · simp at e
    subst e
    simp at hmm
    subst hmm
    rw [cellsU64] at hx
    obtain ⟨f, hf⟩ := choose_lt (n := m) (α := Int) (p := fun i x => W.cell? (a.add (i * 1)) = some (.int .u64 x)) (fun i hi => by
      obtain ⟨cs', h1, h2⟩ := hx i hi
      obtain ⟨x, rfl, -⟩ := DataW.trod_int Try.underlying50 h2
      obtain ⟨-, -, hc⟩ := World.cells?_some h1
      exact ⟨x, by simpa [Addr.add] using hc 0 (by omega)⟩)
    refine ⟨(List.range len).map f, ?_⟩
    by_cases hl : len = 0
    · subst hl
      simp only [List.range_zero, List.map_nil]
      exact .emp a m 1 (by simp [maxLen] at hm; unfold maxI; omega)
    · have h0 := hf 0 (by omega)
      have hs : a.spot = none := by simpa [Addr.add] using World.cell?_spot h0
      obtain ⟨g, o, s⟩ := a
      simp at hs
      subst hs
      have hcell : ∀ j, j < len → W.cell? ⟨g, o + j * 1, none⟩ = some (.int .u64 (f j)) := fun j hj => by
        have q0 := hf j (by omega)
        have e0 : (⟨g, o, none⟩ : Addr).add (j * 1) = ⟨g, o + j * 1, none⟩ := by unfold Addr.add; split <;> simp_all
        rw [e0] at q0
        exact q0
      refine .row g o len m 1 _ (fun i j => .int .u64 (f i)) (by simp) hlc (by simp [maxLen] at hm; unfold maxI; omega) (fun i r hi => ?_) (fun i r j x hi hj => ?_) (fun i r j x hi hj => ?_)
      all_goals
        rw [List.getElem?_map, Option.map_eq_some_iff] at hi
        obtain ⟨b, hi, rfl⟩ := hi
        rw [List.getElem?_map, Option.map_eq_some_iff] at hi
        obtain ⟨i', hi, rfl⟩ := hi
        obtain ⟨hlt, rfl⟩ := List.getElem?_eq_some_iff.1 hi
        simp only [List.length_range] at hlt
      · rfl
      · rcases j with _ | j
        · exact ⟨trivial, by simpa using hcell i hlt⟩
        · simp at hj
      · rcases j with _ | j
        · cases hj
          simp only [List.getElem_range]
          exact .v _
        · simp at hj
end
theorem Ct.lawN {P : Program} {f : FuncId} {args : List DV} {vs : Array Value} {w : World} (h : Ct P f args none (.one (dB true))) (hr : Reps (fun _ => True) w vs args) : Calls P f vs w fun e w' => e = .returned (.bool true) ∧ Below w.heap.size w w' := by
  refine (h (fun _ => True) w vs hr).mono ?_
  rintro e w' ⟨v, Zn, rfl, B, -, r⟩
  have r : RepD Zn w' v (.v (.bool true)) := r
  obtain rfl := r.raw
  exact ⟨rfl, B⟩
theorem reps1 {Z : Zone} {w : World} {a : Value} {x : DV} (h0 : RepDV Z w a x) : Reps Z w #[a] [x] := ⟨rfl, fun i d hd => by
  match i, hd with
  | 0, hd => cases hd; exact h0⟩
theorem reps2 {Z : Zone} {w : World} {a b : Value} {x y : DV} (h0 : RepDV Z w a x) (h1 : RepDV Z w b y) : Reps Z w #[a, b] [x, y] := ⟨rfl, fun i d hd => by
  match i, hd with
  | 0, hd => cases hd; exact h0
  | 1, hd => cases hd; exact h1⟩
theorem reps3 {Z : Zone} {w : World} {a b c : Value} {x y z : DV} (h0 : RepDV Z w a x) (h1 : RepDV Z w b y) (h2 : RepDV Z w c z) : Reps Z w #[a, b, c] [x, y, z] := ⟨rfl, fun i d hd => by
  match i, hd with
  | 0, hd => cases hd; exact h0
  | 1, hd => cases hd; exact h1
  | 2, hd => cases hd; exact h2⟩
end Go.Proofs.Ytlkdkhmdmgchbaa
