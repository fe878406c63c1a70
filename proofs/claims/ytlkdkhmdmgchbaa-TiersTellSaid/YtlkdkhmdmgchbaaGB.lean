/- a statement's arguments read as rows and tiers whose pairs are keys. -/
import Derived.Test.YtlkdkhmdmgchbaaG2
import Derived.Test.YtlkdkhmdmgchbaaJN
namespace Go.Proofs.Ytlkdkhmdmgchbaa
set_option linter.unusedSimpArgs false
set_option linter.unusedVariables false
open Go.ChangeShapes Go.WideShapes Go.ChangeAt Go.RowKit Go.Joins Go.Deep
section
variable {H : Type} {enc : TypeId × Value → H} {W : World} {base n : Nat} {held : Bool} {y : DataW H × List MemPlace}
theorem pair_data3 {sp : Nat → Bool} {cs : List Value} (h : DataW.trod enc Try.prog W base sp held n 52 cs = some y) : ∃ a b : Int, cs = [.int .u64 a, .int .u64 b] ∧ wfP (a, b) := by
  obtain ⟨y0, y1, m, rfl, hl, h0, h1⟩ := trod_struct2 Try.underlying52 h
  rw [cellsPair] at hl
  obtain ⟨c0, c1, rfl⟩ := list2 hl
  obtain ⟨a, e0, rfl, wa⟩ := DataW.trod_int Try.underlying50 h0
  obtain ⟨b, e1, rfl, wb⟩ := DataW.trod_int Try.underlying50 h1
  simp [cellsU64] at e0 e1
  subst e0; subst e1
  exact ⟨a, b, rfl, wfP_of wa wb⟩
set_option maxRecDepth 100000 in
theorem p_row3 {v : Value} (h : DataW.trod enc Try.prog W base (fun _ => true) held n 22 [v] = some y) : ∃ l, PRow W v l ∧ ∀ p ∈ l, wfP p := by
  rcases open_slice Try.underlying22 h with ⟨e, -⟩ | ⟨a, len, cap, m, k, D, Pl, e, -, hlc, hm, hmm, -, hx⟩
  · simp at e
    subst e
    exact ⟨[], PRow.nil _, fun p hp => by simp at hp⟩
  · simp at e
    subst e
    simp at hmm
    subst hmm
    rw [cellsPair] at hx
    obtain ⟨f, hf⟩ := choose_lt (n := m) (α := Int × Int) (p := fun i x => W.cell? (a.add (i * 2)) = some (.int .u64 x.1) ∧ W.cell? ((a.add (i * 2)).add 1) = some (.int .u64 x.2) ∧ wfP x) (fun i hi => by
      obtain ⟨cs', h1, h2⟩ := hx i hi
      obtain ⟨x, b, rfl, hb0⟩ := pair_data3 h2
      obtain ⟨-, -, hc⟩ := World.cells?_some h1
      exact ⟨(x, b), by simpa [Addr.add] using hc 0 (by omega), by simpa using hc 1 (by omega), hb0⟩)
    refine ⟨(List.range len).map f, ⟨some a, m, by simp, by simpa using hlc, fun h => (by cases h), by simp [maxLen] at hm ⊢; omega, fun hl => ?_⟩, fun p hp => by
      obtain ⟨i, hi, rfl⟩ := List.mem_map.1 hp
      rw [List.mem_range] at hi
      exact (hf i (by omega)).2.2⟩
    simp at hl
    have h0 := (hf 0 (by omega)).1
    have hs : a.spot = none := by simpa [Addr.add] using World.cell?_spot h0
    obtain ⟨g, o, s⟩ := a
    simp at hs
    subst hs
    refine ⟨g, o, rfl, fun j x hj => ?_⟩
    rw [List.getElem?_map, Option.map_eq_some_iff] at hj
    obtain ⟨i, hi, hfi⟩ := hj
    obtain ⟨hi', rfl⟩ := List.getElem?_eq_some_iff.1 hi
    simp at hi' hfi
    obtain ⟨q0, q1, -⟩ := hf j (by omega)
    rw [hfi] at q0 q1
    have e0 : (⟨g, o, none⟩ : Addr).add (j * 2) = ⟨g, o + j * 2, none⟩ := by unfold Addr.add; split <;> simp_all
    rw [e0] at q0 q1
    exact ⟨q0, by simpa [Addr.add] using q1⟩
theorem tier_data3 {cs : List Value} (h : DataW.trod enc Try.prog W base (fun _ => true) held n 24 cs = some y) : ∃ a b t, cs = [a, b] ∧ TPair W a b t ∧ wfT t := by
  obtain ⟨y0, y1, m, rfl, hl, h0, h1⟩ := trod_struct2 Try.underlying24 h
  rw [cellsTier] at hl
  obtain ⟨c0, c1, rfl⟩ := list2 hl
  simp only [cellsPairs] at h0 h1
  obtain ⟨l0, r0, w0⟩ := p_row3 (v := c0) h0
  obtain ⟨l1, r1, w1⟩ := p_row3 (v := c1) h1
  exact ⟨c0, c1, (l0, l1), rfl, ⟨r0, r1⟩, w0, w1⟩
set_option maxRecDepth 100000 in
theorem t_row3 {v : Value} (h : DataW.trod enc Try.prog W base (fun _ => true) held n 40 [v] = some y) : ∃ l : List Tr, RepD (fun _ => True) W v (TsD l) ∧ ∀ t ∈ l, wfT t := by
  rcases open_slice Try.underlying40 h with ⟨e, -⟩ | ⟨a, len, cap, m, k, D, Pl, e, -, hlc, hm, hmm, -, hx⟩
  · simp at e
    subst e
    exact ⟨[], .nil 2, fun t ht => by simp at ht⟩
  · simp at e
    subst e
    simp at hmm
    subst hmm
    rw [cellsTier] at hx
    obtain ⟨f, hf⟩ := choose_lt (n := m) (α := Tr × Value × Value) (p := fun i x => W.cell? (a.add (i * 2)) = some x.2.1 ∧ W.cell? ((a.add (i * 2)).add 1) = some x.2.2 ∧ PRow W x.2.1 x.1.1 ∧ PRow W x.2.2 x.1.2 ∧ wfT x.1) (fun i hi => by
      obtain ⟨cs', h1, h2⟩ := hx i hi
      obtain ⟨va, vd, t, rfl, ht, hw⟩ := tier_data3 h2
      obtain ⟨-, -, hc⟩ := World.cells?_some h1
      exact ⟨(t, va, vd), by simpa [Addr.add] using hc 0 (by omega), by simpa using hc 1 (by omega), ht.1, ht.2, hw⟩)
    refine ⟨(List.range len).map fun i => (f i).1, ?_, fun t ht => ?_⟩
    · by_cases hl : len = 0
      · subst hl
        simp only [List.range_zero, List.map_nil]
        exact .emp a m 2 (by simp [maxLen] at hm; unfold maxI; omega)
      · have h0 := (hf 0 (by omega)).1
        have hs : a.spot = none := by simpa [Addr.add] using World.cell?_spot h0
        obtain ⟨g, o, s⟩ := a
        simp at hs
        subst hs
        have hcell : ∀ j, j < len → W.cell? ⟨g, o + j * 2, none⟩ = some (f j).2.1 ∧ W.cell? ⟨g, o + j * 2 + 1, none⟩ = some (f j).2.2 := fun j hj => by
          obtain ⟨q0, q1, -⟩ := hf j (by omega)
          have e0 : (⟨g, o, none⟩ : Addr).add (j * 2) = ⟨g, o + j * 2, none⟩ := by unfold Addr.add; split <;> simp_all
          rw [e0] at q0 q1
          exact ⟨q0, by simpa [Addr.add] using q1⟩
        refine .row g o len m 2 _ (fun i j => if j = 0 then (f i).2.1 else (f i).2.2) (by simp) hlc (by simp [maxLen] at hm; unfold maxI; omega) (fun i r hi => ?_) (fun i r j x hi hj => ?_) (fun i r j x hi hj => ?_)
        all_goals
          rw [List.getElem?_map, Option.map_eq_some_iff] at hi
          obtain ⟨b, hi, rfl⟩ := hi
          rw [List.getElem?_map, Option.map_eq_some_iff] at hi
          obtain ⟨i', hi, rfl⟩ := hi
          obtain ⟨hlt, rfl⟩ := List.getElem?_eq_some_iff.1 hi
          simp only [List.length_range] at hlt
        · rfl
        · rcases j with _ | _ | j
          · exact ⟨trivial, by simpa using (hcell i hlt).1⟩
          · exact ⟨trivial, by simpa using (hcell i hlt).2⟩
          · simp at hj
        · obtain ⟨-, -, p1, p2, -⟩ := hf i (by omega)
          rcases j with _ | _ | j
          · cases hj
            simp only [List.getElem_range]
            exact of_prow p1 fun _ _ => trivial
          · cases hj
            simp only [List.getElem_range]
            exact of_prow p2 fun _ _ => trivial
          · simp at hj
    · obtain ⟨i, hi, rfl⟩ := List.mem_map.1 ht
      rw [List.mem_range] at hi
      exact (hf i (by omega)).2.2.2.2
end
theorem all_tpair {Z : Zone} {w : World} {a b : Value} {t : Tr} (hz : ∀ g, Z g) (h : TPair w a b t) : RepDV Z w (.agg #[a, b]) (TD t) := by
  refine ⟨_, rfl, rfl, fun i x hi => ?_⟩
  match i, hi with
  | 0, hi => simp at hi; subst hi; exact of_prow h.1 fun _ _ => hz _
  | 1, hi => simp at hi; subst hi; exact of_prow h.2 fun _ _ => hz _
  | i + 2, hi => simp at hi
end Go.Proofs.Ytlkdkhmdmgchbaa
