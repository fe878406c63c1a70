/- arguments read as rows of pairs, with what a u64 is. -/
import Derived.Test.YtlkdkhmdmgchbaaG3
namespace Go.Proofs.Ytlkdkhmdmgchbaa
set_option linter.unusedSimpArgs false
set_option linter.unusedVariables false
open Go.ChangeShapes Go.WideShapes Go.ChangeAt Go.RowKit Go.Joins Go.Deep
section
variable {H : Type} {enc : TypeId × Value → H} {W : World} {base n : Nat} {held : Bool} {y : DataW H × List MemPlace}
theorem pair_data2 {sp : Nat → Bool} {cs : List Value} (h : DataW.trod enc Try.prog W base sp held n 52 cs = some y) : ∃ a b : Int, cs = [.int .u64 a, .int .u64 b] ∧ 0 ≤ b := by
  obtain ⟨y0, y1, m, rfl, hl, h0, h1⟩ := trod_struct2 Try.underlying52 h
  rw [cellsPair] at hl
  obtain ⟨c0, c1, rfl⟩ := list2 hl
  obtain ⟨a, e0, rfl, wa⟩ := DataW.trod_int Try.underlying50 h0
  obtain ⟨b, e1, rfl, wb⟩ := DataW.trod_int Try.underlying50 h1
  simp [cellsU64] at e0 e1
  subst e0; subst e1
  refine ⟨a, b, rfl, ?_⟩
  simp only [Lit.wf, Bool.and_eq_true, decide_eq_true_eq] at wb
  exact wb.1
set_option maxRecDepth 100000 in
theorem p_row2 {v : Value} (h : DataW.trod enc Try.prog W base (fun _ => true) held n 22 [v] = some y) : ∃ l, PRow W v l ∧ ∀ p ∈ l, 0 ≤ p.2 := by
  rcases open_slice Try.underlying22 h with ⟨e, -⟩ | ⟨a, len, cap, m, k, D, Pl, e, -, hlc, hm, hmm, -, hx⟩
  · simp at e
    subst e
    exact ⟨[], PRow.nil _, fun p hp => by simp at hp⟩
  · simp at e
    subst e
    simp at hmm
    subst hmm
    rw [cellsPair] at hx
    obtain ⟨f, hf⟩ := choose_lt (n := m) (α := Int × Int) (p := fun i x => W.cell? (a.add (i * 2)) = some (.int .u64 x.1) ∧ W.cell? ((a.add (i * 2)).add 1) = some (.int .u64 x.2) ∧ 0 ≤ x.2) (fun i hi => by
      obtain ⟨cs', h1, h2⟩ := hx i hi
      obtain ⟨x, b, rfl, hb0⟩ := pair_data2 h2
      obtain ⟨-, -, hc⟩ := World.cells?_some h1
      exact ⟨(x, b), by simpa [Addr.add] using hc 0 (by omega), by simpa using hc 1 (by omega), hb0⟩)
    refine ⟨(List.range len).map f, ⟨some a, m, by simp, by simpa using hlc, fun h => (by cases h), by simp [maxLen] at hm ⊢; omega, fun hl => ?_⟩, fun p hp => by
      obtain ⟨i, hi, rfl⟩ := List.mem_map.1 hp
      rw [List.mem_range] at hi
      exact (hf i (by omega)).2.2⟩
    simp at hl
    have h0 := (hf 0 (by omega)).1
    have hs : a.spot = none := by simpa [Addr.add] using World.cell?_spot h0
    obtain ⟨g, o, s⟩ := a
    simp at hs
    subst hs
    refine ⟨g, o, rfl, fun j x hj => ?_⟩
    rw [List.getElem?_map, Option.map_eq_some_iff] at hj
    obtain ⟨i, hi, hfi⟩ := hj
    obtain ⟨hi', rfl⟩ := List.getElem?_eq_some_iff.1 hi
    simp at hi' hfi
    obtain ⟨q0, q1, -⟩ := hf j (by omega)
    rw [hfi] at q0 q1
    have e0 : (⟨g, o, none⟩ : Addr).add (j * 2) = ⟨g, o + j * 2, none⟩ := by unfold Addr.add; split <;> simp_all
    rw [e0] at q0 q1
    exact ⟨q0, by simpa [Addr.add] using q1⟩
end
end Go.Proofs.Ytlkdkhmdmgchbaa
