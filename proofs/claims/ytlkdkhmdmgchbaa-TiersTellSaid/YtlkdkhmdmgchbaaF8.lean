/- the document's merges: Pairs, sameTier. -/
import Derived.Test.YtlkdkhmdmgchbaaF7
namespace Go.Proofs.Ytlkdkhmdmgchbaa
set_option linter.unusedSimpArgs false
set_option linter.unusedVariables false
open Go.RowKit

/-- the pairs of two tiers, in order. -/
def pairsL (t u : Tr) : List Pr := unionL (unionL t.1 t.2) (unionL u.1 u.2)

set_option maxRecDepth 100000 in
set_option maxHeartbeats 2000000 in
theorem sametier_any (vA vD uA uD : Value) (t u : Tr) (w : World) (h : TPair w vA vD t) (h' : TPair w uA uD u) : Calls Try.prog 103 #[.agg #[vA, vD], .agg #[uA, uD]] w fun e w' => e = .returned (.bool (decide (t = u))) ∧ Below w.heap.size w w' := by
  obtain ⟨pA, cA, rfl⟩ := h.1.form
  obtain ⟨pD, cD, rfl⟩ := h.2.form
  obtain ⟨pB, cB, rfl⟩ := h'.1.form
  obtain ⟨pE, cE, rfl⟩ := h'.2.form
  have H := hid h; have H' := hid h'; clear h h'
  go_enter Try.func103, Try.ntmps103
  go_wp2_with fail
  have e : decide (t = u) = decide ([t] = [u]) := by simp
  refine (tsame_any _ _ [t] [u] _ ?_ ?_).mono ?_
  · refine TRow.of1 (vA := .slice pA t.1.length cA) (vD := .slice pD t.2.length cD) (by go_simp) (by go_simp) (H.out.below ?_)
    repeat' (first | exact Below.refl _ _ | with_reducible refine Below.alloc ?_ ?_ _ | with_reducible refine Below.setCell ?_ ?_ _ | with_reducible refine Below.drew ?_ | with_reducible refine below_drewN ?_ _ | refine Below.trans ?_ (Below.mono (by assumption) ?_))
    all_goals (first | omega | (simp <;> omega))
  · refine TRow.of1 (vA := .slice pB u.1.length cB) (vD := .slice pE u.2.length cE) (by go_simp) (by go_simp) (H'.out.below ?_)
    repeat' (first | exact Below.refl _ _ | with_reducible refine Below.alloc ?_ ?_ _ | with_reducible refine Below.setCell ?_ ?_ _ | with_reducible refine Below.drew ?_ | with_reducible refine below_drewN ?_ _ | refine Below.trans ?_ (Below.mono (by assumption) ?_))
    all_goals (first | omega | (simp <;> omega))
  rintro e w' ⟨rfl, B⟩
  go_wp2_with fail
  go_ret
  refine ⟨by rw [e]; rfl, ?_⟩
  have zz0 := B.size; try simp at zz0
  repeat' (first | exact Below.refl _ _ | with_reducible refine Below.alloc ?_ ?_ _ | with_reducible refine Below.setCell ?_ ?_ _ | with_reducible refine Below.drew ?_ | with_reducible refine below_drewN ?_ _ | refine Below.trans ?_ (Below.mono (by assumption) ?_))
  all_goals (first | omega | (simp <;> omega))

theorem unionL_le {a b : List Pr} {n m : Nat} (ha : a.length ≤ n) (hb : b.length ≤ m) : (unionL a b).length ≤ n + m := by have := unionL_len a b; omega
theorem pairsL_len (t u : Tr) : (pairsL t u).length ≤ t.1.length + t.2.length + (u.1.length + u.2.length) := unionL_le (unionL_len _ _) (unionL_len _ _)

set_option maxRecDepth 100000 in
set_option maxHeartbeats 2000000 in
theorem pairs_any (vA vD uA uD : Value) (t u : Tr) (w : World) (h : TPair w vA vD t) (h' : TPair w uA uD u) (l1 : t.1.length ≤ 200000) (l2 : t.2.length ≤ 200000) (l3 : u.1.length ≤ 200000) (l4 : u.2.length ≤ 200000) :
    Calls Try.prog 102 #[.agg #[vA, vD], .agg #[uA, uD]] w fun e w' => (∃ v', e = .returned v' ∧ POwn w.heap.size w' v' (pairsL t u)) ∧ Below w.heap.size w w' := by
  obtain ⟨pA, cA, rfl⟩ := h.1.form
  obtain ⟨pD, cD, rfl⟩ := h.2.form
  obtain ⟨pB, cB, rfl⟩ := h'.1.form
  obtain ⟨pE, cE, rfl⟩ := h'.2.form
  have C1 : Hid (∀ W, Below w.heap.size w W → Calls Try.prog 78 #[.slice pA t.1.length cA, .slice pD t.2.length cD] W fun e w' => (∃ v', e = .returned v' ∧ POwn W.heap.size w' v' (unionL t.1 t.2)) ∧ Below W.heap.size W w') := fun W B => union_any _ _ t.1 t.2 W (h.1.below B) (h.2.below B) (by omega) (by omega)
  have C2 : Hid (∀ W, Below w.heap.size w W → Calls Try.prog 78 #[.slice pB u.1.length cB, .slice pE u.2.length cE] W fun e w' => (∃ v', e = .returned v' ∧ POwn W.heap.size w' v' (unionL u.1 u.2)) ∧ Below W.heap.size W w') := fun W B => union_any _ _ u.1 u.2 W (h'.1.below B) (h'.2.below B) (by omega) (by omega)
  have C3 : Hid (∀ W v v', PRow W v (unionL t.1 t.2) → PRow W v' (unionL u.1 u.2) → Calls Try.prog 78 #[v, v'] W fun e w' => (∃ v', e = .returned v' ∧ POwn W.heap.size w' v' (pairsL t u)) ∧ Below W.heap.size W w') := fun W v v' q q' => union_any _ _ _ _ W q q' (Nat.le_trans (unionL_len _ _) (by omega)) (Nat.le_trans (unionL_len _ _) (by omega))
  clear h h' l1 l2 l3 l4
  go_enter Try.func102, Try.ntmps102
  go_wp2_with fail
  have st : VV w w.heap.size (.slice pA t.1.length cA) (.slice pD t.2.length cD) (w.heap.size + 1) 0 1 (.slice pB u.1.length cB) (.slice pE u.2.length cE) (((w.alloc (.cells #[.slice pA t.1.length cA, .slice pD t.2.length cD] 24)).alloc (.cells #[.slice pB u.1.length cB, .slice pE u.2.length cE] 24)).drew) := by
    refine ⟨?_, by go_simp, by go_simp, by go_simp, by go_simp⟩
    repeat' (first | exact Below.refl _ _ | with_reducible refine Below.alloc ?_ ?_ _ | with_reducible refine Below.setCell ?_ ?_ _ | with_reducible refine Below.drew ?_ | with_reducible refine below_drewN ?_ _ | refine Below.trans ?_ (Below.mono (by assumption) ?_))
    all_goals (first | omega | (simp <;> omega))
  generalize ((w.alloc (.cells #[.slice pA t.1.length cA, .slice pD t.2.length cD] 24)).alloc (.cells #[.slice pB u.1.length cB, .slice pE u.2.length cE] 24)) = W0 at *
  go_region_held3 (fun W => Below w.heap.size w W ∧ W.cell? ⟨w.heap.size, 0, none⟩ = some (.slice pA t.1.length cA) ∧ W.cell? ⟨w.heap.size, 1, none⟩ = some (.slice pD t.2.length cD) ∧ W.cell? ⟨w.heap.size + 1, 0, none⟩ = some (.slice pB u.1.length cB) ∧ W.cell? ⟨w.heap.size + 1, 1, none⟩ = some (.slice pE u.2.length cE)) (first | assumption | go_keep)
    (first | (go_at_call 78; refine (C1.out _ st.1).mono ?_; clear C1; rintro e wa ⟨⟨v1, rfl, h1⟩, B⟩; have N1 := hid h1; clear h1; have hx := VV.keep st B; clear B) | (go_at_call 78; refine (C2.out _ hx.1).mono ?_; clear C2; rintro e wb ⟨⟨v2, rfl, h2⟩, B⟩; have N2 := hid h2; clear h2; have hy := VV.keep hx B; have N1 := hid (N1.out.below B); clear B) | (go_at_call 78; refine (C3.out _ _ _ N1.out.row N2.out.row).mono ?_; rintro e wc ⟨⟨v3, rfl, h3⟩, B⟩; have N3 := hid (h3.weaken (hy.1.size)); clear h3; have hz := VV.keep hy B; clear B))
  all_goals
    go_wp2_with fail
    go_ret
    exact ⟨⟨_, rfl, N3.out⟩, hz.1⟩
end Go.Proofs.Ytlkdkhmdmgchbaa
