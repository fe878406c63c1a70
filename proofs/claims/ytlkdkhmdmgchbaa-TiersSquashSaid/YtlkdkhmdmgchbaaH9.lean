/- the program's merges: all, pairs. -/
import Derived.Test.YtlkdkhmdmgchbaaH8
namespace Go.Proofs.Ytlkdkhmdmgchbaa
set_option linter.unusedSimpArgs false
set_option linter.unusedVariables false
open Go.RowKit

def foldU (ls : List (List Pr)) : List Pr := ls.foldl uniL []
theorem foldU_snoc {ls : List (List Pr)} {k : Nat} {l : List Pr} (h : ls.take (k + 1) = ls.take k ++ [l]) : foldU (ls.take (k + 1)) = uniL (foldU (ls.take k)) l := by unfold foldU; rw [h, List.foldl_append]; rfl
theorem foldU_len (ls : List (List Pr)) (N : Nat) (h : ∀ l ∈ ls, l.length ≤ N) : ∀ k, (foldU (ls.take k)).length ≤ k * N
  | 0 => by simp [foldU]
  | k + 1 => by
    have ih := foldU_len ls N h k
    by_cases hk : k < ls.length
    · rw [foldU_snoc (List.take_succ_eq_append_getElem hk)]
      have h1 := uniL_len (foldU (ls.take k)) ls[k]
      have h2 := h _ (List.getElem_mem hk)
      rw [Nat.add_mul]; omega
    · rw [List.take_of_length_le (by omega)] at ih ⊢
      rw [Nat.add_mul]; omega

set_option maxRecDepth 100000 in
set_option maxHeartbeats 2000000 in
theorem pall_any (g : Nat) (ls : List (List Pr)) (w : World) (h : ∀ k (hk : k < ls.length), ∃ v, w.cell? ⟨g, k, none⟩ = some v ∧ PRow w v ls[k]) (hl : ls.length ≤ 4) (hs : ∀ l ∈ ls, l.length ≤ 200000) :
    Calls Try.prog 148 #[.slice (some ⟨g, 0, none⟩) ls.length ls.length] w fun e w' => (∃ v, e = .returned v ∧ POwn w.heap.size w' v (foldU ls)) ∧ Below w.heap.size w w' := by
  have H := hid h; have HS := hid hs; have HL := hid hl
  clear h hs
  go_enter Try.func148, Try.ntmps148
  go_wp2_with fail
  go_loopw [3, 8] (fun v3 v8 wr => ∃ k : Nat, v8 = (.int .i64 (k)) ∧ k ≤ ls.length ∧ Hid (POwn w.heap.size wr v3 (foldU (ls.take k))) ∧ Hid (Below w.heap.size w wr)) (fun _ v8 _ => ls.length - (intOf v8).toNat)
  case atStart => exact ⟨0, rfl, Nat.zero_le _, POwn.nil _ _, Below.refl _ _⟩
  case round =>
    obtain ⟨k, rfl, hk, OW, BEL⟩ := hrel
    obtain ⟨pv, kv, e3⟩ := OW.out.row.form
    subst e3
    by_cases hgo : k < ls.length
    · have hgo' : (k : Int) < (ls.length : Int) := by omega
      have hwk : IntKind.i64.wrap ((k : Int) + 1) = ((k + 1 : Nat) : Int) := by rw [i64_ok _ (by omega) (by omega)]; omega
      obtain ⟨v, c, r⟩ := H.out k hgo
      have c' := cellB BEL.out c
      have RO := hid (r.below BEL.out)
      have LN := hid (HS.out _ (List.getElem_mem hgo))
      have ts := hid (foldU_snoc (List.take_succ_eq_append_getElem hgo))
      have LF := hid (foldU_len ls 200000 HS.out k)
      obtain ⟨l, hl0⟩ : ∃ l, ls[k] = l := ⟨_, rfl⟩
      rw [hl0] at RO LN ts
      clear hl0 c r
      obtain ⟨p, c, rfl⟩ := RO.out.form
      generalize foldU (ls.take k) = lo at *
      have CU := hid (punion_any wr (.slice pv lo.length kv) (.slice p l.length c) lo l OW.out.row RO.out (by have h1 := LN.out; have h2 := LF.out; have h3 := HL.out; have : k * 200000 ≤ 3 * 200000 := Nat.mul_le_mul_right _ (by omega); omega))
      clear LN LF
      go_wp2_with fail
      refine CU.out.mono ?_
      rintro e w1 ⟨⟨v', rfl, own⟩, B⟩
      have O1 := hid (own.weaken BEL.out.size)
      have B1 := hid (bel_step BEL.out B)
      clear own B CU c'
      go_wp2_with fail
      exact ⟨⟨k + 1, by simp, hgo, by rw [ts.out]; exact O1, B1⟩, by simp [intOf]; omega⟩
    · obtain rfl : k = ls.length := by omega
      have h1 : ¬ (ls.length : Int) < (ls.length : Int) := by omega
      rw [List.take_length] at OW
      go_wp2_with fail
      go_ret
      exact ⟨⟨_, rfl, OW.out⟩, BEL.out⟩

set_option maxRecDepth 100000 in
set_option maxHeartbeats 2000000 in
/-- merge.pairs. -/
theorem ppairs_any (oA oD nA nD uA uD : Value) (m : Mg) (w : World) (h : MIs w oA oD nA nD uA uD m) (hs : m.small) :
    Calls Try.prog 99 #[mval oA oD nA nD uA uD m.oldest m.at_] w fun e w' => (∃ v, e = .returned v ∧ POwn w.heap.size w' v (allL m.older.1 m.older.2 m.newer.1 m.newer.2)) ∧ Below w.heap.size w w' := by
  obtain ⟨pA, cA, rfl⟩ := h.o.1.form
  obtain ⟨pD, cD, rfl⟩ := h.o.2.form
  obtain ⟨pB, cB, rfl⟩ := h.n.1.form
  obtain ⟨pE, cE, rfl⟩ := h.n.2.form
  obtain ⟨pF, cF, rfl⟩ := h.u.1.form
  obtain ⟨pG, cG, rfl⟩ := h.u.2.form
  have H := hid h; have HS := hid hs
  clear h hs
  unfold mval
  go_enter Try.func99, Try.ntmps99
  go_wp2_with fail
  refine (pall_any (w.heap.size + 1) [m.older.1, m.older.2, m.newer.1, m.newer.2] _ ?_ (by simp) ?_).mono ?_
  · intro k hk
    have B : Below w.heap.size w ((w.alloc (.cells #[.slice pA m.older.1.length cA, .slice pD m.older.2.length cD, .slice pB m.newer.1.length cB, .slice pE m.newer.2.length cE, .bool m.oldest, .int .i64 m.at_, .slice pF m.out.1.length cF, .slice pG m.out.2.length cG] 26)).alloc (.cells #[.slice pA m.older.1.length cA, .slice pD m.older.2.length cD, .slice pB m.newer.1.length cB, .slice pE m.newer.2.length cE] 22)) := by
      repeat' (first | exact Below.refl _ _ | with_reducible refine Below.alloc ?_ ?_ _ | with_reducible refine Below.setCell ?_ ?_ _ | with_reducible refine Below.drew ?_ | with_reducible refine below_drewN ?_ _ | refine Below.trans ?_ (Below.mono (by assumption) ?_))
      all_goals (first | omega | (simp <;> omega))
    match k, hk with
    | 0, _ => exact ⟨_, by go_simp, H.out.o.1.below B⟩
    | 1, _ => exact ⟨_, by go_simp, H.out.o.2.below B⟩
    | 2, _ => exact ⟨_, by go_simp, H.out.n.1.below B⟩
    | 3, _ => exact ⟨_, by go_simp, H.out.n.2.below B⟩
  · intro l hl
    obtain ⟨h1, h2, h3, h4⟩ := HS.out
    simp only [List.mem_cons, List.not_mem_nil, or_false] at hl
    rcases hl with rfl | rfl | rfl | rfl <;> assumption
  rintro e w1 ⟨⟨v, rfl, own⟩, B⟩
  have O1 := hid (own.weaken (show w.heap.size ≤ _ by simp; omega))
  have B1 : Hid (Below w.heap.size w w1) := by
    show Below _ _ _
    refine Below.trans ?_ (B.mono (by simp <;> omega))
    repeat' (first | exact Below.refl _ _ | with_reducible refine Below.alloc ?_ ?_ _ | with_reducible refine Below.setCell ?_ ?_ _ | with_reducible refine Below.drew ?_ | with_reducible refine below_drewN ?_ _ | refine Below.trans ?_ (Below.mono (by assumption) ?_))
    all_goals (first | omega | (simp <;> omega))
  obtain ⟨pv, kv, rfl⟩ := own.row.form
  clear own B
  go_wp2_with fail
  go_ret
  exact ⟨⟨_, rfl, O1.out⟩, B1.out⟩
end Go.Proofs.Ytlkdkhmdmgchbaa
