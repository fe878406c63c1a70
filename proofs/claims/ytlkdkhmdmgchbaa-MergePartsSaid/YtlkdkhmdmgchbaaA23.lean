/- what MergeParts rests on, in plain words: steps add up; what has been done is the beginning of what it comes to. -/
import Derived.Test.YtlkdkhmdmgchbaaA22
namespace Go.Proofs.Ytlkdkhmdmgchbaa
set_option linter.unusedSimpArgs false
set_option linter.unusedVariables false
open Go.RowKit

theorem outL_rises1 (t u : Tr) (o : Bool) (a : Nat) : Rises (outL t u o a).1 := List.Pairwise.sublist (List.filter_sublist.trans (List.take_sublist _ _)) (pairsL_rises t u)
theorem outL_rises2 (t u : Tr) (o : Bool) (a : Nat) : Rises (outL t u o a).2 := List.Pairwise.sublist (List.filter_sublist.trans (List.take_sublist _ _)) (pairsL_rises t u)
theorem pre_take {l m : List Pr} (h : l <+: m) : m.take l.length = l ∧ l.length ≤ m.length := ⟨(List.prefix_iff_eq_take.1 h).symm, h.length_le⟩
theorem outL_pre1 (t u : Tr) (o : Bool) {a b : Nat} (h : a ≤ b) : (outL t u o a).1 <+: (outL t u o b).1 := List.IsPrefix.filter _ (List.take_prefix_take_left h)
theorem outL_pre2 (t u : Tr) (o : Bool) {a b : Nat} (h : a ≤ b) : (outL t u o a).2 <+: (outL t u o b).2 := List.IsPrefix.filter _ (List.take_prefix_take_left h)
theorem filter_both (p : Pr → Bool) : ∀ l : List Pr, (l.filter p).length + (l.filter fun x => !p x).length = l.length
  | [] => rfl
  | x :: l => by
    have := filter_both p l
    by_cases h : p x <;> simp [h] <;> omega
theorem outL_len (t u : Tr) {a : Nat} (h : a ≤ (pairsL t u).length) : (outL t u false a).1.length + (outL t u false a).2.length = a := by
  have := filter_both (fun p => decide (saysL [t, u] p = 1)) ((pairsL t u).take a)
  simp only [outL, Bool.not_false, Bool.and_true]
  rw [this, List.length_take]
  omega
/-- a merge under way that MergeParts meets. -/
structure Und (a b : Tr) (m : Mg) : Prop where
  right : mright m = true
  old : m.older = a
  new : m.newer = b
  ob : m.oldest = false
theorem Und.at {a b : Tr} {m : Mg} (h : Und a b m) : 0 ≤ m.at_ ∧ m.at_ ≤ (pairsL a b).length ∧ m.out = outL a b false m.at_.toNat := by
  obtain ⟨h0, h1, _, _, h4⟩ := mright_at h.right
  rw [h.old, h.new] at h1 h4
  rw [h.ob] at h4
  exact ⟨h0, h1, h4⟩
theorem Und.left {a b : Tr} {m : Mg} (h : Und a b m) : leftL m = ((pairsL a b).length : Int) - m.at_ := by
  unfold leftL; rw [h.right, if_pos rfl, h.old, h.new]
theorem Und.step {a b : Tr} {m : Mg} (h : Und a b m) {k : Nat} (hk : m.at_.toNat + k ≤ (pairsL a b).length) : Und a b (mstep m k) := by
  obtain ⟨h0, h1, h2, h3, h4⟩ := mright_at h.right
  refine ⟨?_, h.old, h.new, h.ob⟩
  unfold mright mstep
  simp only [Bool.and_eq_true, decide_eq_true_eq, Int.toNat_natCast]
  refine ⟨⟨⟨⟨h2, h3⟩, by omega⟩, ?_⟩, trivial⟩
  rw [h.old, h.new]; omega
theorem mstep_add (m : Mg) (j k : Nat) : mstep (mstep m j) k = mstep m (j + k) := by
  unfold mstep
  simp only [Int.toNat_natCast, Nat.add_assoc]
/-- a step of n: what it comes to. -/
theorem Und.stepL {a b : Tr} {m : Mg} (h : Und a b m) {n : Int} (hn : 0 ≤ n) : Go.Proofs.Ytlkdkhmdmgchbaa.stepL m n = (mstep m (min n (leftL m)).toNat, min n (leftL m), 0) ∧ Und a b (mstep m (min n (leftL m)).toNat) ∧ 0 ≤ min n (leftL m) := by
  have hl := h.left
  obtain ⟨h0, h1, _⟩ := h.at
  refine ⟨by unfold Go.Proofs.Ytlkdkhmdmgchbaa.stepL; rw [h.right, if_pos rfl, if_neg (by omega)], h.step (by omega), by omega⟩
theorem Und.stepAt {a b : Tr} {m : Mg} (h : Und a b m) (k : Nat) : (mstep m k).at_ = m.at_ + k := by
  have := h.at.1
  show ((m.at_.toNat + k : Nat) : Int) = _
  omega
theorem Und.next {a b : Tr} {m : Mg} (h : Und a b m) {n : Int} (hn : 0 ≤ n) : ∃ (k : Int) (m1 : Mg), k = min n (leftL m) ∧ m1 = mstep m k.toNat ∧ Go.Proofs.Ytlkdkhmdmgchbaa.stepL m n = (m1, k, 0) ∧ Und a b m1 ∧ 0 ≤ k ∧ m1.at_ = m.at_ + k := by
  obtain ⟨h1, h2, h3⟩ := h.stepL hn
  refine ⟨_, _, rfl, rfl, h1, h2, h3, ?_⟩
  rw [h.stepAt]; omega
theorem slice_pre {p q : List Pr} (h : p <+: q) {k : List (List D) → Prop} (hk : k (p.map PD)) : sliceAny none (some (.i64, (p.length : Int))) none (q.map PD) k := by
  have e : ((q.map PD).take p.length).drop 0 = p.map PD := by rw [List.drop_zero, ← List.map_take, (pre_take h).1]
  refine ⟨none, some (.i64, p.length), none, by simp [nat?], by simp [nat?], by simp [nat?], by simp, by simp, by simpa using h.length_le, by simp, ?_⟩
  show k (((q.map PD).take p.length).drop 0)
  rw [e]
  exact hk
end Go.Proofs.Ytlkdkhmdmgchbaa
