/- slices.Clone of a row of wide numbers. -/
import Derived.Test.YtdpcfpmlkhdmkaaDoorO1
import Derived.Laws.OwnMore
import Derived.Laws.AppendOwnNone
import Derived.Lib.LazyBuf
namespace Go.Proofs.YtdpcfpmlkhdmkaaDoor
open Go.RowKit

def flat (l : List (Int × Int)) : List Value := l.flatMap fun x => [.int .u64 x.1, .int .u64 x.2]
theorem flat_len (l : List (Int × Int)) : (flat l).length = l.length * 2 := by
  induction l with
  | nil => rfl
  | cons x l ih =>
    have e : flat (x :: l) = .int .u64 x.1 :: .int .u64 x.2 :: flat l := rfl
    rw [e]
    simp only [List.length_cons, ih]
    omega
theorem flat_get (l : List (Int × Int)) : ∀ k (h : k < l.length), (flat l)[k * 2]? = some (.int .u64 (l[k].1)) ∧ (flat l)[k * 2 + 1]? = some (.int .u64 (l[k].2)) := by
  induction l with
  | nil => intro k h; simp at h
  | cons x l ih =>
    intro k h
    have e : flat (x :: l) = .int .u64 x.1 :: .int .u64 x.2 :: flat l := rfl
    rw [e]
    cases k with
    | zero => exact ⟨rfl, rfl⟩
    | succ k =>
      have := ih k (by simpa using h)
      rw [show (k + 1) * 2 = k * 2 + 1 + 1 by omega]
      simpa using this
theorem info27 : (Tryd.prog.info? 27).map (fun i => (i.zero, i.size, i.bytes)) = some (some (.agg #[.int .u64 0, .int .u64 0]), 2, 16) := by kernel_rfl
theorem info27' : ∃ i, Tryd.prog.info? 27 = some i ∧ i.zero = some (.agg #[.int .u64 0, .int .u64 0]) ∧ i.size = 2 ∧ i.bytes = 16 := by
  have h := info27
  cases hi : Tryd.prog.info? 27 with
  | none => rw [hi] at h; cases h
  | some i =>
    rw [hi] at h
    simp only [Option.map_some, Option.some.injEq, Prod.mk.injEq] at h
    exact ⟨i, rfl, h.1, h.2.1, h.2.2⟩
theorem sv_of_owns {w : World} {B n : Nat} {v : Value} {l : List (Int × Int)} (h : w.ownsRow B 27 2 v n (flat l)) : SV w v l ∧ ∀ k, v.ownBlock = some k → B ≤ k ∧ k < w.heap.size := by
  have hn : l.length = n := by have := h.1; rw [flat_len] at this; omega
  refine ⟨?_, fun k hk => World.ownsRow.lt h k hk⟩
  rcases h.2 with ⟨rfl, rfl⟩ | ⟨g, cap, cur, rfl, hb, hg, h1, h2, h3, h4⟩
  · exact ⟨none, 0, by rw [hn], by omega, fun _ => rfl, fun h => by omega⟩
  · refine ⟨some ⟨g, 0, none⟩, cap, by rw [hn], by omega, fun h => (by cases h), fun _ => ⟨g, rfl, fun k hk => ?_⟩⟩
    obtain ⟨e1, e2⟩ := flat_get l k hk
    refine ⟨?_, ?_, World.ownsRow.frozenAt h _, World.ownsRow.frozenAt h _⟩
    · rw [World.ownsRow.cellAt h _ (by omega)]; exact e1
    · rw [World.ownsRow.cellAt h _ (by omega)]; exact e2

theorem app_clone {ops : Array Oper} {rest : List Oper} {o : Oper} {a : Act} {Q : Exit → Act → World → Prop} (hgd : o.guard = none) (s x : Operand)
    (ho : o.op = .call { callee := .builtin .append, args := #[s, x], argTypes := #[22, 22] }) {w : World} (B : Nat) (v : Value) (l : List (Int × Int)) (W : World)
    (hs : a.eval s = .slice (some ⟨W.heap.size, 0, none⟩) 0 0) (hx : a.eval x = v) (hw : w = W.alloc (.cells #[] 27)) (hr : WRow W v l) (hv : ∃ ad n c, v = .slice (some ad) n c) (hB : B ≤ W.heap.size) (hlen : l.length ≤ 1000000)
    (h : ∀ v' w1, SV w1 v' l → (∀ k, v'.ownBlock = some k → B ≤ k ∧ k < w1.heap.size) → Below B W w1 → wpList Tryd.prog ops Q rest (a.put o.dst v') w1) : wpList Tryd.prog ops Q (o :: rest) a w := by
  obtain ⟨i, hi, hz0, hz1, hz2⟩ := info27'
  subst hw
  have own : (W.alloc (.cells #[] 27)).ownsRow B 27 2 (.slice (some ⟨W.heap.size, 0, none⟩) 0 0) 0 [] :=
    ⟨rfl, .inr ⟨W.heap.size, 0, #[], rfl, hB, heap_alloc_new W _, Nat.le_refl _, by unfold maxLen; omega, rfl, rfl⟩⟩
  have hb : Below B W (W.alloc (.cells #[] 27)) := (Below.refl _ _).alloc hB _
  have hr' : WRow (W.alloc (.cells #[] 27)) v l := hr.below (below_alloc _ _)
  obtain ⟨ad, n, c, rfl⟩ := hv
  obtain ⟨p, cap, e, h1, h2, h3⟩ := hr'
  simp only [Value.slice.injEq] at e
  obtain ⟨rfl, rfl, rfl⟩ := e
  refine wpList_append_own _ hgd s x 22 ho B 27 i (.agg #[.int .u64 0, .int .u64 0]) 2 16 Tryd.underlying22 hi hz0 hz1 hz2 rfl (by decide) _ 0 _ hs own ad l.length c (flat l) hx (flat_len l) ?_ ?_ ?_ ?_ ?_ ?_
  · intro j u hj
    have hj' := (List.getElem?_eq_some_iff.1 hj).1
    rw [flat_len] at hj'
    obtain ⟨g, o, e, hc⟩ := h3 (by omega)
    obtain rfl := Option.some.inj e
    have hk : j / 2 < l.length := by omega
    obtain ⟨q0, q1⟩ := hc (j / 2) _ (List.getElem?_eq_getElem hk)
    obtain ⟨f0, f1⟩ := flat_get l (j / 2) hk
    have hadd : (⟨g, o, none⟩ : Addr).add j = ⟨g, o + j, none⟩ := by unfold Addr.add; split <;> simp_all
    rw [hadd]
    rcases Nat.mod_two_eq_zero_or_one j with hm | hm
    · rw [show j / 2 * 2 = j by omega] at f0 q0
      rw [hj] at f0
      rw [q0, ← f0]
    · rw [show j / 2 * 2 + 1 = j by omega] at f1
      rw [show o + j / 2 * 2 + 1 = o + j by omega] at q1
      rw [hj] at f1
      rw [q1, ← f1]
  · intro u hu
    simp only [flat, List.mem_flatMap] at hu
    obtain ⟨y, _, hu⟩ := hu
    simp at hu
    rcases hu with rfl | rfl <;> rfl
  · unfold maxLen; omega
  · omega
  · simp; omega
  · intro v' w1 h4 h5 _
    rw [List.nil_append] at h4
    obtain ⟨s1, s2⟩ := sv_of_owns h4
    refine h v' w1 s1 s2 ?_
    refine hb.trans ⟨h5.os, h5.tape, h5.output, h5.size, fun k hk => h5.block k (by simp; omega) ?_⟩
    simp [Value.ownBlock]; omega

set_option maxRecDepth 100000 in
set_option maxHeartbeats 2000000 in
theorem clone_any (v : Value) (l : List (Int × Int)) (w : World) (h : WRow w v l) (hn : l.length ≤ 1000000) :
    Calls Tryd.prog 30 #[v] w fun e w' => (∃ v', e = .returned v' ∧ SV w' v' l ∧ ∀ k, v'.ownBlock = some k → w.heap.size ≤ k ∧ k < w'.heap.size) ∧ Below w.heap.size w w' := by
  obtain ⟨p, cap, rfl, h1, h2, h3⟩ := id h
  have H := hid h
  cases p with
  | none =>
    have hc := h2 rfl
    subst hc
    have hl : l = [] := List.length_eq_zero_iff.1 (by omega)
    subst hl
    clear h h1 h2 h3
    have hc1 : ∀ w, (binOp .eql 22 (.slice none 0 0) (.slice none 0 0)).run Tryd.prog w = .ok (.bool true) w := fun w => by kernel_rfl
    go_enter Tryd.func30, Tryd.ntmps30
    go_wp2_with fail
    go_ret
    exact ⟨⟨_, rfl, ⟨none, 0, rfl, Nat.le_refl _, fun _ => rfl, fun h => by simp at h⟩, fun k hk => by cases hk⟩, Below.refl _ _⟩
  | some ad =>
    clear h h1 h2 h3
    have hc1 : ∀ n c w, (binOp .eql 22 (.slice (some ad) n c) (.slice none 0 0)).run Tryd.prog w = .ok (.bool false) w := fun n c w => by simp [binOp, run_equal_slice_nil w 22 27 (some ad) n c Tryd.underlying22]
    go_enter Tryd.func30, Tryd.ntmps30
    go_wp2_with (first | (at_builtin; refine app_clone rfl _ _ rfl w.heap.size (.slice (some ad) l.length cap) l w rfl rfl rfl H.out ⟨_, _, _, rfl⟩ (Nat.le_refl _) hn ?_))
    intro v' w1 s1 s2 s3
    have A1 := hid s1; have A2 := hid s2; have A3 := hid s3
    clear s1 s2 s3
    go_wp2_with fail
    go_ret
    exact ⟨⟨_, rfl, A1.out, A2.out⟩, A3.out⟩
end Go.Proofs.YtdpcfpmlkhdmkaaDoor
