/- rows of pairs: in memory, owned, appended to, cloned. -/
import Derived.Test.YtlkdkhmdmgchbaaB0
namespace Go.Proofs.Ytlkdkhmdmgchbaa
set_option linter.unusedSimpArgs false
set_option linter.unusedVariables false
open Go.RowKit

abbrev Pr := Int × Int
/-- the slice reads as these pairs. -/
def PRow (w : World) (v : Value) (l : List Pr) : Prop :=
  ∃ p cap, v = .slice p l.length cap ∧ l.length ≤ cap ∧ (p = none → cap = 0) ∧ cap ≤ 9223372036854775807 ∧ (0 < l.length → ∃ g o : Nat, p = some ⟨g, o, none⟩ ∧ ∀ j x, l[j]? = some x → w.cell? ⟨g, o + j * 2, none⟩ = some (.int .u64 (x.1)) ∧ w.cell? ⟨g, o + j * 2 + 1, none⟩ = some (.int .u64 (x.2)))
theorem PRow.below {w w' : World} {v : Value} {l : List Pr} (h : PRow w v l) (hb : Below w.heap.size w w') : PRow w' v l := by
  obtain ⟨p, cap, e, h1, h2, h4, h3⟩ := h
  refine ⟨p, cap, e, h1, h2, h4, fun hl => ?_⟩
  obtain ⟨g, o, e, h3⟩ := h3 hl
  exact ⟨g, o, e, fun j x hj => ⟨cellB hb (h3 j x hj).1, cellB hb (h3 j x hj).2⟩⟩
theorem PRow.form {w : World} {v : Value} {l : List Pr} (h : PRow w v l) : ∃ p cap, v = .slice p l.length cap := by
  obtain ⟨p, cap, e, _⟩ := h
  exact ⟨p, cap, e⟩
theorem PRow.len {w : World} {v : Value} {l : List Pr} (h : PRow w v l) : (l.length : Int) ≤ 9223372036854775807 := by
  obtain ⟨p, cap, e, h1, h2, h4, _⟩ := h
  omega
theorem PRow.nil (w : World) : PRow w (.slice none 0 0) [] := ⟨none, 0, rfl, Nat.le_refl _, fun _ => rfl, by omega, fun h => by simp at h⟩
theorem PRow.empty {w w' : World} {v : Value} (h : PRow w v []) : PRow w' v [] := by
  obtain ⟨p, cap, e, h1, h2, h4, _⟩ := h
  exact ⟨p, cap, e, h1, h2, h4, fun h => by simp at h⟩
theorem PRow.take {w : World} {p : Option Addr} {cap : Nat} {l : List Pr} (h : PRow w (.slice p l.length cap) l) (k : Nat) (hk : k ≤ l.length) : PRow w (.slice p k cap) (l.take k) := by
  obtain ⟨p', cap', e, h1, h2, h4, h3⟩ := h
  simp only [Value.slice.injEq, true_and] at e
  obtain ⟨rfl, rfl⟩ := e
  refine ⟨p, cap, by simp [Nat.min_eq_left hk], by simp; omega, h2, h4, fun hl => ?_⟩
  simp at hl
  obtain ⟨g, o, e, h3⟩ := h3 (by omega)
  refine ⟨g, o, e, fun j x hj => h3 j x ?_⟩
  rw [List.getElem?_take] at hj
  split at hj
  · exact hj
  · cases hj
theorem PRow.cell {w : World} {v : Value} {l : List Pr} (h : PRow w v l) (hl : 0 < l.length) : ∃ g o cap : Nat, v = .slice (some ⟨g, o, none⟩) l.length cap ∧ ∀ k (hk : k < l.length), w.cell? ⟨g, o + k * 2, none⟩ = some (.int .u64 (l[k].1)) ∧ w.cell? ⟨g, o + k * 2 + 1, none⟩ = some (.int .u64 (l[k].2)) := by
  obtain ⟨p, cap, e, h1, h2, h4, hx⟩ := h
  obtain ⟨g, o, rfl, hx'⟩ := hx hl
  exact ⟨g, o, cap, e, fun k hk => hx' k _ (List.getElem?_eq_getElem hk)⟩

def flat (l : List Pr) : List Value := l.flatMap fun x => [.int .u64 x.1, .int .u64 x.2]
theorem flat_len (l : List Pr) : (flat l).length = l.length * 2 := by
  induction l with
  | nil => rfl
  | cons x l ih =>
    have e : flat (x :: l) = .int .u64 x.1 :: .int .u64 x.2 :: flat l := rfl
    rw [e]
    simp only [List.length_cons, ih]
    omega
theorem flat_append (l m : List Pr) : flat (l ++ m) = flat l ++ flat m := by simp [flat]
theorem flat_get (l : List Pr) : ∀ k (h : k < l.length), (flat l)[k * 2]? = some (.int .u64 (l[k].1)) ∧ (flat l)[k * 2 + 1]? = some (.int .u64 (l[k].2)) := by
  induction l with
  | nil => intro k h; simp at h
  | cons x l ih =>
    intro k h
    have e : flat (x :: l) = .int .u64 x.1 :: .int .u64 x.2 :: flat l := rfl
    rw [e]
    cases k with
    | zero => exact ⟨rfl, rfl⟩
    | succ k =>
      have := ih k (by simpa using h)
      rw [show (k + 1) * 2 = k * 2 + 1 + 1 by omega]
      simpa using this
theorem infoP : (Try.prog.info? 52).map (fun i => (i.zero, i.size, i.bytes)) = some (some (.agg #[.int .u64 0, .int .u64 0]), 2, 16) := by kernel_rfl
theorem infoP' : ∃ i, Try.prog.info? 52 = some i ∧ i.zero = some (.agg #[.int .u64 0, .int .u64 0]) ∧ i.size = 2 ∧ i.bytes = 16 := by
  have h := infoP
  cases hi : Try.prog.info? 52 with
  | none => rw [hi] at h; cases h
  | some i =>
    rw [hi] at h
    simp only [Option.map_some, Option.some.injEq, Prod.mk.injEq] at h
    exact ⟨i, rfl, h.1, h.2.1, h.2.2⟩

/-- a slice that the call owns reads as these pairs. -/
def POwn (B : Nat) (w : World) (v : Value) (l : List Pr) : Prop := w.ownsRow B 52 2 v l.length (flat l)
theorem POwn.nil (B : Nat) (w : World) : POwn B w (.slice none 0 0) [] := World.ownsRow_nil _ _ _ _
theorem POwn.keeps {B B' : Nat} {w w' : World} {v : Value} {l : List Pr} (h : POwn B w v l) (hb : Below B' w w') (hB : w.heap.size ≤ B') : POwn B w' v l := by
  refine World.ownsRow.kept (row := none) h ⟨hb.os, hb.tape, hb.output, hb.size, fun k hk _ => hb.block k (by omega)⟩ ?_
  cases v.ownBlock <;> simp
theorem POwn.below {B : Nat} {w w' : World} {v : Value} {l : List Pr} (h : POwn B w v l) (hb : Below w.heap.size w w') : POwn B w' v l := h.keeps hb (Nat.le_refl _)
theorem POwn.lt {B : Nat} {w : World} {v : Value} {l : List Pr} (h : POwn B w v l) : ∀ k, v.ownBlock = some k → B ≤ k ∧ k < w.heap.size := fun k hk => World.ownsRow.lt h k hk
theorem POwn.row {B : Nat} {w : World} {v : Value} {l : List Pr} (h : POwn B w v l) : PRow w v l := by
  rcases h.2 with ⟨rfl, h0⟩ | ⟨g, cap, cur, rfl, hb, hg, h1, h2, h3, h4⟩
  · exact ⟨none, 0, by rw [h0], by omega, fun _ => rfl, by omega, fun h => by omega⟩
  · refine ⟨some ⟨g, 0, none⟩, cap, rfl, h1, fun h => (by cases h), by simpa [maxLen] using h2, fun _ => ⟨g, 0, rfl, fun k x hk => ?_⟩⟩
    obtain ⟨hk', rfl⟩ := List.getElem?_eq_some_iff.1 hk
    obtain ⟨e1, e2⟩ := flat_get l k hk'
    rw [Nat.zero_add]
    refine ⟨?_, ?_⟩
    · rw [World.ownsRow.cellAt h _ (by omega)]; exact e1
    · rw [World.ownsRow.cellAt h _ (by omega)]; exact e2
theorem POwn.weaken {B B' : Nat} {w : World} {v : Value} {l : List Pr} (h : POwn B w v l) (hB : B' ≤ B) : POwn B' w v l := by
  refine ⟨h.1, ?_⟩
  rcases h.2 with h | ⟨g, cap, cur, e, hb, rest⟩
  · exact .inl h
  · exact .inr ⟨g, cap, cur, e, by omega, rest⟩

/-- append one pair. -/
theorem app1 {ops : Array Oper} {rest : List Oper} {o : Oper} {a : Act} {Q : Exit → Act → World → Prop} (hgd : o.guard = none) (s x : Operand)
    (ho : o.op = .call { callee := .builtin .append, args := #[s, x], argTypes := #[22, 22] }) {w : World} (B : Nat) (v : Value) (l : List Pr) (c d : Int) (W : World)
    (hs : a.eval s = v) (hx : a.eval x = .slice (some ⟨W.heap.size, 0, none⟩) 1 1) (hw : w = W.alloc (.cells #[.int .u64 c, .int .u64 d] 52)) (own : POwn B W v l) (hB : B ≤ W.heap.size) (hlen : l.length ≤ 100000000)
    (h : ∀ v' w1, POwn B w1 v' (l ++ [(c, d)]) → Below B W w1 → wpList Try.prog ops Q rest (a.put o.dst v') w1) : wpList Try.prog ops Q (o :: rest) a w := by
  obtain ⟨i, hi, hz0, hz1, hz2⟩ := infoP'
  subst hw
  refine wpList_append_own _ hgd s x 22 ho B 52 i (.agg #[.int .u64 0, .int .u64 0]) 2 16 Try.underlying22 hi hz0 hz1 hz2 rfl (by decide) v l.length _ hs (World.ownsRow.alloc own _) ⟨W.heap.size, 0, none⟩ 1 1 [.int .u64 c, .int .u64 d] hx rfl ?_ ?_ ?_ ?_ ?_ ?_
  · intro j u hj
    match j, hj with
    | 0, hj => simp at hj; subst hj; simp [Addr.add]
    | 1, hj => simp at hj; subst hj; simp [Addr.add]
    | j + 2, hj => simp at hj
  · intro u hu; simp at hu; rcases hu with rfl | rfl <;> rfl
  · unfold maxLen; omega
  · omega
  · simp; omega
  · intro v' w1 h1 h2 _
    refine h v' w1 ?_ (Below.of_grown own h2 hB)
    unfold POwn
    rw [flat_append, List.length_append]
    exact h1

/-- append a row. -/
theorem app_row {ops : Array Oper} {rest : List Oper} {o : Oper} {a : Act} {Q : Exit → Act → World → Prop} (hgd : o.guard = none) (s x : Operand)
    (ho : o.op = .call { callee := .builtin .append, args := #[s, x], argTypes := #[22, 22] }) {w : World} (B : Nat) (vs v : Value) (ls l : List Pr)
    (hs : a.eval s = vs) (hx : a.eval x = v) (own : POwn B w vs ls) (hr : PRow w v l) (hv : (∃ ad n c, v = .slice (some ad) n c) ∨ v = .slice none 0 0) (hB : B ≤ w.heap.size) (hlen : ls.length + l.length ≤ 100000000)
    (h : ∀ v' w1, POwn B w1 v' (ls ++ l) → Below B w w1 → wpList Try.prog ops Q rest (a.put o.dst v') w1) : wpList Try.prog ops Q (o :: rest) a w := by
  obtain ⟨i, hi, hz0, hz1, hz2⟩ := infoP'
  rcases hv with ⟨ad, n, c, rfl⟩ | rfl
  · obtain ⟨p, cap, e, h1, h2, h4, h3⟩ := hr
    simp only [Value.slice.injEq] at e
    obtain ⟨rfl, rfl, rfl⟩ := e
    refine wpList_append_own _ hgd s x 22 ho B 52 i (.agg #[.int .u64 0, .int .u64 0]) 2 16 Try.underlying22 hi hz0 hz1 hz2 rfl (by decide) vs ls.length _ hs own ad l.length c (flat l) hx (flat_len l) ?_ ?_ ?_ ?_ hB ?_
    · intro j u hj
      have hj' := (List.getElem?_eq_some_iff.1 hj).1
      rw [flat_len] at hj'
      obtain ⟨g, o, e, hc⟩ := h3 (by omega)
      obtain rfl := Option.some.inj e
      have hk : j / 2 < l.length := by omega
      obtain ⟨q0, q1⟩ := hc (j / 2) _ (List.getElem?_eq_getElem hk)
      obtain ⟨f0, f1⟩ := flat_get l (j / 2) hk
      have hadd : (⟨g, o, none⟩ : Addr).add j = ⟨g, o + j, none⟩ := by unfold Addr.add; split <;> simp_all
      rw [hadd]
      rcases Nat.mod_two_eq_zero_or_one j with hm | hm
      · rw [show j / 2 * 2 = j by omega] at f0 q0
        rw [hj] at f0
        rw [q0, ← f0]
      · rw [show j / 2 * 2 + 1 = j by omega] at f1
        rw [show o + j / 2 * 2 + 1 = o + j by omega] at q1
        rw [hj] at f1
        rw [q1, ← f1]
    · intro u hu
      simp only [flat, List.mem_flatMap] at hu
      obtain ⟨y, _, hu⟩ := hu
      simp at hu
      rcases hu with rfl | rfl <;> rfl
    · unfold maxLen; omega
    · omega
    · intro v' w1 h4 h5 _
      refine h v' w1 ?_ ?_
      · unfold POwn
        rw [flat_append, List.length_append]
        exact h4
      · refine ⟨h5.os, h5.tape, h5.output, h5.size, fun k hk => h5.block k (by omega) ?_⟩
        intro e
        have := World.ownsRow.lt own k e.symm
        omega
  · obtain ⟨p, cap, e, h1, h2, h4, h3⟩ := hr
    simp only [Value.slice.injEq] at e
    have hl : l = [] := List.length_eq_zero_iff.1 e.2.1.symm
    subst hl
    refine wpList_append_own_none hgd s x 22 ho B 52 i 2 Try.underlying22 hi _ _ _ hs own hx ?_
    exact h _ _ (by rw [List.append_nil]; exact own) (Below.refl _ _)
theorem PRow.forms {w : World} {v : Value} {l : List Pr} (h : PRow w v l) : (∃ ad n c, v = .slice (some ad) n c) ∨ v = .slice none 0 0 := by
  obtain ⟨p, cap, e, h1, h2, _⟩ := h
  cases p with
  | none => have := h2 rfl; exact .inr (by rw [e, this, show l.length = 0 by omega])
  | some ad => exact .inl ⟨ad, _, _, e⟩

set_option maxRecDepth 100000 in
set_option maxHeartbeats 2000000 in
/-- slices.Clone: the same pairs, in memory of its own. -/
theorem clone_any (v : Value) (l : List Pr) (w : World) (h : PRow w v l) (hn : l.length ≤ 100000000) :
    Calls Try.prog 98 #[v] w fun e w' => (∃ v', e = .returned v' ∧ POwn w.heap.size w' v' l) ∧ Below w.heap.size w w' := by
  have H := hid h
  rcases h.forms with ⟨ad, n, c, rfl⟩ | rfl
  · clear h
    have hc1 : ∀ n c w, (binOp .eql 22 (.slice (some ad) n c) (.slice none 0 0)).run Try.prog w = .ok (.bool false) w := fun n c w => by simp [binOp, run_equal_slice_nil w 22 52 (some ad) n c Try.underlying22]
    have OW : Hid (POwn w.heap.size (w.alloc (.cells #[] 52)) (.slice (some ⟨w.heap.size, 0, none⟩) 0 0) []) :=
      ⟨rfl, .inr ⟨w.heap.size, 0, #[], rfl, Nat.le_refl _, heap_alloc_new w _, Nat.le_refl _, by unfold maxLen; omega, rfl, rfl⟩⟩
    have H1 := hid (H.out.below (below_alloc w (.cells #[] 52)))
    go_enter Try.func98, Try.ntmps98
    go_wp2_with (first | (at_builtin; refine app_row rfl _ _ rfl w.heap.size (.slice (some ⟨w.heap.size, 0, none⟩) 0 0) (.slice (some ad) n c) [] l rfl rfl OW.out H1.out (.inl ⟨_, _, _, rfl⟩) (by simp) (by simpa using hn) ?_))
    intro v' w1 s1 s2
    have A1 := hid s1; have A2 := hid ((below_alloc w (.cells #[] 52)).trans s2)
    clear s1 s2
    go_wp2_with fail
    go_ret
    exact ⟨⟨_, rfl, A1.out⟩, A2.out⟩
  · clear h
    have hl : l = [] := by
      obtain ⟨p, cap, e, _⟩ := H.out
      simp only [Value.slice.injEq] at e
      exact List.length_eq_zero_iff.1 e.2.1.symm
    subst hl
    have hc1 : ∀ w, (binOp .eql 22 (.slice none 0 0) (.slice none 0 0)).run Try.prog w = .ok (.bool true) w := fun w => by kernel_rfl
    go_enter Try.func98, Try.ntmps98
    go_wp2_with fail
    go_ret
    exact ⟨⟨_, rfl, POwn.nil _ _⟩, Below.refl _ _⟩
end Go.Proofs.Ytlkdkhmdmgchbaa
