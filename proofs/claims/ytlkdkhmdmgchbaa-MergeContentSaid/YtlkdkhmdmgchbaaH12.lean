/- copies of rows of pairs; rows in blocks of the call's own. -/
import Derived.Test.YtlkdkhmdmgchbaaH11
import Derived.Laws.CopyRow
import Derived.Laws.MakeOwn
namespace Go.Proofs.Ytlkdkhmdmgchbaa
set_option linter.unusedSimpArgs false
set_option linter.unusedVariables false
open Go.RowKit

/-- a row in a block that is new since block B, and may be written. -/
def PFr (B : Nat) (w : World) (v : Value) (l : List Pr) : Prop :=
  PRow w v l ∧ (0 < l.length → ∃ g o n c, v = .slice (some ⟨g, o, none⟩) n c ∧ B ≤ g ∧ ∃ cur t, w.heap[g]? = some (.cells cur t (0, 0)))
theorem PFr.keepK {K : Nat → Prop} {B : Nat} {w w' : World} {v : Value} {l : List Pr} (h : PFr B w v l) (hk : Keeps K w w') (hK : ∀ k, B ≤ k → K k) : PFr B w' v l := by
  obtain ⟨h1, h2⟩ := h
  refine ⟨?_, fun hl => ?_⟩
  · obtain ⟨p, cap, e, a1, a2, a4, a3⟩ := h1
    refine ⟨p, cap, e, a1, a2, a4, fun hl => ?_⟩
    obtain ⟨g, o, e', a3⟩ := a3 hl
    obtain ⟨g', o', n, c, e2, hB, cur, t, hg⟩ := h2 hl
    rw [e] at e2
    simp only [Value.slice.injEq] at e2
    obtain ⟨e3, -, -⟩ := e2
    rw [e'] at e3
    cases e3
    exact ⟨g, o, e', fun j x hj => ⟨(hk.cell (World.lt_of_cell (a3 j x hj).1) (hK _ hB)).trans (a3 j x hj).1, (hk.cell (World.lt_of_cell (a3 j x hj).2) (hK _ hB)).trans (a3 j x hj).2⟩⟩
  · obtain ⟨g, o, n, c, e2, hB, cur, t, hg⟩ := h2 hl
    exact ⟨g, o, n, c, e2, hB, cur, t, (hk.block g (Array.getElem?_eq_some_iff.1 hg).1 (hK _ hB)).trans hg⟩
theorem POwn.fr {B : Nat} {w : World} {v : Value} {l : List Pr} (h : POwn B w v l) : PFr B w v l := by
  refine ⟨h.row, fun hl => ?_⟩
  rcases h.2 with ⟨rfl, h0⟩ | ⟨g, cap, cur, rfl, hb, hg, h1, h2, h3, h4⟩
  · omega
  · exact ⟨g, 0, l.length, cap, rfl, hb, cur, _, hg⟩
theorem PFr.below {B : Nat} {w w' : World} {v : Value} {l : List Pr} (h : PFr B w v l) (hb : Below w.heap.size w w') : PFr B w' v l := h.keepK (Keeps.of_below (K := fun _ => True) hb) (fun _ _ => trivial)
theorem PFr.weaken {B B' : Nat} {w : World} {v : Value} {l : List Pr} (h : PFr B w v l) (hB : B' ≤ B) : PFr B' w v l :=
  ⟨h.1, fun hl => by obtain ⟨g, o, n, c, e, h1, r⟩ := h.2 hl; exact ⟨g, o, n, c, e, by omega, r⟩⟩
/-- 'l[:len(l):len(l)]'. -/
theorem POwn.clip {B : Nat} {w : World} {p : Option Addr} {n c : Nat} {l : List Pr} (h : POwn B w (.slice p n c) l) : PFr B w (.slice p l.length l.length) l := by
  obtain ⟨h1, h2⟩ := h.fr
  obtain ⟨p', cap, e, a1, a2, a4, a3⟩ := h1
  simp only [Value.slice.injEq] at e
  obtain ⟨rfl, -, rfl⟩ := e
  refine ⟨⟨p, l.length, rfl, Nat.le_refl _, fun hn => ?_, by omega, a3⟩, fun hl => ?_⟩
  · have := a2 hn; omega
  · obtain ⟨g, o, n', c', e2, r⟩ := h2 hl
    simp only [Value.slice.injEq] at e2
    obtain ⟨rfl, -, -⟩ := e2
    exact ⟨g, o, _, _, rfl, r⟩

/-- a copy of a row of pairs over a row of the same length. -/
theorem run_copy_pairs (w : World) (ty : TypeId) (g : Nat) (v : Value) (l : List Pr) (h : PRow w v l) (cur : Array Value) (t : TypeId) (hg : w.heap[g]? = some (.cells cur t (0, 0))) (hsz : cur.size = l.length * 2) :
    ∃ w', (Builtin.copy_ #[22, 22] ty #[.slice (some ⟨g, 0, none⟩) l.length l.length, v]).run Try.prog w = .ok (goInt l.length) w' ∧ w'.heap[g]? = some (.cells (flat l).toArray t (0, 0)) ∧ Keeps (fun k => k ≠ g) w w' := by
  obtain ⟨i, hi, hz0, hz1, hz2⟩ := infoP'
  have hu : Try.prog.underlying 22 = some (.slice 52) := Try.underlying22
  have hv := h
  rcases h.forms with ⟨ad, n, c, rfl⟩ | rfl
  · obtain ⟨p, cap, e, h1, h2, h4, h3⟩ := h
    simp only [Value.slice.injEq] at e
    obtain ⟨rfl, rfl, rfl⟩ := e
    have hsrc : ∀ j u, (flat l)[j]? = some u → w.cell? (ad.add j) = some u := by
      intro j u hj
      have hj' := (List.getElem?_eq_some_iff.1 hj).1
      rw [flat_len] at hj'
      obtain ⟨g, o, e, hc⟩ := h3 (by omega)
      obtain rfl := Option.some.inj e
      obtain ⟨q0, q1⟩ := hc (j / 2) _ (List.getElem?_eq_getElem (by omega))
      obtain ⟨f0, f1⟩ := flat_get l (j / 2) (by omega)
      have hadd : (⟨g, o, none⟩ : Addr).add j = ⟨g, o + j, none⟩ := by unfold Addr.add; split <;> simp_all
      rw [hadd]
      rcases Nat.mod_two_eq_zero_or_one j with hm | hm
      · rw [show j / 2 * 2 = j by omega] at f0 q0
        rw [hj] at f0
        rw [q0, ← f0]
      · rw [show j / 2 * 2 + 1 = j by omega] at f1
        rw [show o + j / 2 * 2 + 1 = o + j by omega] at q1
        rw [hj] at f1
        rw [q1, ← f1]
    have hone : ∀ u ∈ flat l, u.oneCell' = true := by
      intro u hu
      simp only [flat, List.mem_flatMap] at hu
      obtain ⟨y, _, hu⟩ := hu
      simp at hu
      rcases hu with rfl | rfl <;> rfl
    have hl := run_loadCells_list (P := Try.prog) w ad (flat l) hsrc
    have hst := run_storeCells_at Try.prog g 0 t (flat l) 0 cur w hg (by rw [flat_len]; omega) hone
    rw [flat_len] at hl
    refine ⟨_, by simp [Builtin.copy_, run_underlying hu, Builtin.lenOf, Builtin.firstCells, sizeOf, typeInfo, hi, hz1, hl, hst]; rfl, ?_, ?_⟩
    · rw [setRow_heap w g cur _ t _ hg]
      have hc : cur.toList.length = l.length * 2 := by simpa using hsz
      simp [flat_len, hsz]
    · exact ⟨rfl, rfl, rfl, by simp [World.setRow], fun k _ hk => setRow_other w g k _ hk⟩
  · obtain ⟨p, cap, e, _⟩ := h
    simp only [Value.slice.injEq] at e
    obtain rfl := List.length_eq_zero_iff.1 e.2.1.symm
    refine ⟨w, by simp [Builtin.copy_, run_underlying hu, Builtin.lenOf, Builtin.firstCells, sizeOf, typeInfo, hi, hz1, storeCells], ?_, Keeps.refl _ _⟩
    rw [hg]
    have : cur = #[] := Array.eq_empty_of_size_eq_zero (by simpa using hsz)
    rw [this]
    rfl
theorem wpList_copy_pairs {w : World} {ops : Array Oper} {rest : List Oper} {o : Oper} {a : Act} {Q : Exit → Act → World → Prop} (hgd : o.guard = none) (d s : Operand)
    (ho : o.op = .call { callee := .builtin .copy, args := #[d, s], argTypes := #[22, 22] }) (g : Nat) (v : Value) (l : List Pr) (hd : a.eval d = .slice (some ⟨g, 0, none⟩) l.length l.length) (hs : a.eval s = v)
    (h : PRow w v l) (cur : Array Value) (t : TypeId) (hg : w.heap[g]? = some (.cells cur t (0, 0))) (hsz : cur.size = l.length * 2)
    (hK : ∀ w', w'.heap[g]? = some (.cells (flat l).toArray t (0, 0)) → Keeps (fun k => k ≠ g) w w' → wpList Try.prog ops Q rest (a.put o.dst (goInt l.length)) w') : wpList Try.prog ops Q (o :: rest) a w := by
  refine wpList_plain hgd fun K hK' => ?_
  obtain ⟨w', hrun, h1, h2⟩ := run_copy_pairs w o.type g v l h cur t hg hsz
  unfold Oper.wp
  simp [execOp, ho, resolve, invoke, builtin, hd, hs, hrun, Result.andThen]
  exact hK' _ _ (hK w' h1 h2)
theorem POwn.of_heap {B g : Nat} {w : World} {l : List Pr} (hB : B ≤ g) (hl : l.length ≤ 100000000) (hg : w.heap[g]? = some (.cells (flat l).toArray 52 (0, 0))) : POwn B w (.slice (some ⟨g, 0, none⟩) l.length l.length) l :=
  ⟨flat_len l, .inr ⟨g, l.length, (flat l).toArray, rfl, hB, hg, Nat.le_refl _, by unfold maxLen; omega, by simp [flat_len], by rw [List.take_of_length_le (by simp [flat_len])]⟩⟩
theorem made_pairs (n : Nat) (hn : n ≤ 100000000) : ∃ c : Array Value, c.size = n * 2 ∧ ∀ W : World, (Instr.makeSlice 22 (.int .i64 (n : Int)) (.int .i64 (n : Int))).run Try.prog W = .ok (.slice (some ⟨W.heap.size, 0, none⟩) n n) (W.alloc (.cells c 52)) := by
  obtain ⟨i, hi, hz0, hz1, hz2⟩ := infoP'
  refine ⟨madeCells (Value.agg #[.int .u64 0, .int .u64 0]).cells (n * 2), size_madeCells _ _, fun W => ?_⟩
  have := run_make (P := Try.prog) W 22 52 i (.agg #[.int .u64 0, .int .u64 0]) Try.underlying22 hi hz0 .i64 .i64 (n : Int) (n : Int) (by omega) (Int.le_refl _) (by rw [hz2]; omega) (by omega)
  rw [hz1] at this
  simpa using this
end Go.Proofs.Ytlkdkhmdmgchbaa
