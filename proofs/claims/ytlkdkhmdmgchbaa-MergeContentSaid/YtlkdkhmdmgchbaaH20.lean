/- the laws' merges: spoil. -/
import Derived.Test.YtlkdkhmdmgchbaaH17
namespace Go.Proofs.Ytlkdkhmdmgchbaa
set_option linter.unusedSimpArgs false
set_option linter.unusedVariables false
open Go.RowKit

/-- a slice all of whose pairs can be read and written, in blocks from B on, ahead of E. -/
def PSome (B E : Nat) (w : World) (p : Option Addr) (n : Nat) : Prop :=
  0 < n → ∃ g o : Nat, p = some ⟨g, o, none⟩ ∧ B ≤ g ∧ g < E ∧ (∃ cur t, w.heap[g]? = some (.cells cur t (0, 0))) ∧ (n : Int) ≤ 9223372036854775807 ∧ ∀ j, j < n → ∃ x y : Int, w.cell? ⟨g, o + j * 2, none⟩ = some (.int .u64 (x)) ∧ w.cell? ⟨g, o + j * 2 + 1, none⟩ = some (.int .u64 (y))
theorem PFr.some {B : Nat} {w : World} {v : Value} {l : List Pr} (h : PFr B w v l) (E : Nat) (hE : w.heap.size ≤ E) : ∃ p n c, v = .slice p n c ∧ PSome B E w p n := by
  obtain ⟨⟨p, cap, e, h1, h2, h3, h4⟩, h5⟩ := h
  refine ⟨p, l.length, cap, e, fun hn => ?_⟩
  obtain ⟨g, o, e1, h6⟩ := h4 hn
  obtain ⟨g', o', n', c', e2, hb, hg⟩ := h5 hn
  rw [e] at e2
  simp only [Value.slice.injEq] at e2
  obtain ⟨e2, -, -⟩ := e2
  rw [e1] at e2
  simp only [Option.some.injEq, Addr.mk.injEq, and_true] at e2
  obtain ⟨rfl, rfl⟩ := e2
  obtain ⟨cur, t, hg⟩ := hg
  exact ⟨g, o, e1, hb, by have := ltH hg; omega, ⟨cur, t, hg⟩, by omega, fun j hj => ⟨_, _, h6 j _ (List.getElem?_eq_getElem hj)⟩⟩
theorem PSome.keepK {K : Nat → Prop} {B E : Nat} {w w' : World} {p : Option Addr} {n : Nat} (h : PSome B E w p n) (hk : Keeps K w w') (hK : ∀ k, B ≤ k → k < E → K k) : PSome B E w' p n := by
  intro hn
  obtain ⟨g, o, e, h1, h2, ⟨cur, t, hg⟩, hm, h3⟩ := h hn
  exact ⟨g, o, e, h1, h2, ⟨cur, t, (hk.block _ (ltH hg) (hK _ h1 h2)).trans hg⟩, hm, fun j hj => by
    obtain ⟨x, y, a, b⟩ := h3 j hj
    exact ⟨x, y, (hk.cell (ltH hg) (hK _ h1 h2)).trans a, (hk.cell (ltH hg) (hK _ h1 h2)).trans b⟩⟩
theorem PSome.below {B E : Nat} {w w' : World} {p : Option Addr} {n : Nat} (h : PSome B E w p n) (hb : Below w.heap.size w w') : PSome B E w' p n := h.keepK (Keeps.of_below (K := fun _ => True) hb) (fun _ _ _ => trivial)
theorem cell_setSome {w : World} {g i g' i' : Nat} {x x' z : Int} (hc : w.cell? ⟨g', i', none⟩ = some (.int .u64 (x'))) (h : w.cell? ⟨g, i, none⟩ = some (.int .u64 (x))) : ∃ y : Int, (w.setCell ⟨g', i', none⟩ (.int .u64 (z))).cell? ⟨g, i, none⟩ = some (.int .u64 (y)) := by
  by_cases e : (⟨g', i', none⟩ : Addr) = ⟨g, i, none⟩
  · rw [← e]; exact ⟨z, World.cell?_setCell_same _ _ _ hc⟩
  · exact ⟨x, (World.cell?_setCell_other _ _ _ _ e).trans h⟩
theorem PSome.set {B E : Nat} {w : World} {p : Option Addr} {n g' i' : Nat} {x' z : Int} (h : PSome B E w p n) (hc : w.cell? ⟨g', i', none⟩ = some (.int .u64 (x'))) : PSome B E (w.setCell ⟨g', i', none⟩ (.int .u64 (z))) p n := by
  intro hn
  obtain ⟨g, o, e, h1, h2, ⟨cur, t, hg⟩, hm, h3⟩ := h hn
  refine ⟨g, o, e, h1, h2, ?_, hm, fun j hj => ?_⟩
  · by_cases e : g = g'
    · subst e
      exact ⟨_, _, setCell_heap_same hg⟩
    · exact ⟨cur, t, (Below.heap_setCell _ _ _ _ e).trans hg⟩
  · obtain ⟨x, y, a, b⟩ := h3 j hj
    obtain ⟨x1, a1⟩ := cell_setSome (z := z) hc a
    obtain ⟨y1, b1⟩ := cell_setSome (z := z) hc b
    exact ⟨x1, y1, a1, b1⟩
theorem PSome.at {B E : Nat} {w : World} {p : Option Addr} {n : Nat} (h : PSome B E w p n) (j : Nat) (hj : j < n) : ∃ (g o : Nat) (x y : Int), p = some ⟨g, o, none⟩ ∧ B ≤ g ∧ g < E ∧ w.cell? ⟨g, o + j * 2, none⟩ = some (.int .u64 (x)) ∧ w.cell? ⟨g, o + j * 2 + 1, none⟩ = some (.int .u64 (y)) ∧ w.frozen? ⟨g, o + j * 2, none⟩ = false ∧ w.frozen? ⟨g, o + j * 2 + 1, none⟩ = false ∧ g < w.heap.size ∧ (n : Int) ≤ 9223372036854775807 := by
  obtain ⟨g, o, e, h1, h2, ⟨cur, t, hg⟩, hm, h3⟩ := h (by omega)
  obtain ⟨x, y, a, b⟩ := h3 j hj
  exact ⟨g, o, x, y, e, h1, h2, a, b, freeH hg, freeH hg, ltH hg, hm⟩

/-- while a row of rows is written over. -/
structure SpI (w : World) (B E T m : Nat) (vs : List Value) (W : World) : Prop where
  keeps : Keeps (fun k => k < B ∨ E ≤ k) w W
  rows : ∀ k, k < m → ∃ p n c, W.cell? ⟨T, k, none⟩ = some (.slice p n c) ∧ PSome B E W p n ∧ vs[k]? = some (.slice p n c)
  lt : T < W.heap.size
theorem SpI.set {w : World} {B E T m : Nat} {vs : List Value} {W : World} (h : SpI w B E T m vs W) (hT : E ≤ T) {g i : Nat} {x z : Int} (hc : W.cell? ⟨g, i, none⟩ = some (.int .u64 (x))) (h1 : B ≤ g) (h2 : g < E) : SpI w B E T m vs (W.setCell ⟨g, i, none⟩ (.int .u64 (z))) :=
  ⟨h.keeps.setCell (Or.inr (by simp <;> omega)) _, fun k hk => by
    obtain ⟨p, n, c, a, b, d⟩ := h.rows k hk
    exact ⟨p, n, c, (World.cell?_setCell_other _ _ _ _ (by simp <;> omega)).trans a, b.set hc, d⟩, by simpa using h.lt⟩

set_option maxRecDepth 100000 in
set_option maxHeartbeats 2000000 in
theorem lspoil_any (B E : Nat) (p0 p1 p2 p3 p4 p5 : Option Addr) (n0 n1 n2 n3 n4 n5 c0 c1 c2 c3 c4 c5 : Nat) (ob : Bool) (n : Int) (w : World) (h0 : PSome B E w p0 n0) (h1 : PSome B E w p1 n1) (h2 : PSome B E w p2 n2) (h3 : PSome B E w p3 n3) (h4 : PSome B E w p4 n4) (h5 : PSome B E w p5 n5) (hE : E ≤ w.heap.size) :
    Calls Try.prog 33 #[.agg #[.slice p0 n0 c0, .slice p1 n1 c1, .slice p2 n2 c2, .slice p3 n3 c3, .bool ob, .int .i64 n, .slice p4 n4 c4, .slice p5 n5 c5]] w fun e w' => e = .returned (.tuple #[]) ∧ Keeps (fun k => k < B ∨ E ≤ k) w w' := by
  have H := hid (fun (W : World) (hb : Below w.heap.size w W) => And.intro (h0.below hb) (And.intro (h1.below hb) (And.intro (h2.below hb) (And.intro (h3.below hb) (And.intro (h4.below hb) (h5.below hb))))))
  clear h0 h1 h2 h3 h4 h5
  go_enter Try.func33, Try.ntmps33
  go_wp2_with fail
  have I0 : Hid (SpI w B E (w.heap.size + 1) 6 [.slice p0 n0 c0, .slice p1 n1 c1, .slice p2 n2 c2, .slice p3 n3 c3, .slice p4 n4 c4, .slice p5 n5 c5] ((w.alloc (.cells #[.slice p0 n0 c0, .slice p1 n1 c1, .slice p2 n2 c2, .slice p3 n3 c3, .bool ob, .int .i64 n, .slice p4 n4 c4, .slice p5 n5 c5] 26)).alloc (.cells #[.slice p0 n0 c0, .slice p1 n1 c1, .slice p2 n2 c2, .slice p3 n3 c3, .slice p4 n4 c4, .slice p5 n5 c5] 22))) := by
    have hb : Below w.heap.size w ((w.alloc (.cells #[.slice p0 n0 c0, .slice p1 n1 c1, .slice p2 n2 c2, .slice p3 n3 c3, .bool ob, .int .i64 n, .slice p4 n4 c4, .slice p5 n5 c5] 26)).alloc (.cells #[.slice p0 n0 c0, .slice p1 n1 c1, .slice p2 n2 c2, .slice p3 n3 c3, .slice p4 n4 c4, .slice p5 n5 c5] 22)) := bel_step (below_alloc _ _) (below_alloc _ _)
    obtain ⟨h0, h1, h2, h3, h4, h5⟩ := H.out _ hb
    refine ⟨Keeps.of_below hb, fun k hk => ?_, by simp⟩
    match k, hk with
    | 0, _ => exact ⟨p0, n0, c0, by go_simp, h0, rfl⟩
    | 1, _ => exact ⟨p1, n1, c1, by go_simp, h1, rfl⟩
    | 2, _ => exact ⟨p2, n2, c2, by go_simp, h2, rfl⟩
    | 3, _ => exact ⟨p3, n3, c3, by go_simp, h3, rfl⟩
    | 4, _ => exact ⟨p4, n4, c4, by go_simp, h4, rfl⟩
    | 5, _ => exact ⟨p5, n5, c5, by go_simp, h5, rfl⟩
  clear H
  generalize [Value.slice p0 n0 c0, .slice p1 n1 c1, .slice p2 n2 c2, .slice p3 n3 c3, .slice p4 n4 c4, .slice p5 n5 c5] = vs at I0
  go_loopw [25] (fun v25 wr => ∃ k : Nat, v25 = (.int .i64 (k)) ∧ k ≤ 6 ∧ Hid (SpI w B E (w.heap.size + 1) 6 vs wr)) (fun v25 _ => 6 - (intOf v25).toNat)
  case atStart => exact ⟨0, rfl, Nat.zero_le _, I0⟩
  case round =>
    clear I0
    obtain ⟨k, rfl, hk, I⟩ := hrel
    by_cases hgo : k < 6
    · have hgo' : (k : Int) < 6 := by omega
      obtain ⟨p, m, c, h1, -, hv⟩ := I.out.rows k hgo
      have HV := hid hv; clear hv
      go_wp2_with fail
      clear h1
      go_loopw [31] (fun v31 wr => ∃ j : Nat, v31 = (.int .i64 (j)) ∧ j ≤ m ∧ Hid (SpI w B E (w.heap.size + 1) 6 vs wr)) (fun v31 _ => m - (intOf v31).toNat)
      case atStart => exact ⟨0, rfl, Nat.zero_le _, I⟩
      case round =>
        clear I
        obtain ⟨j, rfl, hj, I⟩ := hrel
        by_cases hgo2 : j < m
        · have hgo2' : (j : Int) < (m : Int) := by omega
          obtain ⟨p', m', c', -, h2, hv⟩ := I.out.rows k hgo
          have hv := hv.symm.trans HV.out
          simp only [Option.some.injEq, Value.slice.injEq] at hv
          obtain ⟨rfl, rfl, rfl⟩ := hv
          obtain ⟨g, o, x, y, rfl, b1, b2, x0, x1, f0, f1, lt, hm⟩ := h2.at j hgo2
          have J := hid (fun (z : Int) => I.out.set (z := z) (by omega) x0 b1 b2)
          have hw : IntKind.i64.wrap ((j : Int) + 1) = ((j + 1 : Nat) : Int) := by rw [i64_ok _ (by omega) (by omega)]; omega
          clear I hm h2 hv HV
          go_wp2_with fail
          exact ⟨⟨j + 1, by simp, hgo2, J.out _⟩, by simp [intOf]; omega⟩
        · have h1' : ¬ (j : Int) < (m : Int) := by omega
          clear hgo2
          go_wp2_with fail
          exact ⟨⟨k + 1, by simp, hgo, I⟩, by simp [intOf]; omega⟩
    · have h1' : ¬ (k : Int) < 6 := by omega
      clear hgo
      go_wp2_with fail
      go_end0
      exact ⟨rfl, I.out.keeps⟩
end Go.Proofs.Ytlkdkhmdmgchbaa
