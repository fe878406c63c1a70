/- the laws' merges: rows in memory of their own. -/
import Derived.Test.YtlkdkhmdmgchbaaH14
namespace Go.Proofs.Ytlkdkhmdmgchbaa
set_option linter.unusedSimpArgs false
set_option linter.unusedVariables false
open Go.RowKit

theorem take_min {α : Type} (l : List α) (n : Nat) : l.take (min l.length n) = l.take n := by
  rcases Nat.le_total l.length n with h | h
  · rw [Nat.min_eq_left h, List.take_of_length_le (Nat.le_refl _), List.take_of_length_le h]
  · rw [Nat.min_eq_right h]
theorem PRow.cut {w : World} {p : Option Addr} {cap : Nat} {l : List Pr} (h : PRow w (.slice p l.length cap) l) (n : Nat) : PRow w (.slice p (min l.length n) cap) (l.take n) := by
  have := h.take (min l.length n) (Nat.min_le_left _ _)
  rwa [take_min] at this
/-- what 'l[:min(len(l), n)]' asks. -/
structure Cut (l : List Pr) (n : Int) (c q : Nat) : Prop where
  m : (if n < (l.length : Int) then n else (l.length : Int)) = (q : Int)
  lo : (0 : Int) ≤ (q : Int)
  hi : (q : Int) ≤ (c : Int)
  le : q ≤ c
theorem PRow.cutAt {w : World} {p : Option Addr} {cap : Nat} {l : List Pr} (h : PRow w (.slice p l.length cap) l) (n : Nat) (N : Int) (hN : N = (n : Int)) : ∃ q, Cut l N cap q ∧ PRow w (.slice p q cap) (l.take n) := by
  refine ⟨min l.length n, ?_, h.cut n⟩
  obtain ⟨p', cap', e, h1, _⟩ := h
  simp only [Value.slice.injEq, true_and] at e
  subst hN
  exact ⟨by split <;> omega, by omega, by omega, by omega⟩

set_option maxRecDepth 100000 in
set_option maxHeartbeats 2000000 in
theorem same12_any (n : Int) (w : World) : Calls Try.prog 97 #[(.int .u64 (n))] w fun e w' => e = .returned (.agg #[(.int .u64 (n)), (.int .u64 (n))]) ∧ Below w.heap.size w w' := by
  go_enter Try.func97, Try.ntmps97
  go_wp2_with fail
  exact ⟨rfl, .agg #[(.int .u64 (n)), (.int .u64 (n))], by simp [results, Try.results97, go_sem], rfl, below_alloc _ _⟩

set_option maxRecDepth 100000 in
set_option maxHeartbeats 2000000 in
theorem lowntier_any (vA vD : Value) (t : Tr) (w : World) (h : TPair w vA vD t) :
    Calls Try.prog 39 #[.agg #[vA, vD]] w fun e w' => (∃ uA uD, e = .returned (.agg #[uA, uD]) ∧ TFr w.heap.size w' uA uD (t.1.take 24, t.2.take 24)) ∧ Below w.heap.size w w' := by
  obtain ⟨p0, c0, rfl⟩ := h.1.form
  obtain ⟨p1, c1, rfl⟩ := h.2.form
  obtain ⟨q0, k0, r0⟩ := h.1.cutAt 24 24 rfl
  obtain ⟨q1, k1, r1⟩ := h.2.cutAt 24 24 rfl
  have C1 := hid (fun (W : World) (B : Below w.heap.size w W) => clone_any _ _ W (r0.below B) (by simp; omega))
  have C2 := hid (fun (W : World) (B : Below w.heap.size w W) => clone_any _ _ W (r1.below B) (by simp; omega))
  have st := OT.new w (.slice p0 t.1.length c0) (.slice p1 t.2.length c1)
  clear h r0 r1
  obtain ⟨m0, a0, b0, d0⟩ := k0
  obtain ⟨m1, a1, b1, d1⟩ := k1
  generalize t.1.take 24 = la at *
  generalize t.2.take 24 = lb at *
  go_enter Try.func39, Try.ntmps39
  go_wp2_with fail
  generalize ((w.alloc (.cells #[.slice p0 t.1.length c0, .slice p1 t.2.length c1] 24)).alloc (.cells #[.slice none 0 0, .slice none 0 0] 24)) = W0 at *
  replace st : OT w (.slice p0 t.1.length c0) (.slice p1 t.2.length c1) W0.drew := st.keep (below_drew _)
  obtain ⟨z0, z0', z1, z2, z3, z4, z5, z6, z7⟩ := id st
  go_region_held3 (fun W => W.cell? ⟨w.heap.size, 0, none⟩ = some (.slice p0 t.1.length c0) ∧ W.cell? ⟨w.heap.size, 1, none⟩ = some (.slice p1 t.2.length c1)) (first | exact ⟨by assumption, by assumption⟩ | assumption | go_keep)
    (first | (go_at_call 98; first | (refine (C1.out _ (st.1)).mono ?_; rintro e wa ⟨⟨v1, rfl, h1⟩, B⟩; have hx := OT.keep st B; obtain ⟨q0, d0, rfl⟩ := h1.row.form; have g1 := hid (h1.fr.weaken (show w.heap.size + 2 ≤ _ from st.2.2.1)); clear h1 B) | (refine (C2.out _ (hx.1)).mono ?_; rintro e wb ⟨⟨v2, rfl, h2⟩, B2⟩; have hy := OT.keep hx B2; obtain ⟨q1, d1, rfl⟩ := h2.row.form; have g2 := hid (h2.fr.weaken (show w.heap.size + 2 ≤ _ from hx.2.2.1)); have g3 := hid (g1.out.below B2); clear h2 B2 g1; obtain ⟨y0, y0', y1, y2, y3, y4, y5, y6, y7⟩ := id hy)))
  all_goals
    have ks : Keeps (fun k => k ≠ w.heap.size + 1) wb ((wb.setCell ⟨w.heap.size + 1, 0, none⟩ (.slice q0 la.length d0)).setCell ⟨w.heap.size + 1, 1, none⟩ (.slice q1 lb.length d1)) :=
      ((Keeps.refl _ _).setCell (Or.inr (by simp)) _).setCell (Or.inr (by simp)) _
    have n0 : ((wb.setCell ⟨w.heap.size + 1, 0, none⟩ (.slice q0 la.length d0)).setCell ⟨w.heap.size + 1, 1, none⟩ (.slice q1 lb.length d1)).cell? ⟨w.heap.size + 1, 0, none⟩ = some (.slice q0 la.length d0) := by go_simp
    have n1 : ((wb.setCell ⟨w.heap.size + 1, 0, none⟩ (.slice q0 la.length d0)).setCell ⟨w.heap.size + 1, 1, none⟩ (.slice q1 lb.length d1)).cell? ⟨w.heap.size + 1, 1, none⟩ = some (.slice q1 lb.length d1) := by go_simp
    generalize ((wb.setCell ⟨w.heap.size + 1, 0, none⟩ (.slice q0 la.length d0)).setCell ⟨w.heap.size + 1, 1, none⟩ (.slice q1 lb.length d1)) = W2 at *
    have F : Hid (TFr w.heap.size W2 (.slice q0 la.length d0) (.slice q1 lb.length d1) (la, lb) ∧ Below w.heap.size w W2) :=
      ⟨⟨(g3.out.keepK ks (fun k hk => by omega)).weaken (by omega), (g2.out.keepK ks (fun k hk => by omega)).weaken (by omega)⟩, bel_keep y0 ks (fun k hk => by omega)⟩
    clear ks y0 y0' y1 y2 y3 y4 y5 y6 y7 z0 z0' z1 z2 z3 z4 z5 z6 z7 C1 C2 g2 g3
    go_wp2_with fail
    refine ⟨rfl, .agg #[.slice q0 la.length d0, .slice q1 lb.length d1], by simp [results, Try.results39, go_sem, n0, n1], ⟨_, _, rfl, F.out.1⟩, F.out.2⟩
end Go.Proofs.Ytlkdkhmdmgchbaa
