/- the document's merges: Step. -/
import Derived.Test.YtlkdkhmdmgchbaaF13
namespace Go.Proofs.Ytlkdkhmdmgchbaa
set_option linter.unusedSimpArgs false
set_option linter.unusedVariables false
open Go.RowKit

/-- a merge behind some steps. -/
def mstep (m : Mg) (n : Nat) : Mg := { m with at_ := ((m.at_.toNat + n : Nat) : Int), out := outL m.older m.newer m.oldest (m.at_.toNat + n) }

set_option maxRecDepth 100000 in
set_option maxHeartbeats 4000000 in
theorem refstep_any (oA oD nA nD uA uD : Value) (m : Mg) (n : Nat) (w : World) (h : MIs w oA oD nA nD uA uD m) (hs : m.small) (h0 : 0 ≤ m.at_) (h1 : m.at_.toNat + n ≤ (pairsL m.older m.newer).length) :
    Calls Try.prog 30 #[mval oA oD nA nD uA uD m.oldest m.at_, (.int .i64 (n))] w fun e w' => (∃ vA vD, e = .returned (mval oA oD nA nD vA vD m.oldest (mstep m n).at_) ∧ MIs w' oA oD nA nD vA vD (mstep m n)) ∧ Below w.heap.size w w' := by
  obtain ⟨p0, c0, rfl⟩ := h.o.1.form
  obtain ⟨p1, c1, rfl⟩ := h.o.2.form
  obtain ⟨p2, c2, rfl⟩ := h.n.1.form
  obtain ⟨p3, c3, rfl⟩ := h.n.2.form
  obtain ⟨p4, c4, rfl⟩ := h.u.1.form
  obtain ⟨p5, c5, rfl⟩ := h.u.2.form
  obtain ⟨t, u, ob, z, r⟩ := m
  obtain ⟨k, rfl⟩ := Int.eq_ofNat_of_zero_le h0
  simp only [Int.toNat_natCast] at *
  have hl := pairsL_len t u
  have hw : IntKind.i64.wrap ((k : Int) + (n : Int)) = ((k + n : Nat) : Int) := by
    have := hs.1; have := hs.2.1; have := hs.2.2.1; have := hs.2.2.2
    simp only at *
    rw [i64_ok _ (by omega) (by omega)]; omega
  have OT := hid (fun (W : World) (B : Below w.heap.size w W) => out_own _ _ _ _ _ _ ob ((k + n : Nat) : Int) t u r (k + n) W (h.o.below B) (h.n.below B) (h.u.below B) hs.1 hs.2.1 hs.2.2.1 hs.2.2.2 h1)
  have HO := hid (fun (W : World) (B : Below w.heap.size w W) => h.o.below B)
  have HN := hid (fun (W : World) (B : Below w.heap.size w W) => h.n.below B)
  have E : Hid (mstep ⟨t, u, ob, (k : Int), r⟩ n = ⟨t, u, ob, ((k + n : Nat) : Int), outL t u ob (k + n)⟩) := by show _ = _; simp [mstep]
  rw [E.out]
  clear E h hs hl h0 h1
  unfold mval at *
  generalize k + n = q at *
  simp only at *
  go_enter Try.func30, Try.ntmps30
  go_wp2_with fail
  refine (OT.out _ ?_).mono ?_
  · repeat' (first | exact Below.refl _ _ | with_reducible refine Below.alloc ?_ ?_ _ | with_reducible refine Below.setCell ?_ ?_ _ | with_reducible refine Below.drew ?_ | with_reducible refine below_drewN ?_ _ | refine Below.trans ?_ (Below.mono (by assumption) ?_))
    all_goals (first | omega | (simp <;> omega))
  rintro e wa ⟨⟨vA, vD, rfl, h5⟩, B⟩
  obtain ⟨pA, cA, rfl⟩ := h5.1.row.form
  obtain ⟨pD, cD, rfl⟩ := h5.2.row.form
  have H5 := hid h5
  clear h5
  have BEL : Hid (Below w.heap.size w wa) := by
    show Below _ _ _
    refine bel_step ?_ B
    repeat' (first | exact Below.refl _ _ | with_reducible refine Below.alloc ?_ ?_ _ | with_reducible refine Below.setCell ?_ ?_ _ | with_reducible refine Below.drew ?_ | with_reducible refine below_drewN ?_ _ | refine Below.trans ?_ (Below.mono (by assumption) ?_))
    all_goals (first | omega | (simp <;> omega))
  obtain ⟨r1, r2⟩ := bcell B
  have k0 := fun o => r1 w.heap.size o (by simp; omega)
  have k1 := fun o => r1 (w.heap.size + 1) o (by simp)
  have k2 := fun o => r2 w.heap.size o (by simp; omega)
  have k3 := fun o => r2 (w.heap.size + 1) o (by simp)
  clear r1 r2 B
  go_wp2_with fail
  have kA : Keeps (fun j => j ≠ w.heap.size ∧ j ≠ w.heap.size + 1) wa ((((((((((((((((((((wa).setCell ⟨w.heap.size, 6, none⟩ (.slice pA (outL t u ob q).1.length cA))).setCell ⟨w.heap.size, 7, none⟩ (.slice pD (outL t u ob q).2.length cD))).setCell ⟨w.heap.size + 1, 0, none⟩ (.slice p0 t.1.length c0))).setCell ⟨w.heap.size + 1, 1, none⟩ (.slice p1 t.2.length c1))).setCell ⟨w.heap.size + 1, 2, none⟩ (.slice p2 u.1.length c2))).setCell ⟨w.heap.size + 1, 3, none⟩ (.slice p3 u.2.length c3))).setCell ⟨w.heap.size + 1, 4, none⟩ (.bool ob))).setCell ⟨w.heap.size + 1, 5, none⟩ (.int .i64 (q : Int)))).setCell ⟨w.heap.size + 1, 6, none⟩ (.slice pA (outL t u ob q).1.length cA))).setCell ⟨w.heap.size + 1, 7, none⟩ (.slice pD (outL t u ob q).2.length cD)) := by
    repeat (refine Keeps.setCell ?_ (Or.inr (by simp)) _)
    exact Keeps.refl _ _
  refine bodyPost_ret (v := .agg #[.slice p0 t.1.length c0, .slice p1 t.2.length c1, .slice p2 u.1.length c2, .slice p3 u.2.length c3, .bool ob, .int .i64 (q : Int), .slice pA (outL t u ob q).1.length cA, .slice pD (outL t u ob q).2.length cD]) (by simp [results, Try.results30, go_sem, k0, k1, k2, k3]) rfl ⟨⟨_, _, rfl, ?_⟩, ?_⟩
  · generalize ((((((((((((((((((((wa).setCell ⟨w.heap.size, 6, none⟩ (.slice pA (outL t u ob q).1.length cA))).setCell ⟨w.heap.size, 7, none⟩ (.slice pD (outL t u ob q).2.length cD))).setCell ⟨w.heap.size + 1, 0, none⟩ (.slice p0 t.1.length c0))).setCell ⟨w.heap.size + 1, 1, none⟩ (.slice p1 t.2.length c1))).setCell ⟨w.heap.size + 1, 2, none⟩ (.slice p2 u.1.length c2))).setCell ⟨w.heap.size + 1, 3, none⟩ (.slice p3 u.2.length c3))).setCell ⟨w.heap.size + 1, 4, none⟩ (.bool ob))).setCell ⟨w.heap.size + 1, 5, none⟩ (.int .i64 (q : Int)))).setCell ⟨w.heap.size + 1, 6, none⟩ (.slice pA (outL t u ob q).1.length cA))).setCell ⟨w.heap.size + 1, 7, none⟩ (.slice pD (outL t u ob q).2.length cD)) = W at kA
    refine ⟨HO.out _ (bel_keep BEL.out kA (fun k hk => ?_)), HN.out _ (bel_keep BEL.out kA (fun k hk => ?_)), (H5.out.1.keepK kA ?_).row, (H5.out.2.keepK kA ?_).row⟩
    · omega
    · omega
    · intro j e
      have := H5.out.1.lt j e
      simp at this
      refine ⟨?_, ?_⟩ <;> omega
    · intro j e
      have := H5.out.2.lt j e
      simp at this
      refine ⟨?_, ?_⟩ <;> omega
  · generalize ((((((((((((((((((((wa).setCell ⟨w.heap.size, 6, none⟩ (.slice pA (outL t u ob q).1.length cA))).setCell ⟨w.heap.size, 7, none⟩ (.slice pD (outL t u ob q).2.length cD))).setCell ⟨w.heap.size + 1, 0, none⟩ (.slice p0 t.1.length c0))).setCell ⟨w.heap.size + 1, 1, none⟩ (.slice p1 t.2.length c1))).setCell ⟨w.heap.size + 1, 2, none⟩ (.slice p2 u.1.length c2))).setCell ⟨w.heap.size + 1, 3, none⟩ (.slice p3 u.2.length c3))).setCell ⟨w.heap.size + 1, 4, none⟩ (.bool ob))).setCell ⟨w.heap.size + 1, 5, none⟩ (.int .i64 (q : Int)))).setCell ⟨w.heap.size + 1, 6, none⟩ (.slice pA (outL t u ob q).1.length cA))).setCell ⟨w.heap.size + 1, 7, none⟩ (.slice pD (outL t u ob q).2.length cD)) = W at kA
    exact bel_keep BEL.out kA (fun k hk => by omega)
end Go.Proofs.Ytlkdkhmdmgchbaa
