/- rows of digits: Plus. -/
import Derived.Test.YtdpcfpmlkhdmkaaDoorR2
namespace Go.Proofs.YtdpcfpmlkhdmkaaDoor
open Go.RowKit

theorem Row.form {w : World} {v : Value} {l : List Int} (h : Row w v l) : ∃ p cap, v = .slice p l.length cap := by
  rcases h with ⟨rfl, rfl⟩ | ⟨g, cap, e, _⟩
  · exact ⟨none, 0, rfl⟩
  · exact ⟨_, cap, e⟩
theorem wrap_small (x : Int) (h0 : 0 ≤ x) (h1 : x ≤ 1000000000000) : IntKind.u64.wrap x = x := IntWalk.u64_in _ ⟨h0, by omega⟩

structure PlusI (w : World) (l m xs : List Int) (c : Int) (v v6 v7 : Value) (k : Nat) (wr : World) : Prop where
  e7 : v7 = (.int .i64 (k))
  e6 : v6 = (.int .u64 (c))
  c0 : 0 ≤ c
  c1 : c ≤ 1
  own : Own w.heap.size wr v xs
  xl : xs.length = k
  dg : Digs xs
  sum : numD xs + P16 k * c = numD (l.take k) + numD (m.take k)
  bel : Below w.heap.size w wr
  hk : k ≤ l.length + m.length + 1

theorem PlusI.end_ {w wr : World} {l m xs : List Int} {c : Int} {v v6 v7 : Value} {k : Nat} (h : PlusI w l m xs c v v6 v7 k wr) (h1 : ¬ k < l.length) (h2 : ¬ k < m.length) (h3 : ¬ 0 < c) :
    numD xs = numD l + numD m := by
  have := h.sum
  have h4 := h.c0
  rw [List.take_of_length_le (by omega), List.take_of_length_le (by omega), show c = 0 by omega] at this
  omega
theorem PlusI.next {w wr w1 : World} {l m xs : List Int} {c : Int} {v v6 v7 v' : Value} {k : Nat} (h : PlusI w l m xs c v v6 v7 k wr) (hl : Digs l) (hm : Digs m) (hg : k < l.length ∨ k < m.length ∨ 0 < c)
    (hown : Own w.heap.size w1 v' (xs ++ [(l.getD k 0 + m.getD k 0 + c) % 65536])) (hb : Below w.heap.size wr w1) :
    PlusI w l m (xs ++ [(l.getD k 0 + m.getD k 0 + c) % 65536]) ((l.getD k 0 + m.getD k 0 + c) / 65536) v' (.int .u64 ((l.getD k 0 + m.getD k 0 + c) / 65536)) (.int .i64 ((k + 1 : Nat))) (k + 1) w1 := by
  have a1 := hl.at k
  have a2 := hm.at k
  have a3 := h.c0
  have a4 := h.c1
  refine ⟨rfl, rfl, by omega, by omega, hown, by simp [h.xl], h.dg.snoc (by omega) (by omega), ?_, h.bel.trans hb, ?_⟩
  · rw [numD_snoc, numD_take_succ, numD_take_succ, h.xl, P16_succ]
    have := h.sum
    generalize l.getD k 0 = x at *
    generalize m.getD k 0 = y at *
    have e := Int.mul_ediv_add_emod (x + y + c) 65536
    have e2 : P16 k * (x + y + c) = P16 k * (65536 * ((x + y + c) / 65536) + (x + y + c) % 65536) := by rw [e]
    grind
  · have := h.hk
    rcases hg with hg | hg | hg
    · omega
    · omega
    · false_or_by_contra
      have hk : l.length + m.length + 1 ≤ k := by omega
      have e := h.sum
      rw [List.take_of_length_le (by omega), List.take_of_length_le (by omega)] at e
      have b1 := hl.lt
      have b2 := hm.lt
      have b3 := h.dg.lt
      have q1 : c = 1 := by omega
      have q2 := P16_le (show l.length ≤ k - 1 by omega)
      have q3 := P16_le (show m.length ≤ k - 1 by omega)
      have q4 : P16 k = 65536 * P16 (k - 1) := by rw [← P16_succ, show k - 1 + 1 = k by omega]
      have q5 := P16_pos (k - 1)
      rw [q1] at e
      omega

set_option maxRecDepth 100000 in
set_option maxHeartbeats 1000000 in
theorem plus_num (va vb : Value) (l m : List Int) (w : World) (hra : Row w va l) (hrb : Row w vb m) (hl : Digs l) (hm : Digs m) (hll : l.length ≤ 100000) (hml : m.length ≤ 100000) :
    Calls Tryd.prog 10 #[va, vb] w fun e w' => (∃ v', e = .returned v' ∧ Num w' v' (numD l + numD m)) ∧ Below w.heap.size w w' := by
  obtain ⟨pa, ca, rfl⟩ := hra.form
  obtain ⟨pb, cb, rfl⟩ := hrb.form
  have HRA := hid hra; have HRB := hid hrb; have HL := hid hl; have HM := hid hm
  clear hra hrb hl hm
  go_enter Tryd.func10, Tryd.ntmps10
  go_wp2_with fail
  go_loopw [5, 6, 7] (fun v v6 v7 wr => ∃ xs c k, PlusI w l m xs c v v6 v7 k wr) (fun _ _ v7 _ => l.length + m.length + 2 - (intOf v7).toNat)
  case atStart => exact ⟨[], 0, 0, rfl, rfl, by omega, by omega, Own.nil _ _, rfl, Digs.nil, by simp [numD], Below.refl _ _, by omega⟩
  case round =>
    obtain ⟨xs, c, k, I⟩ := hrel
    obtain ⟨rfl, rfl, c0, c1, own, xl, dg, sum, bel, hk⟩ := id I
    have size := bel.size
    have I := hid I
    have OWN := hid own; clear own
    have BEL := hid bel; clear bel
    have DG := hid dg; clear dg sum
    have RA := hid (HRA.out.below BEL.out)
    have RB := hid (HRB.out.below BEL.out)
    have a1 := HL.out.at k
    have a2 := HM.out.at k
    obtain ⟨x, hx⟩ : ∃ x, l.getD k 0 = x := ⟨_, rfl⟩
    obtain ⟨y, hy⟩ : ∃ y, m.getD k 0 = y := ⟨_, rfl⟩
    have CA' := at_any _ l k wr RA.out
    have CB' := at_any _ m k wr RB.out
    rw [hx] at CA'
    rw [hy] at CB'
    have CA := hid CA'
    have CB := hid CB'
    clear CA' CB'
    rw [hx] at a1
    rw [hy] at a2
    have HX := hid hx; have HY := hid hy; clear hx hy
    obtain ⟨a10, a11⟩ := a1
    obtain ⟨a20, a21⟩ := a2
    have w1 : IntKind.u64.wrap (x + y) = x + y := wrap_small _ (by omega) (by omega)
    have w2 : IntKind.u64.wrap (x + y + c) = x + y + c := wrap_small _ (by omega) (by omega)
    have hn0 : 0 ≤ x + y + c := by omega
    have w3 : (x + y + c).tdiv 65536 = (x + y + c) / 65536 := Int.tdiv_eq_ediv_of_nonneg hn0
    have w4 : IntKind.u64.wrap ((x + y + c) / 65536) = (x + y + c) / 65536 := wrap_small _ (by omega) (by omega)
    by_cases hgo : k < l.length ∨ k < m.length ∨ 0 < c
    · have G := hid hgo
      have key : (k : Int) < (l.length : Int) ∨ (¬ (k : Int) < (l.length : Int) ∧ (k : Int) < (m.length : Int)) ∨ (¬ (k : Int) < (l.length : Int) ∧ ¬ (k : Int) < (m.length : Int) ∧ 0 < c) := by omega
      clear hgo
      rcases key with g1 | ⟨g1, g2⟩ | ⟨g1, g2, g3⟩
      all_goals
        go_wp2_with fail
        ((with_reducible refine (CA.out).mono ?_); rintro e w' ⟨rfl, rfl⟩)
        go_wp2_with fail
        ((with_reducible refine (CB.out).mono ?_); rintro e w' ⟨rfl, rfl⟩)
        go_wp2_with (first | (at_builtin; refine app1 rfl _ _ rfl (w.heap.size) _ _ ((x + y + c) % 65536) wr rfl rfl rfl OWN.out size ?_ ?_))
        · omega
        · intro v' w1 hown hbel
          have HO := hid hown; clear hown
          have HB' := hid hbel; clear hbel
          go_wp2_with fail
          refine ⟨⟨xs ++ [(x + y + c) % 65536], (x + y + c) / 65536, k + 1, ?_⟩, ?_⟩
          · have := I.out.next HL.out HM.out G.out (by rw [HX.out, HY.out]; exact HO.out) HB'.out
            rw [HX.out, HY.out] at this
            exact this
          · simp [intOf]; omega
    · have h1 : ¬ (k : Int) < (l.length : Int) := by omega
      have h2 : ¬ (k : Int) < (m.length : Int) := by omega
      have h3 : ¬ 0 < c := by omega
      have E := hid (I.out.end_ (by omega) (by omega) h3)
      clear hgo
      go_wp2_with fail
      refine (trim_any _ xs _ OWN.out.row DG.out).mono ?_
      rintro e w' ⟨⟨v', rfl, hv⟩, rfl⟩
      have HV := hid hv; clear hv
      go_wp2_with fail
      go_ret
      refine ⟨⟨_, rfl, ?_⟩, BEL.out⟩
      rw [← E.out]; exact HV.out
end Go.Proofs.YtdpcfpmlkhdmkaaDoor
