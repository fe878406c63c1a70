/- rows of digits: Compare of the document. -/
import Derived.Test.YtdpcfpmlkhdmkaaDoorR5
namespace Go.Proofs.YtdpcfpmlkhdmkaaDoor
open Go.RowKit

/-- from the end on all digits are alike down to k. -/
theorem cmp_step_lt {l m : List Int} (hl : Digs l) (hm : Digs m) (k : Nat) (hkl : k < l.length) (hkm : k < m.length) (hd : l.drop (k + 1) = m.drop (k + 1)) (hlen : l.length = m.length) (h : l.getD k 0 < m.getD k 0) : numD l < numD m := by
  have e1 : numD l = numD (l.take (k + 1)) + P16 (k + 1) * numD (l.drop (k + 1)) := by
    have := numD_append (l.take (k + 1)) (l.drop (k + 1))
    rw [List.take_append_drop, List.length_take, Nat.min_eq_left (by omega)] at this
    exact this
  have e2 : numD m = numD (m.take (k + 1)) + P16 (k + 1) * numD (m.drop (k + 1)) := by
    have := numD_append (m.take (k + 1)) (m.drop (k + 1))
    rw [List.take_append_drop, List.length_take, Nat.min_eq_left (by omega)] at this
    exact this
  rw [e1, e2, hd, numD_take_succ, numD_take_succ]
  have a := (hl.take k).lt
  have b := (hm.take k).lt
  rw [List.length_take, Nat.min_eq_left (by omega)] at a b
  have : P16 k * (l.getD k 0 + 1) ≤ P16 k * m.getD k 0 := Int.mul_le_mul_of_nonneg_left (by omega) (Int.le_of_lt (P16_pos k))
  rw [Int.mul_add] at this
  omega
theorem cmp_len {l m : List Int} (hl : Digs l) (hm : Digs m) (tm : Trim m) (h : l.length < m.length) : numD l < numD m := by
  have a := hl.lt
  have b := tm.ge hm (by intro e; rw [e] at h; simp at h)
  have := P16_le (show l.length ≤ m.length - 1 by omega)
  omega
theorem cmpI_lt {x y : Int} (h : x < y) : cmpI x y = -1 := by unfold cmpI; rw [if_pos h]
theorem cmpI_gt {x y : Int} (h : y < x) : cmpI x y = 1 := by unfold cmpI; rw [if_neg (by omega), if_pos h]
theorem cmpI_eq (x : Int) : cmpI x x = 0 := by unfold cmpI; rw [if_neg (by omega), if_neg (by omega)]
theorem drop_eq_cons {l m : List Int} {k : Nat} (hkl : k < l.length) (hkm : k < m.length) (h : l.getD k 0 = m.getD k 0) (hd : l.drop (k + 1) = m.drop (k + 1)) : l.drop k = m.drop k := by
  rw [List.drop_eq_getElem_cons hkl, List.drop_eq_getElem_cons hkm, ← getD_in l k hkl, ← getD_in m k hkm, h, hd]

set_option maxRecDepth 100000 in
set_option maxHeartbeats 1000000 in
theorem refcmp_any (a b c d : Int) (w : World) (ha : U64 a) (hb : U64 b) (hc : U64 c) (hd : U64 d) :
    Calls Tryd.prog 19 #[.agg #[(.int .u64 (a)), (.int .u64 (b))], .agg #[(.int .u64 (c)), (.int .u64 (d))]] w fun e w' => e = .returned (.int .i64 (cmpI (W128 a b) (W128 c d))) ∧ Below w.heap.size w w' := by
  have D1 := hid (fun w => rdigits_any a b w ha hb)
  have D2 := hid (fun w => rdigits_any c d w hc hd)
  go_enter Tryd.func19, Tryd.ntmps19
  go_upto_region 1 with fail
  go_cut [5, 6] (fun s5 s6 wc => Hid (Num wc s5 (W128 a b) ∧ Num wc s6 (W128 c d) ∧ Below w.heap.size w wc))
  case first =>
    go_region_with (first | (go_at_call_of 11 a; refine (D1.out _).mono ?_; rintro e w1 ⟨⟨v1, rfl, n1⟩, b1⟩; have N1 := hid n1; clear n1; (try simp only [World.size_drew, World.size_alloc] at b1); obtain ⟨ca, fa, sa, na, na'⟩ := later b1 (w.heap.size + 1 + 1) (by simp) (by simp)) | (go_at_call_of 11 c; refine (D2.out _).mono ?_; rintro e w2 ⟨⟨v2, rfl, n2⟩, b2⟩; have N2 := hid n2; clear n2; (try simp only [World.size_drew, World.size_alloc] at b2)))
    all_goals
      go_wp2_with fail
      go_meet
      refine ⟨N1.out.below b2, N2.out, ?_⟩
      have zz0 := b1.size; try simp at zz0
      have zz1 := b2.size; try simp at zz1
      repeat' (first | exact Below.refl _ _ | with_reducible refine Below.alloc ?_ ?_ _ | with_reducible refine Below.setCell ?_ ?_ _ | with_reducible refine Below.drew ?_ | with_reducible refine below_drewN ?_ _ | refine Below.trans ?_ (Below.mono (by assumption) ?_))
      all_goals (first | omega | (simp <;> omega))
  case rest =>
    obtain ⟨⟨l, hrl, dl, tl, nl⟩, ⟨m, hrm, dm, tm, nm⟩, bel⟩ := hcut.out
    obtain ⟨pa, ca, rfl⟩ := hrl.form
    obtain ⟨pb, cb, rfl⟩ := hrm.form
    have RL := hid hrl; have RM := hid hrm; have DL := hid dl; have DM := hid dm; have TL := hid tl; have TM := hid tm
    have BEL := hid bel
    clear hrl hrm dl dm tl tm bel hcut D1 D2
    have NL := hid nl.symm; have NM := hid nm.symm
    clear nl nm
    have RES : Hid (cmpI (W128 a b) (W128 c d) = cmpI (numD l) (numD m)) := by show _ = _; rw [NL.out, NM.out]
    clear NL NM
    have LM : l.length ≤ 9223372036854775807 := by
      rcases RL.out with ⟨_, rfl⟩ | ⟨g, cap, e, h1, h2, h3⟩
      · simp
      · omega
    rcases Nat.lt_trichotomy l.length m.length with h | h | h
    · have h1 : ((l.length : Int) == (m.length : Int)) = false := by rw [beq_eq_false_iff_ne]; omega
      have h1' : ((l.length : Int) != (m.length : Int)) = true := by rw [bne, h1]; rfl
      have h2 : (l.length : Int) < (m.length : Int) := by omega
      have E := hid (cmp_len DL.out DM.out TM.out h)
      clear h
      go_wp2_with fail
      go_ret
      exact ⟨by rw [RES.out, cmpI_lt E.out]; rfl, BEL.out⟩
    · have h1 : ((l.length : Int) == (m.length : Int)) = true := by rw [beq_iff_eq]; omega
      have h1' : ((l.length : Int) != (m.length : Int)) = false := by rw [bne, h1]; rfl
      have hwl : IntKind.i64.wrap ((l.length : Int) - 1) = (l.length : Int) - 1 := IntWalk.i64_in _ ⟨by omega, by omega⟩
      have HL := hid h; clear h
      go_wp2_with fail
      go_loopw [7] (fun v7 wr => ∃ k : Nat, v7 = (.int .i64 ((k : Int) - 1)) ∧ k ≤ l.length ∧ Hid (l.drop k = m.drop k) ∧ Hid (Below wc.heap.size wc wr)) (fun v7 _ => (intOf v7 + 1).toNat)
      case atStart =>
        refine ⟨l.length, rfl, Nat.le_refl _, ?_, Below.refl _ _⟩
        show _ = _
        rw [List.drop_eq_nil_of_le (Nat.le_refl _), List.drop_eq_nil_of_le (by rw [HL.out]; exact Nat.le_refl _)]
      case round =>
        obtain ⟨k, rfl, hk, hdr, hbw⟩ := hrel
        by_cases hk0 : k = 0
        · subst hk0
          have h3 : ¬ (0 : Int) ≤ ((0 : Nat) : Int) - 1 := by omega
          have e : l = m := by have := hdr.out; simpa using this
          go_wp2_with fail
          go_ret
          refine ⟨?_, BEL.out.trans (hbw.out.mono BEL.out.size)⟩
          rw [RES.out, e, cmpI_eq]; rfl
        · obtain ⟨j, rfl⟩ : ∃ j, k = j + 1 := ⟨k - 1, by omega⟩
          clear hk0
          have hj : (((j + 1 : Nat) : Int)) - 1 = (j : Int) := by omega
          rw [hj]
          have hpos : (0 : Int) ≤ (j : Int) := by omega
          have hjl : j < l.length := by omega
          have hjm : j < m.length := by have := HL.out; omega
          obtain ⟨g, cap, hv, hcell⟩ := (RL.out.below hbw.out).cell (by omega)
          simp only [Value.slice.injEq, true_and] at hv
          obtain ⟨rfl, rfl⟩ := hv
          have hc1 := hcell j hjl
          obtain ⟨g', cap', hv', hcell'⟩ := (RM.out.below hbw.out).cell (by omega)
          simp only [Value.slice.injEq, true_and] at hv'
          obtain ⟨rfl, rfl⟩ := hv'
          have hc2 := hcell' j hjm
          clear hcell hcell'
          have hjl' : (j : Int) < (l.length : Int) := by omega
          have hjm' : (j : Int) < (m.length : Int) := by omega
          obtain ⟨x, hx⟩ : ∃ x, l.getD j 0 = x := ⟨_, rfl⟩
          obtain ⟨y, hy⟩ : ∃ y, m.getD j 0 = y := ⟨_, rfl⟩
          rw [hx] at hc1
          rw [hy] at hc2
          have HX := hid hx; have HY := hid hy; clear hx hy
          have hwj : IntKind.i64.wrap ((j : Int) - 1) = (j : Int) - 1 := IntWalk.i64_in _ ⟨by omega, by omega⟩
          rcases Int.lt_trichotomy x y with q | q | q
          · have E := hid (cmp_step_lt DL.out DM.out j hjl hjm hdr.out HL.out (by rw [HX.out, HY.out]; exact q))
            go_wp2_with fail
            go_region
            all_goals
              go_wp2_with fail
              go_ret
              exact ⟨by rw [RES.out, cmpI_lt E.out]; rfl, BEL.out.trans (hbw.out.drew.mono BEL.out.size)⟩
          · have E := hid (drop_eq_cons hjl hjm (by rw [HX.out, HY.out]; exact q) hdr.out)
            have q1 : ¬ x < y := by omega
            have q2 : ¬ y < x := by omega
            clear q
            go_wp2_with fail
            go_region
            all_goals
              go_wp2_with fail
              go_region
            all_goals
              go_wp2_with fail
              exact ⟨⟨j, rfl, by omega, E, hbw.out.drew.drew⟩, by simp [intOf]⟩
          · have E := hid (cmp_step_lt DM.out DL.out j hjm hjl hdr.out.symm HL.out.symm (by rw [HX.out, HY.out]; exact q))
            have q1 : ¬ x < y := by omega
            go_wp2_with fail
            go_region
            all_goals
              go_wp2_with fail
              go_region
            all_goals
              go_wp2_with fail
              go_ret
              exact ⟨by rw [RES.out, cmpI_gt E.out]; rfl, BEL.out.trans (hbw.out.drew.drew.mono BEL.out.size)⟩
    · have h1 : ((l.length : Int) == (m.length : Int)) = false := by rw [beq_eq_false_iff_ne]; omega
      have h1' : ((l.length : Int) != (m.length : Int)) = true := by rw [bne, h1]; rfl
      have h2 : ¬ (l.length : Int) < (m.length : Int) := by omega
      have E := hid (cmp_len DM.out DL.out TL.out h)
      clear h
      go_wp2_with fail
      go_ret
      exact ⟨by rw [RES.out, cmpI_gt E.out]; rfl, BEL.out⟩
end Go.Proofs.YtdpcfpmlkhdmkaaDoor
