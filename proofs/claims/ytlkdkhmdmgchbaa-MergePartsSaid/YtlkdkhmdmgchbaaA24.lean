/- MergeParts, on a frame's state. -/
import Derived.Test.YtlkdkhmdmgchbaaA23
import Derived.Lib.EndianBits
namespace Go.Proofs.Ytlkdkhmdmgchbaa
set_option linter.unusedSimpArgs false
set_option linter.unusedVariables false
open Go.RowKit
attribute [local simp ↓] skipTo_e goTo_e arun_nil ob_some kva_av kfree_free knm_false chk_true ya_true gsel_tt gsel_ff gsel_tf gsel_ft vb_bool vi_int vstr_string avps_ptr avps_seg avp_ptr avagg_agg avtup_tup avb_bool shs_struct shl_slice shla_slice shla_arr shls_slice shls_str shi_int bc_true bc_false hd1_cons opc_some opc_none unc_not unc_neg gd_none gd_some as_move as_assign as_pick as_bin as_un as_conv as_load as_faddr as_field as_extract as_iaddr as_slice as_alloc as_box as_store as_build as_rows as_call as_len as_min as_max stMove stPick stBin stUn stConv stLoad stFaddr stField stExtract stIaddr stSlice stAlloc stBox stStore stBuild stRows stCall stLen stMin stMax opd_tmp opd_const opd_func rawL_nil rawL_cons raw_c raw_a opr_e zr_nil zr_cons lvd_live lvd_app obd_some kvd_av chd_true vid_int avd_some lk_cons lk_nil ins_nil ins_cons cells_zero cells_succ spread1_s spread1_v spread1_own spread1_ptr spread1_seg spreadL_nil spreadL_cons spread_agg spread_c spread_own spread_ptr ex_zero ex_succ ops_e opb_none opb_int spreadD_agg spreadD_c spreadD_own fillO_nil fillO_cons argsOf_nil argsOf_cons dvOf_c dvOf_own dvOf_agg zrL_nil zrL_cons
attribute [local simp] dok_some dok_none dflt_tmp dflt_cell dflt_zn dflt_nm puts_nil puts_cons wr_some wr_none cst_agg cst_int cst_bool cst_string cst_slice cst_tuple cst_nilFunc cst_pointer cst_func bin_add bin_sub bin_mul bin_quo bin_rem bin_eql bin_neq bin_lss bin_leq bin_gtr bin_geq bin_bool bin_aggs binT_bool binT_aggs shbd_bool eqb_eql eqb_neq bin_slice bin_str_eql bin_str_neq bin_str_lss bin_str_add nz_v nz_s cd_c cd_own atz_c atz_agg crow_nil crow_cons slc_c slc_own slc_nil raws setR placesT_nil placesT_cons zc chunk zsAll zsArgs_nil zsArgs_cons zsAV_c zsAV_own zsAV_agg deadRow resV_one resV_tup resAV_s resAV_own resAV_agg resAV_tup resZ_none resZ_own isV_one isV_tup isV_c isV_agg isV_v isV_s argRows Sh.agg zds_nil zds_e zds_v zds_s vcells_agg vcells_int vcells_bool vcells_string vcells_slice vcells_pointer toList_lit map_nilL map_consL ty3 ty4 ty22 ty24 ty26 ty27 ty30 ty40 ty48 ty50 ty52 Value.oneCell'
/-- a merge's box. -/
def mbox (n z : Nat) (m : Mg) : Row := [(.cell n 0, .av (.c [z] (RD m.older.1))), (.cell n 1, .av (.c [z] (RD m.older.2))), (.cell n 2, .av (.c [z] (RD m.newer.1))), (.cell n 3, .av (.c [z] (RD m.newer.2))), (.cell n 4, .av (.c [] (.v (.bool m.oldest)))), (.cell n 5, .av (.c [] (.v (.int .i64 m.at_)))), (.cell n 6, .av (.c [z] (RD m.out.1))), (.cell n 7, .av (.c [z] (RD m.out.2)))]
def nbL (t : List (Nat × Nat)) (n : Nat) : Nat := match t with
  | [] => n
  | (k, v) :: t => if n = k then v else nbL t n
def zbL (t : List (Nat × List Nat)) (n : Nat) : List Nat := match t with
  | [] => [n]
  | (k, v) :: t => if n = k then v else zbL t n
/-- the state at a round's head. -/
def mpL (l : List Int) (L : Int) (mw : Mg) (i : Nat) (m : Mg) : Row := [(.zn 0, .zn .live), (.zn 5, .zn .live), (.zn 6, .zn .live), (.nm 1, .nm true), (.nm 2, .nm true), (.tmp 9, .av (.ptr 1 0)), (.tmp 11, .av (.c [] (.v (.int .i64 L)))), (.tmp 12, .av (.ptr 2 0)), (.tmp 14, .av (.c [] (.v (.int .i64 m.at_)))), (.tmp 52, .av (.c [0] (ID l))), (.tmp 53, .av (.c [] (.v (.int .i64 l.length)))), (.tmp 54, .av (.c [] (.v (.int .i64 i))))] ++ (mbox 1 5 m ++ mbox 2 6 mw)
set_option maxRecDepth 100000 in
set_option maxHeartbeats 4000000 in
theorem mparts_ct (x y : Tr) (l : List Int) : Ct Try.prog 5 [TD x, TD y, .c (ID l)] none (.one (dB true)) := by
  have cx := lowntier_ct x
  have cy := lowntier_ct y
  obtain ⟨a, ha⟩ : ∃ a : Tr, a = (x.1.take 24, x.2.take 24) := ⟨_, rfl⟩
  obtain ⟨b, hb⟩ : ∃ b : Tr, b = (y.1.take 24, y.2.take 24) := ⟨_, rfl⟩
  have la : a.1.length ≤ 24 ∧ a.2.length ≤ 24 := by rw [ha]; simp only [List.length_take]; omega
  have lb : b.1.length ≤ 24 ∧ b.2.length ≤ 24 := by rw [hb]; simp only [List.length_take]; omega
  rw [← ha] at cx
  rw [← hb] at cy
  clear ha hb
  have cB := pbegin_ct a b false (by omega) (by omega) (by omega) (by omega)
  obtain ⟨m0, eb, hE⟩ : ∃ m e, beginL a b false = (m, e) := ⟨_, _, rfl⟩
  rw [hE] at cB
  dsimp only at cB
  refine ct_intro Try.func5 rfl Try.ntmps5 (by simp) (fun W0 => ?_)
  repeat (first | with_reducible refine AW.seq ?_ | with_reducible refine AW.block ?_ | with_reducible refine AW.skip ?_ | with_reducible refine AW.exit ?_ | with_reducible refine AW.ret ?_ | with_reducible refine AW.label ?_ | with_reducible refine NX.then ?_ | with_reducible refine NX.ret ?_ | with_reducible refine NX.exit ?_ | with_reducible refine NX.inRet ?_ | with_reducible refine NX.inNormal ?_ | with_reducible refine NX.inExit ?_ | with_reducible refine NX.outExit (by decide) ?_)
  refine AW.at_ (fun L hL => ?_)
  simp at hL
  subst hL
  refine AW.re ty (by kernel_rfl) 1 (fun K hK => ?_)
  (try simp only [List.toList_toArray, toList_lit]); repeat (with_reducible refine AR.step (fun K1 K2 hK1 hK2 => ?_); simp; (first | refine hK1.out _ _ ?_ | refine hK2.out _ ?_ | refine ⟨by kernel_rfl, hK2.out _ ?_⟩); clear hK1 hK2 K1 K2; simp); (try with_reducible refine AR.nil ?_)
  refine ⟨chk_text _ _, hK.out _ ?_⟩
  clear hK K
  repeat (first | with_reducible refine AW.seq ?_ | with_reducible refine AW.block ?_ | with_reducible refine AW.skip ?_ | with_reducible refine AW.exit ?_ | with_reducible refine AW.ret ?_ | with_reducible refine AW.label ?_ | with_reducible refine NX.then ?_ | with_reducible refine NX.ret ?_ | with_reducible refine NX.exit ?_ | with_reducible refine NX.inRet ?_ | with_reducible refine NX.inNormal ?_ | with_reducible refine NX.inExit ?_ | with_reducible refine NX.outExit (by decide) ?_)
  refine AW.re ty (by kernel_rfl) 10 (fun K hK => ?_)
  (try simp only [List.toList_toArray, toList_lit]); repeat (with_reducible refine AR.step (fun K1 K2 hK1 hK2 => ?_); simp; (first | refine hK1.out _ _ ?_ | refine hK2.out _ ?_ | refine ⟨by kernel_rfl, hK2.out _ ?_⟩); clear hK1 hK2 K1 K2; simp); (try with_reducible refine AR.nil ?_)
  refine AR.step (fun K1 K2 hK1 hK2 => ?_)
  simp
  refine ⟨by kernel_rfl, .inl ⟨none, _, wakes12_ct, ?_⟩⟩
  simp
  refine hK1.out _ _ ?_
  clear hK1 hK2 K1 K2
  simp
  (try simp only [List.toList_toArray, toList_lit]); repeat (with_reducible refine AR.step (fun K1 K2 hK1 hK2 => ?_); simp; (first | refine hK1.out _ _ ?_ | refine hK2.out _ ?_ | refine ⟨by kernel_rfl, hK2.out _ ?_⟩); clear hK1 hK2 K1 K2; simp); (try with_reducible refine AR.nil ?_)
  refine ⟨chk_text _ _, hK.out _ ?_⟩
  clear hK K
  repeat (first | with_reducible refine AW.seq ?_ | with_reducible refine AW.block ?_ | with_reducible refine AW.skip ?_ | with_reducible refine AW.exit ?_ | with_reducible refine AW.ret ?_ | with_reducible refine AW.label ?_ | with_reducible refine NX.then ?_ | with_reducible refine NX.ret ?_ | with_reducible refine NX.exit ?_ | with_reducible refine NX.inRet ?_ | with_reducible refine NX.inNormal ?_ | with_reducible refine NX.inExit ?_ | with_reducible refine NX.outExit (by decide) ?_)
  refine AW.cf rfl ?_
  repeat (first | with_reducible refine AW.seq ?_ | with_reducible refine AW.block ?_ | with_reducible refine AW.skip ?_ | with_reducible refine AW.exit ?_ | with_reducible refine AW.ret ?_ | with_reducible refine AW.label ?_ | with_reducible refine NX.then ?_ | with_reducible refine NX.ret ?_ | with_reducible refine NX.exit ?_ | with_reducible refine NX.inRet ?_ | with_reducible refine NX.inNormal ?_ | with_reducible refine NX.inExit ?_ | with_reducible refine NX.outExit (by decide) ?_)
  refine AW.keep 27 (fun L hL => ?_)
  simp only [keepT_nil, keepT_tmp, keepT_cell, keepT_zn, keepT_nm, if_true, if_false, Nat.reduceLT, reduceIte] at hL
  subst hL
  refine AW.re ty (by kernel_rfl) 20 (fun K hK => ?_)
  (try simp only [List.toList_toArray, toList_lit]); repeat (with_reducible refine AR.step (fun K1 K2 hK1 hK2 => ?_); simp; (first | refine hK1.out _ _ ?_ | refine hK2.out _ ?_ | refine ⟨by kernel_rfl, hK2.out _ ?_⟩); clear hK1 hK2 K1 K2; simp); (try with_reducible refine AR.nil ?_)
  refine AR.step (fun K1 K2 hK1 hK2 => ?_)
  simp
  refine ⟨by kernel_rfl, .inl ⟨none, _, cx, ?_⟩⟩
  simp
  refine hK1.out _ _ ?_
  clear hK1 hK2 K1 K2
  simp
  (try simp only [List.toList_toArray, toList_lit]); repeat (with_reducible refine AR.step (fun K1 K2 hK1 hK2 => ?_); simp; (first | refine hK1.out _ _ ?_ | refine hK2.out _ ?_ | refine ⟨by kernel_rfl, hK2.out _ ?_⟩); clear hK1 hK2 K1 K2; simp); (try with_reducible refine AR.nil ?_)
  refine AR.step (fun K1 K2 hK1 hK2 => ?_)
  simp
  refine ⟨by kernel_rfl, .inl ⟨none, _, cy, ?_⟩⟩
  simp
  refine hK1.out _ _ ?_
  clear hK1 hK2 K1 K2
  simp
  (try simp only [List.toList_toArray, toList_lit]); repeat (with_reducible refine AR.step (fun K1 K2 hK1 hK2 => ?_); simp; (first | refine hK1.out _ _ ?_ | refine hK2.out _ ?_ | refine ⟨by kernel_rfl, hK2.out _ ?_⟩); clear hK1 hK2 K1 K2; simp); (try with_reducible refine AR.nil ?_)
  refine ⟨chk_drawn (by kernel_rfl) (by kernel_rfl), hK.out _ ?_⟩
  clear hK K
  repeat (first | with_reducible refine AW.seq ?_ | with_reducible refine AW.block ?_ | with_reducible refine AW.skip ?_ | with_reducible refine AW.exit ?_ | with_reducible refine AW.ret ?_ | with_reducible refine AW.label ?_ | with_reducible refine NX.then ?_ | with_reducible refine NX.ret ?_ | with_reducible refine NX.exit ?_ | with_reducible refine NX.inRet ?_ | with_reducible refine NX.inNormal ?_ | with_reducible refine NX.inExit ?_ | with_reducible refine NX.outExit (by decide) ?_)
  refine AW.keep 27 (fun L hL => ?_)
  simp only [keepT_nil, keepT_tmp, keepT_cell, keepT_zn, keepT_nm, if_true, if_false, Nat.reduceLT, reduceIte] at hL
  subst hL
  refine AW.re ty (by kernel_rfl) 40 (fun K hK => ?_)
  (try simp only [List.toList_toArray, toList_lit]); repeat (with_reducible refine AR.step (fun K1 K2 hK1 hK2 => ?_); simp; (first | refine hK1.out _ _ ?_ | refine hK2.out _ ?_ | refine ⟨by kernel_rfl, hK2.out _ ?_⟩); clear hK1 hK2 K1 K2; simp); (try with_reducible refine AR.nil ?_)
  refine AR.step (fun K1 K2 hK1 hK2 => ?_)
  simp
  refine ⟨by kernel_rfl, .inl ⟨none, _, cB, ?_⟩⟩
  simp
  refine hK1.out _ _ ?_
  clear hK1 hK2 K1 K2
  simp
  (try simp only [List.toList_toArray, toList_lit]); repeat (with_reducible refine AR.step (fun K1 K2 hK1 hK2 => ?_); simp; (first | refine hK1.out _ _ ?_ | refine hK2.out _ ?_ | refine ⟨by kernel_rfl, hK2.out _ ?_⟩); clear hK1 hK2 K1 K2; simp); (try with_reducible refine AR.nil ?_)
  refine ⟨chk_text _ _, hK.out _ ?_⟩
  clear hK K
  repeat (first | with_reducible refine AW.seq ?_ | with_reducible refine AW.block ?_ | with_reducible refine AW.skip ?_ | with_reducible refine AW.exit ?_ | with_reducible refine AW.ret ?_ | with_reducible refine AW.label ?_ | with_reducible refine NX.then ?_ | with_reducible refine NX.ret ?_ | with_reducible refine NX.exit ?_ | with_reducible refine NX.inRet ?_ | with_reducible refine NX.inNormal ?_ | with_reducible refine NX.inExit ?_ | with_reducible refine NX.outExit (by decide) ?_)
  refine AW.keep 27 (fun L hL => ?_)
  simp only [keepT_nil, keepT_tmp, keepT_cell, keepT_zn, keepT_nm, if_true, if_false, Nat.reduceLT, reduceIte] at hL
  subst hL
  cases hq : [a, b].all oneL
  · obtain ⟨rfl, rfl⟩ : m0 = mg0 ∧ eb = 210 := by
      unfold beginL at hE
      rw [if_neg (by rw [hq]; simp)] at hE
      simp only [Prod.mk.injEq] at hE
      exact ⟨hE.1.symm, hE.2.symm⟩
    refine AW.re ty (by kernel_rfl) 50 (fun K hK => ?_)
    (try simp only [List.toList_toArray, toList_lit]); repeat (with_reducible refine AR.step (fun K1 K2 hK1 hK2 => ?_); simp; (first | refine hK1.out _ _ ?_ | refine hK2.out _ ?_ | refine ⟨by kernel_rfl, hK2.out _ ?_⟩); clear hK1 hK2 K1 K2; simp); (try with_reducible refine AR.nil ?_)
    refine ⟨chk_text _ _, hK.out _ ?_⟩
    clear hK K
    repeat (first | with_reducible refine AW.seq ?_ | with_reducible refine AW.block ?_ | with_reducible refine AW.skip ?_ | with_reducible refine AW.exit ?_ | with_reducible refine AW.ret ?_ | with_reducible refine AW.label ?_ | with_reducible refine NX.then ?_ | with_reducible refine NX.ret ?_ | with_reducible refine NX.exit ?_ | with_reducible refine NX.inRet ?_ | with_reducible refine NX.inNormal ?_ | with_reducible refine NX.inExit ?_ | with_reducible refine NX.outExit (by decide) ?_)
    refine AW.ct rfl ?_
    repeat (first | with_reducible refine AW.seq ?_ | with_reducible refine AW.block ?_ | with_reducible refine AW.skip ?_ | with_reducible refine AW.exit ?_ | with_reducible refine AW.ret ?_ | with_reducible refine AW.label ?_ | with_reducible refine NX.then ?_ | with_reducible refine NX.ret ?_ | with_reducible refine NX.exit ?_ | with_reducible refine NX.inRet ?_ | with_reducible refine NX.inNormal ?_ | with_reducible refine NX.inExit ?_ | with_reducible refine NX.outExit (by decide) ?_)
    refine AW.re ty (by kernel_rfl) 60 (fun K hK => ?_)
    (try simp only [List.toList_toArray, toList_lit]); repeat (with_reducible refine AR.step (fun K1 K2 hK1 hK2 => ?_); simp; (first | refine hK1.out _ _ ?_ | refine hK2.out _ ?_ | refine ⟨by kernel_rfl, hK2.out _ ?_⟩); clear hK1 hK2 K1 K2; simp); (try with_reducible refine AR.nil ?_)
    refine ⟨chk_text _ _, hK.out _ ?_⟩
    clear hK K
    repeat (first | with_reducible refine AW.seq ?_ | with_reducible refine AW.block ?_ | with_reducible refine AW.skip ?_ | with_reducible refine AW.exit ?_ | with_reducible refine AW.ret ?_ | with_reducible refine AW.label ?_ | with_reducible refine NX.then ?_ | with_reducible refine NX.ret ?_ | with_reducible refine NX.exit ?_ | with_reducible refine NX.inRet ?_ | with_reducible refine NX.inNormal ?_ | with_reducible refine NX.inExit ?_ | with_reducible refine NX.outExit (by decide) ?_)
    refine nx_ret (T := ty) (rs := [.tmp 6]) (zs := []) (ds := [dB true]) (r := []) (.inr rfl) rfl (by kernel_rfl) (by kernel_rfl) (by simp) rfl
  · obtain ⟨rfl, rfl⟩ : m0 = ⟨a, b, false, 0, ([], [])⟩ ∧ eb = 0 := by
      unfold beginL at hE
      rw [if_pos (by rw [hq])] at hE
      simp only [Prod.mk.injEq] at hE
      exact ⟨hE.1.symm, hE.2.symm⟩
    have U0 : Und a b ⟨a, b, false, 0, ([], [])⟩ := by
      refine ⟨?_, rfl, rfl, rfl⟩
      simp only [List.all_cons, List.all_nil, Bool.and_true, Bool.and_eq_true] at hq
      unfold mright
      simp [hq.1, hq.2, outL]
    have L0 : leftL ⟨a, b, false, 0, ([], [])⟩ = (pairsL a b).length := by rw [U0.left]; simp
    obtain ⟨kw, mw, hkw, hmw, hS, UW, _, atw⟩ := U0.next (n := leftL ⟨a, b, false, 0, ([], [])⟩) (by rw [L0]; simp)
    have sm0 : Mg.small ⟨a, b, false, 0, ([], [])⟩ := ⟨by show a.1.length ≤ _; omega, by show a.2.length ≤ _; omega, by show b.1.length ≤ _; omega, by show b.2.length ≤ _; omega⟩
    have cl := pleft_ct _ sm0
    have cs := pstep_ct _ (leftL ⟨a, b, false, 0, ([], [])⟩) sm0 (by simp) (by simp)
    rw [hS] at cs
    dsimp only at cs atw
    clear hS hmw
    generalize leftL ⟨a, b, false, 0, ([], [])⟩ = L at *
    refine AW.re ty (by kernel_rfl) 50 (fun K hK => ?_)
    (try simp only [List.toList_toArray, toList_lit]); repeat (with_reducible refine AR.step (fun K1 K2 hK1 hK2 => ?_); simp; (first | refine hK1.out _ _ ?_ | refine hK2.out _ ?_ | refine ⟨by kernel_rfl, hK2.out _ ?_⟩); clear hK1 hK2 K1 K2; simp); (try with_reducible refine AR.nil ?_)
    refine ⟨chk_text _ _, hK.out _ ?_⟩
    clear hK K
    repeat (first | with_reducible refine AW.seq ?_ | with_reducible refine AW.block ?_ | with_reducible refine AW.skip ?_ | with_reducible refine AW.exit ?_ | with_reducible refine AW.ret ?_ | with_reducible refine AW.label ?_ | with_reducible refine NX.then ?_ | with_reducible refine NX.ret ?_ | with_reducible refine NX.exit ?_ | with_reducible refine NX.inRet ?_ | with_reducible refine NX.inNormal ?_ | with_reducible refine NX.inExit ?_ | with_reducible refine NX.outExit (by decide) ?_)
    refine AW.cf rfl ?_
    repeat (first | with_reducible refine AW.seq ?_ | with_reducible refine AW.block ?_ | with_reducible refine AW.skip ?_ | with_reducible refine AW.exit ?_ | with_reducible refine AW.ret ?_ | with_reducible refine AW.label ?_ | with_reducible refine NX.then ?_ | with_reducible refine NX.ret ?_ | with_reducible refine NX.exit ?_ | with_reducible refine NX.inRet ?_ | with_reducible refine NX.inNormal ?_ | with_reducible refine NX.inExit ?_ | with_reducible refine NX.outExit (by decide) ?_)
    refine AW.keep 27 (fun L hL => ?_)
    simp only [keepT_nil, keepT_tmp, keepT_cell, keepT_zn, keepT_nm, if_true, if_false, Nat.reduceLT, reduceIte] at hL
    subst hL
    refine AW.re ty (by kernel_rfl) 60 (fun K hK => ?_)
    (try simp only [List.toList_toArray, toList_lit]); repeat (with_reducible refine AR.step (fun K1 K2 hK1 hK2 => ?_); simp; (first | refine hK1.out _ _ ?_ | refine hK2.out _ ?_ | refine ⟨by kernel_rfl, hK2.out _ ?_⟩); clear hK1 hK2 K1 K2; simp); (try with_reducible refine AR.nil ?_)
    refine AR.step (fun K1 K2 hK1 hK2 => ?_)
    simp
    refine ⟨by kernel_rfl, .inl ⟨none, _, cl, ?_⟩⟩
    simp
    refine hK1.out _ _ ?_
    clear hK1 hK2 K1 K2
    simp
    (try simp only [List.toList_toArray, toList_lit]); repeat (with_reducible refine AR.step (fun K1 K2 hK1 hK2 => ?_); simp; (first | refine hK1.out _ _ ?_ | refine hK2.out _ ?_ | refine ⟨by kernel_rfl, hK2.out _ ?_⟩); clear hK1 hK2 K1 K2; simp); (try with_reducible refine AR.nil ?_)
    refine ⟨chk_text _ _, hK.out _ ?_⟩
    clear hK K
    repeat (first | with_reducible refine AW.seq ?_ | with_reducible refine AW.block ?_ | with_reducible refine AW.skip ?_ | with_reducible refine AW.exit ?_ | with_reducible refine AW.ret ?_ | with_reducible refine AW.label ?_ | with_reducible refine NX.then ?_ | with_reducible refine NX.ret ?_ | with_reducible refine NX.exit ?_ | with_reducible refine NX.inRet ?_ | with_reducible refine NX.inNormal ?_ | with_reducible refine NX.inExit ?_ | with_reducible refine NX.outExit (by decide) ?_)
    refine AW.re ty (by kernel_rfl) 70 (fun K hK => ?_)
    (try simp only [List.toList_toArray, toList_lit]); repeat (with_reducible refine AR.step (fun K1 K2 hK1 hK2 => ?_); simp; (first | refine hK1.out _ _ ?_ | refine hK2.out _ ?_ | refine ⟨by kernel_rfl, hK2.out _ ?_⟩); clear hK1 hK2 K1 K2; simp); (try with_reducible refine AR.nil ?_)
    refine AR.step (fun K1 K2 hK1 hK2 => ?_)
    simp
    refine ⟨by kernel_rfl, .inl ⟨none, _, cs, ?_⟩⟩
    simp
    refine hK1.out _ _ ?_
    clear hK1 hK2 K1 K2
    simp
    (try simp only [List.toList_toArray, toList_lit]); repeat (with_reducible refine AR.step (fun K1 K2 hK1 hK2 => ?_); simp; (first | refine hK1.out _ _ ?_ | refine hK2.out _ ?_ | refine ⟨by kernel_rfl, hK2.out _ ?_⟩); clear hK1 hK2 K1 K2; simp); (try with_reducible refine AR.nil ?_)
    refine ⟨chk_text _ _, hK.out _ ?_⟩
    clear hK K
    repeat (first | with_reducible refine AW.seq ?_ | with_reducible refine AW.block ?_ | with_reducible refine AW.skip ?_ | with_reducible refine AW.exit ?_ | with_reducible refine AW.ret ?_ | with_reducible refine AW.label ?_ | with_reducible refine NX.then ?_ | with_reducible refine NX.ret ?_ | with_reducible refine NX.exit ?_ | with_reducible refine NX.inRet ?_ | with_reducible refine NX.inNormal ?_ | with_reducible refine NX.inExit ?_ | with_reducible refine NX.outExit (by decide) ?_)
    refine AW.keep 27 (fun L hL => ?_)
    simp only [keepT_nil, keepT_tmp, keepT_cell, keepT_zn, keepT_nm, if_true, if_false, Nat.reduceLT, reduceIte] at hL
    subst hL
    refine AW.re ty (by kernel_rfl) 80 (fun K hK => ?_)
    (try simp only [List.toList_toArray, toList_lit]); repeat (with_reducible refine AR.step (fun K1 K2 hK1 hK2 => ?_); simp; (first | refine hK1.out _ _ ?_ | refine hK2.out _ ?_ | refine ⟨by kernel_rfl, hK2.out _ ?_⟩); clear hK1 hK2 K1 K2; simp); (try with_reducible refine AR.nil ?_)
    refine ⟨chk_text _ _, hK.out _ ?_⟩
    clear hK K
    repeat (first | with_reducible refine AW.seq ?_ | with_reducible refine AW.block ?_ | with_reducible refine AW.skip ?_ | with_reducible refine AW.exit ?_ | with_reducible refine AW.ret ?_ | with_reducible refine AW.label ?_ | with_reducible refine NX.then ?_ | with_reducible refine NX.ret ?_ | with_reducible refine NX.exit ?_ | with_reducible refine NX.inRet ?_ | with_reducible refine NX.inNormal ?_ | with_reducible refine NX.inExit ?_ | with_reducible refine NX.outExit (by decide) ?_)
    refine AW.cf rfl ?_
    repeat (first | with_reducible refine AW.seq ?_ | with_reducible refine AW.block ?_ | with_reducible refine AW.skip ?_ | with_reducible refine AW.exit ?_ | with_reducible refine AW.ret ?_ | with_reducible refine AW.label ?_ | with_reducible refine NX.then ?_ | with_reducible refine NX.ret ?_ | with_reducible refine NX.exit ?_ | with_reducible refine NX.inRet ?_ | with_reducible refine NX.inNormal ?_ | with_reducible refine NX.inExit ?_ | with_reducible refine NX.outExit (by decide) ?_)
    refine AW.keep 27 (fun L hL => ?_)
    simp only [keepT_nil, keepT_tmp, keepT_cell, keepT_zn, keepT_nm, if_true, if_false, Nat.reduceLT, reduceIte] at hL
    subst hL
    refine AW.re ty (by kernel_rfl) 90 (fun K hK => ?_)
    (try simp only [List.toList_toArray, toList_lit]); repeat (with_reducible refine AR.step (fun K1 K2 hK1 hK2 => ?_); simp; (first | refine hK1.out _ _ ?_ | refine hK2.out _ ?_ | refine ⟨by kernel_rfl, hK2.out _ ?_⟩); clear hK1 hK2 K1 K2; simp); (try with_reducible refine AR.nil ?_)
    refine ⟨chk_text _ _, hK.out _ ?_⟩
    clear hK K
    repeat (first | with_reducible refine AW.seq ?_ | with_reducible refine AW.block ?_ | with_reducible refine AW.skip ?_ | with_reducible refine AW.exit ?_ | with_reducible refine AW.ret ?_ | with_reducible refine AW.label ?_ | with_reducible refine NX.then ?_ | with_reducible refine NX.ret ?_ | with_reducible refine NX.exit ?_ | with_reducible refine NX.inRet ?_ | with_reducible refine NX.inNormal ?_ | with_reducible refine NX.inExit ?_ | with_reducible refine NX.outExit (by decide) ?_)
    refine AW.re ty (by kernel_rfl) 100 (fun K hK => ?_)
    (try simp only [List.toList_toArray, toList_lit]); repeat (with_reducible refine AR.step (fun K1 K2 hK1 hK2 => ?_); simp; (first | refine hK1.out _ _ ?_ | refine hK2.out _ ?_ | refine ⟨by kernel_rfl, hK2.out _ ?_⟩); clear hK1 hK2 K1 K2; simp); (try with_reducible refine AR.nil ?_)
    refine ⟨chk_text _ _, hK.out _ ?_⟩
    clear hK K
    repeat (first | with_reducible refine AW.seq ?_ | with_reducible refine AW.block ?_ | with_reducible refine AW.skip ?_ | with_reducible refine AW.exit ?_ | with_reducible refine AW.ret ?_ | with_reducible refine AW.label ?_ | with_reducible refine NX.then ?_ | with_reducible refine NX.ret ?_ | with_reducible refine NX.exit ?_ | with_reducible refine NX.inRet ?_ | with_reducible refine NX.inNormal ?_ | with_reducible refine NX.inExit ?_ | with_reducible refine NX.outExit (by decide) ?_)
    refine AW.loop (X := { x : Nat × Mg // x.1 ≤ 10 ∧ Und a b x.2 }) (fun x => mpL l L mw x.1.1 x.1.2) (fun x => l.length - x.1.1) ⟨(0, ⟨a, b, false, 0, ([], [])⟩), by simp, U0⟩ (fun _ _ h => AS.fold (fold_of (nb := nbL [(1, 46), (2, 77)]) (zb := zbL [(5, [42]), (6, [72])]) (by kernel_rfl) (by kernel_rfl) (by simp [mpL, mbox, foks, fok, kvp, Fv, FvL, subz, Uz, Nm, nbL, zbL])) h) (fun x => ?_)
    obtain ⟨⟨i, m⟩, hx, um⟩ := x
    simp only at hx um
    repeat (first | with_reducible refine AW.seq ?_ | with_reducible refine AW.block ?_ | with_reducible refine AW.skip ?_ | with_reducible refine AW.exit ?_ | with_reducible refine AW.ret ?_ | with_reducible refine AW.label ?_ | with_reducible refine NX.then ?_ | with_reducible refine NX.ret ?_ | with_reducible refine NX.exit ?_ | with_reducible refine NX.inRet ?_ | with_reducible refine NX.inNormal ?_ | with_reducible refine NX.inExit ?_ | with_reducible refine NX.outExit (by decide) ?_)
    refine AW.at_ (fun L hL => ?_)
    simp [mpL, mbox] at hL
    subst hL
    obtain ⟨q0, q1, q2⟩ := um.at
    have cc1 := check_ct m.out.1
    have cc2 := check_ct m.out.2
    have PL := pairsL_len a b
    have len1 : m.out.1.length ≤ 200000 := by rw [q2]; exact Nat.le_trans (List.length_filter_le _ _) (by rw [List.length_take]; omega)
    have len2 : m.out.2.length ≤ 200000 := by rw [q2]; exact Nat.le_trans (List.length_filter_le _ _) (by rw [List.length_take]; omega)
    rw [show rightL m.out.1 = true by unfold rightL; simp only [Bool.and_eq_true, decide_eq_true_eq]; exact ⟨by rw [q2]; exact outL_rises1 _ _ _ _, by omega⟩] at cc1
    rw [show rightL m.out.2 = true by unfold rightL; simp only [Bool.and_eq_true, decide_eq_true_eq]; exact ⟨by rw [q2]; exact outL_rises2 _ _ _ _, by omega⟩] at cc2
    by_cases hi : i < l.length
    · skip
      refine AW.re ty (by kernel_rfl) 200 (fun K hK => ?_)
      (try simp only [List.toList_toArray, toList_lit]); repeat (with_reducible refine AR.step (fun K1 K2 hK1 hK2 => ?_); simp [hi]; (first | refine hK1.out _ _ ?_ | refine hK2.out _ ?_ | refine ⟨by kernel_rfl, hK2.out _ ?_⟩); clear hK1 hK2 K1 K2; simp [hi]); (try with_reducible refine AR.nil ?_)
      refine ⟨chk_text _ _, hK.out _ ?_⟩
      clear hK K
      repeat (first | with_reducible refine AW.seq ?_ | with_reducible refine AW.block ?_ | with_reducible refine AW.skip ?_ | with_reducible refine AW.exit ?_ | with_reducible refine AW.ret ?_ | with_reducible refine AW.label ?_ | with_reducible refine NX.then ?_ | with_reducible refine NX.ret ?_ | with_reducible refine NX.exit ?_ | with_reducible refine NX.inRet ?_ | with_reducible refine NX.inNormal ?_ | with_reducible refine NX.inExit ?_ | with_reducible refine NX.outExit (by decide) ?_)
      refine AW.ct rfl ?_
      repeat (first | with_reducible refine AW.seq ?_ | with_reducible refine AW.block ?_ | with_reducible refine AW.skip ?_ | with_reducible refine AW.exit ?_ | with_reducible refine AW.ret ?_ | with_reducible refine AW.label ?_ | with_reducible refine NX.then ?_ | with_reducible refine NX.ret ?_ | with_reducible refine NX.exit ?_ | with_reducible refine NX.inRet ?_ | with_reducible refine NX.inNormal ?_ | with_reducible refine NX.inExit ?_ | with_reducible refine NX.outExit (by decide) ?_)
      refine AW.keep 55 (fun L hL => ?_)
      simp only [keepT_nil, keepT_tmp, keepT_cell, keepT_zn, keepT_nm, if_true, if_false, Nat.reduceLT, reduceIte] at hL
      subst hL
      refine AW.re ty (by kernel_rfl) 210 (fun K hK => ?_)
      (try simp only [List.toList_toArray, toList_lit]); repeat (with_reducible refine AR.step (fun K1 K2 hK1 hK2 => ?_); simp [hi]; (first | refine hK1.out _ _ ?_ | refine hK2.out _ ?_ | refine ⟨by kernel_rfl, hK2.out _ ?_⟩); clear hK1 hK2 K1 K2; simp [hi]); (try with_reducible refine AR.nil ?_)
      refine AR.step (fun K1 K2 hK1 hK2 => ?_)
      simp [hi]
      refine ⟨i, [.v (.int .i64 l[i])], rfl, by simp [hi], ?_⟩
      refine hK1.out _ _ ?_
      clear hK1 hK2 K1 K2
      simp [hi]
      (try simp only [List.toList_toArray, toList_lit]); repeat (with_reducible refine AR.step (fun K1 K2 hK1 hK2 => ?_); simp [hi]; (first | refine hK1.out _ _ ?_ | refine hK2.out _ ?_ | refine ⟨by kernel_rfl, hK2.out _ ?_⟩); clear hK1 hK2 K1 K2; simp [hi]); (try with_reducible refine AR.nil ?_)
      refine ⟨chk_text _ _, hK.out _ ?_⟩
      clear hK K
      repeat (first | with_reducible refine AW.seq ?_ | with_reducible refine AW.block ?_ | with_reducible refine AW.skip ?_ | with_reducible refine AW.exit ?_ | with_reducible refine AW.ret ?_ | with_reducible refine AW.label ?_ | with_reducible refine NX.then ?_ | with_reducible refine NX.ret ?_ | with_reducible refine NX.exit ?_ | with_reducible refine NX.inRet ?_ | with_reducible refine NX.inNormal ?_ | with_reducible refine NX.inExit ?_ | with_reducible refine NX.outExit (by decide) ?_)
      refine AW.keep 55 (fun L hL => ?_)
      simp only [keepT_nil, keepT_tmp, keepT_cell, keepT_zn, keepT_nm, if_true, if_false, Nat.reduceLT, reduceIte] at hL
      subst hL
      by_cases h10 : i = 10
      · skip
        refine AW.re ty (by kernel_rfl) 220 (fun K hK => ?_)
        (try simp only [List.toList_toArray, toList_lit]); repeat (with_reducible refine AR.step (fun K1 K2 hK1 hK2 => ?_); simp [h10]; (first | refine hK1.out _ _ ?_ | refine hK2.out _ ?_ | refine ⟨by kernel_rfl, hK2.out _ ?_⟩); clear hK1 hK2 K1 K2; simp [h10]); (try with_reducible refine AR.nil ?_)
        refine ⟨chk_text _ _, hK.out _ ?_⟩
        clear hK K
        repeat (first | with_reducible refine AW.seq ?_ | with_reducible refine AW.block ?_ | with_reducible refine AW.skip ?_ | with_reducible refine AW.exit ?_ | with_reducible refine AW.ret ?_ | with_reducible refine AW.label ?_ | with_reducible refine NX.then ?_ | with_reducible refine NX.ret ?_ | with_reducible refine NX.exit ?_ | with_reducible refine NX.inRet ?_ | with_reducible refine NX.inNormal ?_ | with_reducible refine NX.inExit ?_ | with_reducible refine NX.outExit (by decide) ?_)
        refine AW.ct rfl ?_
        repeat (first | with_reducible refine AW.seq ?_ | with_reducible refine AW.block ?_ | with_reducible refine AW.skip ?_ | with_reducible refine AW.exit ?_ | with_reducible refine AW.ret ?_ | with_reducible refine AW.label ?_ | with_reducible refine NX.then ?_ | with_reducible refine NX.ret ?_ | with_reducible refine NX.exit ?_ | with_reducible refine NX.inRet ?_ | with_reducible refine NX.inNormal ?_ | with_reducible refine NX.inExit ?_ | with_reducible refine NX.outExit (by decide) ?_)
        refine AW.keep 55 (fun L hL => ?_)
        simp only [keepT_nil, keepT_tmp, keepT_cell, keepT_zn, keepT_nm, if_true, if_false, Nat.reduceLT, reduceIte] at hL
        subst hL
        refine AW.re ty (by kernel_rfl) 310 (fun K hK => ?_)
        (try simp only [List.toList_toArray, toList_lit]); repeat (with_reducible refine AR.step (fun K1 K2 hK1 hK2 => ?_); simp; (first | refine hK1.out _ _ ?_ | refine hK2.out _ ?_ | refine ⟨by kernel_rfl, hK2.out _ ?_⟩); clear hK1 hK2 K1 K2; simp); (try with_reducible refine AR.nil ?_)
        refine AR.step (fun K1 K2 hK1 hK2 => ?_)
        simp
        refine ⟨by kernel_rfl, .inl ⟨none, _, cc1, ?_⟩⟩
        simp
        refine hK1.out _ _ ?_
        clear hK1 hK2 K1 K2
        simp
        (try simp only [List.toList_toArray, toList_lit]); repeat (with_reducible refine AR.step (fun K1 K2 hK1 hK2 => ?_); simp; (first | refine hK1.out _ _ ?_ | refine hK2.out _ ?_ | refine ⟨by kernel_rfl, hK2.out _ ?_⟩); clear hK1 hK2 K1 K2; simp); (try with_reducible refine AR.nil ?_)
        refine AR.step (fun K1 K2 hK1 hK2 => ?_)
        simp
        refine ⟨by kernel_rfl, .inl ⟨none, _, cc2, ?_⟩⟩
        simp
        refine hK1.out _ _ ?_
        clear hK1 hK2 K1 K2
        simp
        (try simp only [List.toList_toArray, toList_lit]); repeat (with_reducible refine AR.step (fun K1 K2 hK1 hK2 => ?_); simp; (first | refine hK1.out _ _ ?_ | refine hK2.out _ ?_ | refine ⟨by kernel_rfl, hK2.out _ ?_⟩); clear hK1 hK2 K1 K2; simp); (try with_reducible refine AR.nil ?_)
        refine ⟨chk_text _ _, hK.out _ ?_⟩
        clear hK K
        repeat (first | with_reducible refine AW.seq ?_ | with_reducible refine AW.block ?_ | with_reducible refine AW.skip ?_ | with_reducible refine AW.exit ?_ | with_reducible refine AW.ret ?_ | with_reducible refine AW.label ?_ | with_reducible refine NX.then ?_ | with_reducible refine NX.ret ?_ | with_reducible refine NX.exit ?_ | with_reducible refine NX.inRet ?_ | with_reducible refine NX.inNormal ?_ | with_reducible refine NX.inExit ?_ | with_reducible refine NX.outExit (by decide) ?_)
        refine nx_ret (T := ty) (rs := [.tmp 6]) (zs := []) (ds := [dB true]) (r := []) (.inr rfl) rfl (by kernel_rfl) (by kernel_rfl) (by simp) rfl
      · have h10' : ¬ ((i : Int) = 10) := by omega
        refine AW.re ty (by kernel_rfl) 220 (fun K hK => ?_)
        (try simp only [List.toList_toArray, toList_lit]); repeat (with_reducible refine AR.step (fun K1 K2 hK1 hK2 => ?_); simp [h10']; (first | refine hK1.out _ _ ?_ | refine hK2.out _ ?_ | refine ⟨by kernel_rfl, hK2.out _ ?_⟩); clear hK1 hK2 K1 K2; simp [h10']); (try with_reducible refine AR.nil ?_)
        refine ⟨chk_text _ _, hK.out _ ?_⟩
        clear hK K
        repeat (first | with_reducible refine AW.seq ?_ | with_reducible refine AW.block ?_ | with_reducible refine AW.skip ?_ | with_reducible refine AW.exit ?_ | with_reducible refine AW.ret ?_ | with_reducible refine AW.label ?_ | with_reducible refine NX.then ?_ | with_reducible refine NX.ret ?_ | with_reducible refine NX.exit ?_ | with_reducible refine NX.inRet ?_ | with_reducible refine NX.inNormal ?_ | with_reducible refine NX.inExit ?_ | with_reducible refine NX.outExit (by decide) ?_)
        refine AW.cf rfl ?_
        repeat (first | with_reducible refine AW.seq ?_ | with_reducible refine AW.block ?_ | with_reducible refine AW.skip ?_ | with_reducible refine AW.exit ?_ | with_reducible refine AW.ret ?_ | with_reducible refine AW.label ?_ | with_reducible refine NX.then ?_ | with_reducible refine NX.ret ?_ | with_reducible refine NX.exit ?_ | with_reducible refine NX.inRet ?_ | with_reducible refine NX.inNormal ?_ | with_reducible refine NX.inExit ?_ | with_reducible refine NX.outExit (by decide) ?_)
        refine AW.keep 55 (fun L hL => ?_)
        simp only [keepT_nil, keepT_tmp, keepT_cell, keepT_zn, keepT_nm, if_true, if_false, Nat.reduceLT, reduceIte] at hL
        subst hL
        refine AW.re ty (by kernel_rfl) 230 (fun K hK => ?_)
        (try simp only [List.toList_toArray, toList_lit]); repeat (with_reducible refine AR.step (fun K1 K2 hK1 hK2 => ?_); simp; (first | refine hK1.out _ _ ?_ | refine hK2.out _ ?_ | refine ⟨by kernel_rfl, hK2.out _ ?_⟩); clear hK1 hK2 K1 K2; simp); (try with_reducible refine AR.nil ?_)
        refine ⟨chk_text _ _, hK.out _ ?_⟩
        clear hK K
        repeat (first | with_reducible refine AW.seq ?_ | with_reducible refine AW.block ?_ | with_reducible refine AW.skip ?_ | with_reducible refine AW.exit ?_ | with_reducible refine AW.ret ?_ | with_reducible refine AW.label ?_ | with_reducible refine NX.then ?_ | with_reducible refine NX.ret ?_ | with_reducible refine NX.exit ?_ | with_reducible refine NX.inRet ?_ | with_reducible refine NX.inNormal ?_ | with_reducible refine NX.inExit ?_ | with_reducible refine NX.outExit (by decide) ?_)
        refine AW.keep 55 (fun L hL => ?_)
        simp only [keepT_nil, keepT_tmp, keepT_cell, keepT_zn, keepT_nm, if_true, if_false, Nat.reduceLT, reduceIte] at hL
        subst hL
        obtain ⟨nn, hn⟩ : ∃ nn, nn = IntKind.i64.wrap ((IntKind.u64.wrap l[i]).tmod 9) := ⟨_, rfl⟩
        rw [← hn]
        have n0 : 0 ≤ nn ∧ nn ≤ 8 := by
          have e1 := IntKind.wrap_u64 l[i]
          have e2 : (0 : Int) ≤ IntKind.u64.wrap l[i] := by rw [e1]; omega
          generalize IntKind.u64.wrap l[i] = u at hn e2
          have e3 : u.tmod 9 = u % 9 := Int.tmod_eq_emod_of_nonneg e2
          rw [i64_ok _ (by omega) (by omega)] at hn
          omega
        clear hn
        obtain ⟨k, m1, hk, hm1, hS1, um1, k0, at1⟩ := um.next n0.1
        have sm : m.small := by unfold Mg.small; rw [um.old, um.new]; omega
        have c1 := pstep_ct m nn sm (by omega) (by omega)
        rw [hS1] at c1
        dsimp only at c1
        have Lm := um.left
        have sm1 : m1.small := by unfold Mg.small; rw [um1.old, um1.new]; omega
        have c2 := pcheck_ct m1 sm1
        rw [um1.right, if_pos rfl] at c2
        have c3 := pleft_ct m1 sm1
        have Lm1 := um1.left
        refine AW.re ty (by kernel_rfl) 240 (fun K hK => ?_)
        (try simp only [List.toList_toArray, toList_lit]); repeat (with_reducible refine AR.step (fun K1 K2 hK1 hK2 => ?_); simp; (first | refine hK1.out _ _ ?_ | refine hK2.out _ ?_ | refine ⟨by kernel_rfl, hK2.out _ ?_⟩); clear hK1 hK2 K1 K2; simp); (try with_reducible refine AR.nil ?_)
        refine AR.step (fun K1 K2 hK1 hK2 => ?_)
        simp
        refine ⟨by kernel_rfl, .inl ⟨none, _, c1, ?_⟩⟩
        simp
        refine hK1.out _ _ ?_
        clear hK1 hK2 K1 K2
        simp
        (try simp only [List.toList_toArray, toList_lit]); repeat (with_reducible refine AR.step (fun K1 K2 hK1 hK2 => ?_); simp; (first | refine hK1.out _ _ ?_ | refine hK2.out _ ?_ | refine ⟨by kernel_rfl, hK2.out _ ?_⟩); clear hK1 hK2 K1 K2; simp); (try with_reducible refine AR.nil ?_)
        refine ⟨chk_text _ _, hK.out _ ?_⟩
        clear hK K
        repeat (first | with_reducible refine AW.seq ?_ | with_reducible refine AW.block ?_ | with_reducible refine AW.skip ?_ | with_reducible refine AW.exit ?_ | with_reducible refine AW.ret ?_ | with_reducible refine AW.label ?_ | with_reducible refine NX.then ?_ | with_reducible refine NX.ret ?_ | with_reducible refine NX.exit ?_ | with_reducible refine NX.inRet ?_ | with_reducible refine NX.inNormal ?_ | with_reducible refine NX.inExit ?_ | with_reducible refine NX.outExit (by decide) ?_)
        refine AW.keep 55 (fun L hL => ?_)
        simp only [keepT_nil, keepT_tmp, keepT_cell, keepT_zn, keepT_nm, if_true, if_false, Nat.reduceLT, reduceIte] at hL
        subst hL
        have f1 : ¬ nn < k := by omega
        have w1 : IntKind.i64.wrap (L - m.at_) = leftL m := by rw [i64_ok _ (by omega) (by omega)]; omega
        have w2 : IntKind.i64.wrap (leftL m - k) = leftL m1 := by rw [i64_ok _ (by omega) (by omega)]; omega
        have f2 : (if leftL m < nn then leftL m else nn) = k := by split <;> omega
        refine AW.re ty (by kernel_rfl) 260 (fun K hK => ?_)
        (try simp only [List.toList_toArray, toList_lit]); repeat (with_reducible refine AR.step (fun K1 K2 hK1 hK2 => ?_); simp [f1, w1, w2, f2]; (first | refine hK1.out _ _ ?_ | refine hK2.out _ ?_ | refine ⟨by kernel_rfl, hK2.out _ ?_⟩); clear hK1 hK2 K1 K2; simp [f1, w1, w2, f2]); (try with_reducible refine AR.nil ?_)
        refine AR.step (fun K1 K2 hK1 hK2 => ?_)
        simp [f1, w1, w2, f2]
        refine ⟨by kernel_rfl, .inl ⟨none, _, c2, ?_⟩⟩
        simp [f1, w1, w2, f2]
        refine hK1.out _ _ ?_
        clear hK1 hK2 K1 K2
        simp [f1, w1, w2, f2]
        (try simp only [List.toList_toArray, toList_lit]); repeat (with_reducible refine AR.step (fun K1 K2 hK1 hK2 => ?_); simp [f1, w1, w2, f2]; (first | refine hK1.out _ _ ?_ | refine hK2.out _ ?_ | refine ⟨by kernel_rfl, hK2.out _ ?_⟩); clear hK1 hK2 K1 K2; simp [f1, w1, w2, f2]); (try with_reducible refine AR.nil ?_)
        refine AR.step (fun K1 K2 hK1 hK2 => ?_)
        simp [f1, w1, w2, f2]
        refine ⟨by kernel_rfl, .inl ⟨none, _, c3, ?_⟩⟩
        simp [f1, w1, w2, f2]
        refine hK1.out _ _ ?_
        clear hK1 hK2 K1 K2
        simp [f1, w1, w2, f2]
        (try simp only [List.toList_toArray, toList_lit]); repeat (with_reducible refine AR.step (fun K1 K2 hK1 hK2 => ?_); simp [f1, w1, w2, f2]; (first | refine hK1.out _ _ ?_ | refine hK2.out _ ?_ | refine ⟨by kernel_rfl, hK2.out _ ?_⟩); clear hK1 hK2 K1 K2; simp [f1, w1, w2, f2]); (try with_reducible refine AR.nil ?_)
        refine ⟨chk_text _ _, hK.out _ ?_⟩
        clear hK K
        repeat (first | with_reducible refine AW.seq ?_ | with_reducible refine AW.block ?_ | with_reducible refine AW.skip ?_ | with_reducible refine AW.exit ?_ | with_reducible refine AW.ret ?_ | with_reducible refine AW.label ?_ | with_reducible refine NX.then ?_ | with_reducible refine NX.ret ?_ | with_reducible refine NX.exit ?_ | with_reducible refine NX.inRet ?_ | with_reducible refine NX.inNormal ?_ | with_reducible refine NX.inExit ?_ | with_reducible refine NX.outExit (by decide) ?_)
        refine AW.cf rfl ?_
        repeat (first | with_reducible refine AW.seq ?_ | with_reducible refine AW.block ?_ | with_reducible refine AW.skip ?_ | with_reducible refine AW.exit ?_ | with_reducible refine AW.ret ?_ | with_reducible refine AW.label ?_ | with_reducible refine NX.then ?_ | with_reducible refine NX.ret ?_ | with_reducible refine NX.exit ?_ | with_reducible refine NX.inRet ?_ | with_reducible refine NX.inNormal ?_ | with_reducible refine NX.inExit ?_ | with_reducible refine NX.outExit (by decide) ?_)
        refine AW.keep 55 (fun L hL => ?_)
        simp only [keepT_nil, keepT_tmp, keepT_cell, keepT_zn, keepT_nm, if_true, if_false, Nat.reduceLT, reduceIte] at hL
        subst hL
        refine AW.re ty (by kernel_rfl) 300 (fun K hK => ?_)
        (try simp only [List.toList_toArray, toList_lit]); repeat (with_reducible refine AR.step (fun K1 K2 hK1 hK2 => ?_); simp; (first | refine hK1.out _ _ ?_ | refine hK2.out _ ?_ | refine ⟨by kernel_rfl, hK2.out _ ?_⟩); clear hK1 hK2 K1 K2; simp); (try with_reducible refine AR.nil ?_)
        refine ⟨chk_drawn (by kernel_rfl) (by kernel_rfl), hK.out _ ?_⟩
        clear hK K
        repeat (first | with_reducible refine AW.seq ?_ | with_reducible refine AW.block ?_ | with_reducible refine AW.skip ?_ | with_reducible refine AW.exit ?_ | with_reducible refine AW.ret ?_ | with_reducible refine AW.label ?_ | with_reducible refine NX.then ?_ | with_reducible refine NX.ret ?_ | with_reducible refine NX.exit ?_ | with_reducible refine NX.inRet ?_ | with_reducible refine NX.inNormal ?_ | with_reducible refine NX.inExit ?_ | with_reducible refine NX.outExit (by decide) ?_)
        refine AW.keep 55 (fun L hL => ?_)
        simp only [keepT_nil, keepT_tmp, keepT_cell, keepT_zn, keepT_nm, if_true, if_false, Nat.reduceLT, reduceIte] at hL
        subst hL
        obtain ⟨qw0, qw1, qw2⟩ := UW.at
        obtain ⟨r0, r1, r2⟩ := um1.at
        have P1 : m1.out.1 <+: mw.out.1 := by rw [r2, qw2]; exact outL_pre1 a b false (by omega)
        have P2 : m1.out.2 <+: mw.out.2 := by rw [r2, qw2]; exact outL_pre2 a b false (by omega)
        obtain ⟨t1, g1⟩ := pre_take P1
        obtain ⟨t2, g2⟩ := pre_take P2
        have hlen : m1.out.1.length + m1.out.2.length = m1.at_.toNat := by rw [r2]; exact outL_len a b (by omega)
        have g3 : ¬ mw.out.1.length < m1.out.1.length := by omega
        have g4 : ¬ mw.out.2.length < m1.out.2.length := by omega
        have g5 : IntKind.i64.wrap ((m1.out.1.length : Int) + m1.out.2.length) = m1.at_ := by rw [i64_ok _ (by omega) (by omega)]; omega
        have ce1 := equal_ct m1.out.1 m1.out.1
        have ce2 := equal_ct m1.out.2 m1.out.2
        refine AW.re ty (by kernel_rfl) 320 (fun K hK => ?_)
        (try simp only [List.toList_toArray, toList_lit]); repeat (with_reducible refine AR.step (fun K1 K2 hK1 hK2 => ?_); simp [g3, g4, g5]; (first | refine hK1.out _ _ ?_ | refine hK2.out _ ?_ | refine ⟨by kernel_rfl, hK2.out _ ?_⟩); clear hK1 hK2 K1 K2; simp [g3, g4, g5]); (try with_reducible refine AR.nil ?_)
        refine AR.step (fun K1 K2 hK1 hK2 => ?_)
        simp [g3, g4, g5]
        refine slice_pre P1 ?_
        refine hK1.out _ _ ?_
        clear hK1 hK2 K1 K2
        simp [g3, g4, g5]
        (try simp only [List.toList_toArray, toList_lit]); repeat (with_reducible refine AR.step (fun K1 K2 hK1 hK2 => ?_); simp [g3, g4, g5]; (first | refine hK1.out _ _ ?_ | refine hK2.out _ ?_ | refine ⟨by kernel_rfl, hK2.out _ ?_⟩); clear hK1 hK2 K1 K2; simp [g3, g4, g5]); (try with_reducible refine AR.nil ?_)
        refine AR.step (fun K1 K2 hK1 hK2 => ?_)
        simp [g3, g4, g5]
        refine ⟨by kernel_rfl, .inl ⟨none, _, ce1, ?_⟩⟩
        simp [g3, g4, g5]
        refine hK1.out _ _ ?_
        clear hK1 hK2 K1 K2
        simp [g3, g4, g5]
        (try simp only [List.toList_toArray, toList_lit]); repeat (with_reducible refine AR.step (fun K1 K2 hK1 hK2 => ?_); simp [g3, g4, g5]; (first | refine hK1.out _ _ ?_ | refine hK2.out _ ?_ | refine ⟨by kernel_rfl, hK2.out _ ?_⟩); clear hK1 hK2 K1 K2; simp [g3, g4, g5]); (try with_reducible refine AR.nil ?_)
        refine AR.step (fun K1 K2 hK1 hK2 => ?_)
        simp [g3, g4, g5]
        refine slice_pre P2 ?_
        refine hK1.out _ _ ?_
        clear hK1 hK2 K1 K2
        simp [g3, g4, g5]
        (try simp only [List.toList_toArray, toList_lit]); repeat (with_reducible refine AR.step (fun K1 K2 hK1 hK2 => ?_); simp [g3, g4, g5]; (first | refine hK1.out _ _ ?_ | refine hK2.out _ ?_ | refine ⟨by kernel_rfl, hK2.out _ ?_⟩); clear hK1 hK2 K1 K2; simp [g3, g4, g5]); (try with_reducible refine AR.nil ?_)
        refine AR.step (fun K1 K2 hK1 hK2 => ?_)
        simp [g3, g4, g5]
        refine ⟨by kernel_rfl, .inl ⟨none, _, ce2, ?_⟩⟩
        simp [g3, g4, g5]
        refine hK1.out _ _ ?_
        clear hK1 hK2 K1 K2
        simp [g3, g4, g5]
        (try simp only [List.toList_toArray, toList_lit]); repeat (with_reducible refine AR.step (fun K1 K2 hK1 hK2 => ?_); simp [g3, g4, g5]; (first | refine hK1.out _ _ ?_ | refine hK2.out _ ?_ | refine ⟨by kernel_rfl, hK2.out _ ?_⟩); clear hK1 hK2 K1 K2; simp [g3, g4, g5]); (try with_reducible refine AR.nil ?_)
        refine ⟨chk_drawn (by kernel_rfl) (by kernel_rfl), hK.out _ ?_⟩
        clear hK K
        repeat (first | with_reducible refine AW.seq ?_ | with_reducible refine AW.block ?_ | with_reducible refine AW.skip ?_ | with_reducible refine AW.exit ?_ | with_reducible refine AW.ret ?_ | with_reducible refine AW.label ?_ | with_reducible refine NX.then ?_ | with_reducible refine NX.ret ?_ | with_reducible refine NX.exit ?_ | with_reducible refine NX.inRet ?_ | with_reducible refine NX.inNormal ?_ | with_reducible refine NX.inExit ?_ | with_reducible refine NX.outExit (by decide) ?_)
        refine AW.cf rfl ?_
        repeat (first | with_reducible refine AW.seq ?_ | with_reducible refine AW.block ?_ | with_reducible refine AW.skip ?_ | with_reducible refine AW.exit ?_ | with_reducible refine AW.ret ?_ | with_reducible refine AW.label ?_ | with_reducible refine NX.then ?_ | with_reducible refine NX.ret ?_ | with_reducible refine NX.exit ?_ | with_reducible refine NX.inRet ?_ | with_reducible refine NX.inNormal ?_ | with_reducible refine NX.inExit ?_ | with_reducible refine NX.outExit (by decide) ?_)
        refine AW.keep 55 (fun L hL => ?_)
        simp only [keepT_nil, keepT_tmp, keepT_cell, keepT_zn, keepT_nm, if_true, if_false, Nat.reduceLT, reduceIte] at hL
        subst hL
        clear ce1 ce2 P1 P2 t1 t2 g1 g2 g3 g4 g5 hlen
        have hq : IntKind.i64.wrap (nn.tdiv 2) = nn / 2 := by rw [Int.tdiv_eq_ediv_of_nonneg n0.1]; exact i64_ok _ (by omega) (by omega)
        have hq2 : IntKind.i64.wrap (nn - nn / 2) = nn - nn / 2 := i64_ok _ (by omega) (by omega)
        obtain ⟨kj, mj, hkj, hmj, hSj, umj, kj0, atj⟩ := um.next (n := nn / 2) (by omega)
        have cj := pstep_ct m (nn / 2) sm (by omega) (by omega)
        rw [hSj] at cj
        dsimp only at cj
        obtain ⟨qj0, qj1, qj2⟩ := umj.at
        have Lj := umj.left
        have lenj1 : mj.out.1.length ≤ 200000 := by rw [qj2]; exact Nat.le_trans (List.length_filter_le _ _) (by rw [List.length_take]; omega)
        have lenj2 : mj.out.2.length ≤ 200000 := by rw [qj2]; exact Nat.le_trans (List.length_filter_le _ _) (by rw [List.length_take]; omega)
        have smj : mj.small := by unfold Mg.small; rw [umj.old, umj.new]; omega
        obtain ⟨kr, mr, hkr, hmr, hSr, umr, kr0, atr⟩ := umj.next (n := nn - nn / 2) (by omega)
        have cr := pstep_ct mj (nn - nn / 2) smj (by omega) (by omega)
        rw [hSr] at cr
        dsimp only at cr
        have ek : kj + kr = k := by omega
        have er : mr = m1 := by rw [hmr, hmj, hm1, mstep_add]; congr 1; omega
        subst er
        have cS := pmsame_ct mr mr
        have w3 : IntKind.i64.wrap (kj + kr) = k := by rw [ek]; exact i64_ok _ (by omega) (by omega)
        refine AW.re ty (by kernel_rfl) 400 (fun K hK => ?_)
        (try simp only [List.toList_toArray, toList_lit]); repeat (with_reducible refine AR.step (fun K1 K2 hK1 hK2 => ?_); simp [hq]; (first | refine hK1.out _ _ ?_ | refine hK2.out _ ?_ | refine ⟨by kernel_rfl, hK2.out _ ?_⟩); clear hK1 hK2 K1 K2; simp [hq]); (try with_reducible refine AR.nil ?_)
        refine AR.step (fun K1 K2 hK1 hK2 => ?_)
        simp [hq]
        refine ⟨by kernel_rfl, .inl ⟨none, _, cj, ?_⟩⟩
        simp [hq]
        refine hK1.out _ _ ?_
        clear hK1 hK2 K1 K2
        simp [hq]
        (try simp only [List.toList_toArray, toList_lit]); repeat (with_reducible refine AR.step (fun K1 K2 hK1 hK2 => ?_); simp [hq]; (first | refine hK1.out _ _ ?_ | refine hK2.out _ ?_ | refine ⟨by kernel_rfl, hK2.out _ ?_⟩); clear hK1 hK2 K1 K2; simp [hq]); (try with_reducible refine AR.nil ?_)
        refine ⟨chk_text _ _, hK.out _ ?_⟩
        clear hK K
        repeat (first | with_reducible refine AW.seq ?_ | with_reducible refine AW.block ?_ | with_reducible refine AW.skip ?_ | with_reducible refine AW.exit ?_ | with_reducible refine AW.ret ?_ | with_reducible refine AW.label ?_ | with_reducible refine NX.then ?_ | with_reducible refine NX.ret ?_ | with_reducible refine NX.exit ?_ | with_reducible refine NX.inRet ?_ | with_reducible refine NX.inNormal ?_ | with_reducible refine NX.inExit ?_ | with_reducible refine NX.outExit (by decide) ?_)
        refine AW.keep 55 (fun L hL => ?_)
        simp only [keepT_nil, keepT_tmp, keepT_cell, keepT_zn, keepT_nm, if_true, if_false, Nat.reduceLT, reduceIte] at hL
        subst hL
        refine AW.re ty (by kernel_rfl) 420 (fun K hK => ?_)
        (try simp only [List.toList_toArray, toList_lit]); repeat (with_reducible refine AR.step (fun K1 K2 hK1 hK2 => ?_); simp [hq, hq2]; (first | refine hK1.out _ _ ?_ | refine hK2.out _ ?_ | refine ⟨by kernel_rfl, hK2.out _ ?_⟩); clear hK1 hK2 K1 K2; simp [hq, hq2]); (try with_reducible refine AR.nil ?_)
        refine AR.step (fun K1 K2 hK1 hK2 => ?_)
        simp [hq, hq2]
        refine ⟨by kernel_rfl, .inl ⟨none, _, cr, ?_⟩⟩
        simp [hq, hq2]
        refine hK1.out _ _ ?_
        clear hK1 hK2 K1 K2
        simp [hq, hq2]
        (try simp only [List.toList_toArray, toList_lit]); repeat (with_reducible refine AR.step (fun K1 K2 hK1 hK2 => ?_); simp [hq, hq2]; (first | refine hK1.out _ _ ?_ | refine hK2.out _ ?_ | refine ⟨by kernel_rfl, hK2.out _ ?_⟩); clear hK1 hK2 K1 K2; simp [hq, hq2]); (try with_reducible refine AR.nil ?_)
        refine ⟨chk_text _ _, hK.out _ ?_⟩
        clear hK K
        repeat (first | with_reducible refine AW.seq ?_ | with_reducible refine AW.block ?_ | with_reducible refine AW.skip ?_ | with_reducible refine AW.exit ?_ | with_reducible refine AW.ret ?_ | with_reducible refine AW.label ?_ | with_reducible refine NX.then ?_ | with_reducible refine NX.ret ?_ | with_reducible refine NX.exit ?_ | with_reducible refine NX.inRet ?_ | with_reducible refine NX.inNormal ?_ | with_reducible refine NX.inExit ?_ | with_reducible refine NX.outExit (by decide) ?_)
        refine AW.keep 55 (fun L hL => ?_)
        simp only [keepT_nil, keepT_tmp, keepT_cell, keepT_zn, keepT_nm, if_true, if_false, Nat.reduceLT, reduceIte] at hL
        subst hL
        refine AW.re ty (by kernel_rfl) 440 (fun K hK => ?_)
        (try simp only [List.toList_toArray, toList_lit]); repeat (with_reducible refine AR.step (fun K1 K2 hK1 hK2 => ?_); simp [w3]; (first | refine hK1.out _ _ ?_ | refine hK2.out _ ?_ | refine ⟨by kernel_rfl, hK2.out _ ?_⟩); clear hK1 hK2 K1 K2; simp [w3]); (try with_reducible refine AR.nil ?_)
        refine AR.step (fun K1 K2 hK1 hK2 => ?_)
        simp [w3]
        refine ⟨by kernel_rfl, .inl ⟨none, _, cS, ?_⟩⟩
        simp [w3]
        refine hK1.out _ _ ?_
        clear hK1 hK2 K1 K2
        simp [w3]
        (try simp only [List.toList_toArray, toList_lit]); repeat (with_reducible refine AR.step (fun K1 K2 hK1 hK2 => ?_); simp [w3]; (first | refine hK1.out _ _ ?_ | refine hK2.out _ ?_ | refine ⟨by kernel_rfl, hK2.out _ ?_⟩); clear hK1 hK2 K1 K2; simp [w3]); (try with_reducible refine AR.nil ?_)
        refine ⟨chk_text _ _, hK.out _ ?_⟩
        clear hK K
        repeat (first | with_reducible refine AW.seq ?_ | with_reducible refine AW.block ?_ | with_reducible refine AW.skip ?_ | with_reducible refine AW.exit ?_ | with_reducible refine AW.ret ?_ | with_reducible refine AW.label ?_ | with_reducible refine NX.then ?_ | with_reducible refine NX.ret ?_ | with_reducible refine NX.exit ?_ | with_reducible refine NX.inRet ?_ | with_reducible refine NX.inNormal ?_ | with_reducible refine NX.inExit ?_ | with_reducible refine NX.outExit (by decide) ?_)
        refine AW.cf rfl ?_
        repeat (first | with_reducible refine AW.seq ?_ | with_reducible refine AW.block ?_ | with_reducible refine AW.skip ?_ | with_reducible refine AW.exit ?_ | with_reducible refine AW.ret ?_ | with_reducible refine AW.label ?_ | with_reducible refine NX.then ?_ | with_reducible refine NX.ret ?_ | with_reducible refine NX.exit ?_ | with_reducible refine NX.inRet ?_ | with_reducible refine NX.inNormal ?_ | with_reducible refine NX.inExit ?_ | with_reducible refine NX.outExit (by decide) ?_)
        refine AW.keep 55 (fun L hL => ?_)
        simp only [keepT_nil, keepT_tmp, keepT_cell, keepT_zn, keepT_nm, if_true, if_false, Nat.reduceLT, reduceIte] at hL
        subst hL
        have w4 : IntKind.i64.wrap (m.at_ + k) = mr.at_ := by rw [at1]; exact i64_ok _ (by omega) (by omega)
        refine AW.re ty (by kernel_rfl) 460 (fun K hK => ?_)
        (try simp only [List.toList_toArray, toList_lit]); repeat (with_reducible refine AR.step (fun K1 K2 hK1 hK2 => ?_); simp [w4]; (first | refine hK1.out _ _ ?_ | refine hK2.out _ ?_ | refine ⟨by kernel_rfl, hK2.out _ ?_⟩); clear hK1 hK2 K1 K2; simp [w4]); (try with_reducible refine AR.nil ?_)
        refine ⟨chk_text _ _, hK.out _ ?_⟩
        clear hK K
        repeat (first | with_reducible refine AW.seq ?_ | with_reducible refine AW.block ?_ | with_reducible refine AW.skip ?_ | with_reducible refine AW.exit ?_ | with_reducible refine AW.ret ?_ | with_reducible refine AW.label ?_ | with_reducible refine NX.then ?_ | with_reducible refine NX.ret ?_ | with_reducible refine NX.exit ?_ | with_reducible refine NX.inRet ?_ | with_reducible refine NX.inNormal ?_ | with_reducible refine NX.inExit ?_ | with_reducible refine NX.outExit (by decide) ?_)
        have w5 : IntKind.i64.wrap ((i : Int) + 1) = ((i + 1 : Nat) : Int) := by rw [i64_ok _ (by omega) (by omega)]; omega
        refine AW.re ty (by kernel_rfl) 480 (fun K hK => ?_)
        (try simp only [List.toList_toArray, toList_lit]); repeat (with_reducible refine AR.step (fun K1 K2 hK1 hK2 => ?_); simp [w5]; (first | refine hK1.out _ _ ?_ | refine hK2.out _ ?_ | refine ⟨by kernel_rfl, hK2.out _ ?_⟩); clear hK1 hK2 K1 K2; simp [w5]); (try with_reducible refine AR.nil ?_)
        refine ⟨chk_text _ _, hK.out _ ?_⟩
        clear hK K
        repeat (first | with_reducible refine AW.seq ?_ | with_reducible refine AW.block ?_ | with_reducible refine AW.skip ?_ | with_reducible refine AW.exit ?_ | with_reducible refine AW.ret ?_ | with_reducible refine AW.label ?_ | with_reducible refine NX.then ?_ | with_reducible refine NX.ret ?_ | with_reducible refine NX.exit ?_ | with_reducible refine NX.inRet ?_ | with_reducible refine NX.inNormal ?_ | with_reducible refine NX.inExit ?_ | with_reducible refine NX.outExit (by decide) ?_)
        exact NX.round ⟨(i + 1, mr), by show i + 1 ≤ 10; omega, umr⟩ (by show l.length - (i + 1) < l.length - i; omega) (fun _ _ h => AS.fold (fold_of (nb := nbL []) (zb := zbL [(5, [242])]) (by kernel_rfl) (by kernel_rfl) (by simp [mpL, mbox, foks, fok, kvp, Fv, FvL, subz, Uz, Nm, nbL, zbL])) h)
    · skip
      refine AW.re ty (by kernel_rfl) 200 (fun K hK => ?_)
      (try simp only [List.toList_toArray, toList_lit]); repeat (with_reducible refine AR.step (fun K1 K2 hK1 hK2 => ?_); simp [hi]; (first | refine hK1.out _ _ ?_ | refine hK2.out _ ?_ | refine ⟨by kernel_rfl, hK2.out _ ?_⟩); clear hK1 hK2 K1 K2; simp [hi]); (try with_reducible refine AR.nil ?_)
      refine ⟨chk_text _ _, hK.out _ ?_⟩
      clear hK K
      repeat (first | with_reducible refine AW.seq ?_ | with_reducible refine AW.block ?_ | with_reducible refine AW.skip ?_ | with_reducible refine AW.exit ?_ | with_reducible refine AW.ret ?_ | with_reducible refine AW.label ?_ | with_reducible refine NX.then ?_ | with_reducible refine NX.ret ?_ | with_reducible refine NX.exit ?_ | with_reducible refine NX.inRet ?_ | with_reducible refine NX.inNormal ?_ | with_reducible refine NX.inExit ?_ | with_reducible refine NX.outExit (by decide) ?_)
      refine AW.cf rfl ?_
      repeat (first | with_reducible refine AW.seq ?_ | with_reducible refine AW.block ?_ | with_reducible refine AW.skip ?_ | with_reducible refine AW.exit ?_ | with_reducible refine AW.ret ?_ | with_reducible refine AW.label ?_ | with_reducible refine NX.then ?_ | with_reducible refine NX.ret ?_ | with_reducible refine NX.exit ?_ | with_reducible refine NX.inRet ?_ | with_reducible refine NX.inNormal ?_ | with_reducible refine NX.inExit ?_ | with_reducible refine NX.outExit (by decide) ?_)
      refine AW.keep 55 (fun L hL => ?_)
      simp only [keepT_nil, keepT_tmp, keepT_cell, keepT_zn, keepT_nm, if_true, if_false, Nat.reduceLT, reduceIte] at hL
      subst hL
      refine AW.re ty (by kernel_rfl) 310 (fun K hK => ?_)
      (try simp only [List.toList_toArray, toList_lit]); repeat (with_reducible refine AR.step (fun K1 K2 hK1 hK2 => ?_); simp; (first | refine hK1.out _ _ ?_ | refine hK2.out _ ?_ | refine ⟨by kernel_rfl, hK2.out _ ?_⟩); clear hK1 hK2 K1 K2; simp); (try with_reducible refine AR.nil ?_)
      refine AR.step (fun K1 K2 hK1 hK2 => ?_)
      simp
      refine ⟨by kernel_rfl, .inl ⟨none, _, cc1, ?_⟩⟩
      simp
      refine hK1.out _ _ ?_
      clear hK1 hK2 K1 K2
      simp
      (try simp only [List.toList_toArray, toList_lit]); repeat (with_reducible refine AR.step (fun K1 K2 hK1 hK2 => ?_); simp; (first | refine hK1.out _ _ ?_ | refine hK2.out _ ?_ | refine ⟨by kernel_rfl, hK2.out _ ?_⟩); clear hK1 hK2 K1 K2; simp); (try with_reducible refine AR.nil ?_)
      refine AR.step (fun K1 K2 hK1 hK2 => ?_)
      simp
      refine ⟨by kernel_rfl, .inl ⟨none, _, cc2, ?_⟩⟩
      simp
      refine hK1.out _ _ ?_
      clear hK1 hK2 K1 K2
      simp
      (try simp only [List.toList_toArray, toList_lit]); repeat (with_reducible refine AR.step (fun K1 K2 hK1 hK2 => ?_); simp; (first | refine hK1.out _ _ ?_ | refine hK2.out _ ?_ | refine ⟨by kernel_rfl, hK2.out _ ?_⟩); clear hK1 hK2 K1 K2; simp); (try with_reducible refine AR.nil ?_)
      refine ⟨chk_text _ _, hK.out _ ?_⟩
      clear hK K
      repeat (first | with_reducible refine AW.seq ?_ | with_reducible refine AW.block ?_ | with_reducible refine AW.skip ?_ | with_reducible refine AW.exit ?_ | with_reducible refine AW.ret ?_ | with_reducible refine AW.label ?_ | with_reducible refine NX.then ?_ | with_reducible refine NX.ret ?_ | with_reducible refine NX.exit ?_ | with_reducible refine NX.inRet ?_ | with_reducible refine NX.inNormal ?_ | with_reducible refine NX.inExit ?_ | with_reducible refine NX.outExit (by decide) ?_)
      refine nx_ret (T := ty) (rs := [.tmp 6]) (zs := []) (ds := [dB true]) (r := []) (.inr rfl) rfl (by kernel_rfl) (by kernel_rfl) (by simp) rfl
end Go.Proofs.Ytlkdkhmdmgchbaa
