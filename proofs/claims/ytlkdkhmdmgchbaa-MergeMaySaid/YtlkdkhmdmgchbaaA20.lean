/- MergeMay, on a frame's state. -/
import Derived.Test.YtlkdkhmdmgchbaaAB
namespace Go.Proofs.Ytlkdkhmdmgchbaa
set_option linter.unusedSimpArgs false
set_option linter.unusedVariables false
open Go.RowKit
attribute [local simp ↓] skipTo_e goTo_e arun_nil ob_some kva_av kfree_free knm_false chk_true ya_true gsel_tt gsel_ff gsel_tf gsel_ft vb_bool vi_int vstr_string avps_ptr avps_seg avp_ptr avagg_agg avtup_tup avb_bool shs_struct shl_slice shla_slice shla_arr shls_slice shls_str shi_int bc_true bc_false hd1_cons opc_some opc_none unc_not unc_neg gd_none gd_some as_move as_assign as_pick as_bin as_un as_conv as_load as_faddr as_field as_extract as_iaddr as_slice as_alloc as_box as_store as_build as_rows as_call as_len as_min as_max stMove stPick stBin stUn stConv stLoad stFaddr stField stExtract stIaddr stSlice stAlloc stBox stStore stBuild stRows stCall stLen stMin stMax opd_tmp opd_const opd_func rawL_nil rawL_cons raw_c raw_a opr_e zr_nil zr_cons lvd_live lvd_app obd_some kvd_av chd_true vid_int avd_some lk_cons lk_nil ins_nil ins_cons cells_zero cells_succ spread1_s spread1_v spread1_own spread1_ptr spread1_seg spreadL_nil spreadL_cons spread_agg spread_c spread_own spread_ptr ex_zero ex_succ ops_e opb_none opb_int spreadD_agg spreadD_c spreadD_own fillO_nil fillO_cons argsOf_nil argsOf_cons dvOf_c dvOf_own dvOf_agg zrL_nil zrL_cons
attribute [local simp] dok_some dok_none dflt_tmp dflt_cell dflt_zn dflt_nm puts_nil puts_cons wr_some wr_none cst_agg cst_int cst_bool cst_string cst_slice cst_tuple cst_nilFunc cst_pointer cst_func bin_add bin_sub bin_mul bin_quo bin_rem bin_eql bin_neq bin_lss bin_leq bin_gtr bin_geq bin_bool bin_aggs binT_bool binT_aggs shbd_bool eqb_eql eqb_neq bin_slice bin_str_eql bin_str_neq bin_str_lss bin_str_add nz_v nz_s cd_c cd_own atz_c atz_agg crow_nil crow_cons slc_c slc_own slc_nil raws setR placesT_nil placesT_cons zc chunk zsAll zsArgs_nil zsArgs_cons zsAV_c zsAV_own zsAV_agg deadRow resV_one resV_tup resAV_s resAV_own resAV_agg resAV_tup resZ_none resZ_own isV_one isV_tup isV_c isV_agg isV_v isV_s argRows Sh.agg zds_nil zds_e zds_v zds_s vcells_agg vcells_int vcells_bool vcells_string vcells_slice vcells_pointer toList_lit map_nilL map_consL ty3 ty4 ty22 ty24 ty26 ty27 ty30 ty40 ty48 ty50 ty52 Value.oneCell'
set_option maxRecDepth 100000 in
set_option maxHeartbeats 4000000 in
theorem mmay_ct (x y : Mg) : Ct Try.prog 4 [MD x, MD y] none (.one (dB true)) := by
  have fs := (mown_fits x).small
  have cx := lown_ct x
  have cy := lown_ct y
  refine ct_intro Try.func4 rfl Try.ntmps4 (by simp) (fun W0 => ?_)
  repeat (first | with_reducible refine AW.seq ?_ | with_reducible refine AW.block ?_ | with_reducible refine AW.skip ?_ | with_reducible refine AW.exit ?_ | with_reducible refine AW.ret ?_ | with_reducible refine AW.label ?_ | with_reducible refine NX.then ?_ | with_reducible refine NX.ret ?_ | with_reducible refine NX.exit ?_ | with_reducible refine NX.inRet ?_ | with_reducible refine NX.inNormal ?_ | with_reducible refine NX.inExit ?_ | with_reducible refine NX.outExit (by decide) ?_)
  refine AW.at_ (fun L hL => ?_)
  simp at hL
  subst hL
  refine AW.re ty (by kernel_rfl) 1 (fun K hK => ?_)
  (try simp only [List.toList_toArray, toList_lit]); repeat (with_reducible refine AR.step (fun K1 K2 hK1 hK2 => ?_); simp; (first | refine hK1.out _ _ ?_ | refine hK2.out _ ?_ | refine ⟨by kernel_rfl, hK2.out _ ?_⟩); clear hK1 hK2 K1 K2; simp); (try with_reducible refine AR.nil ?_)
  refine ⟨chk_text _ _, hK.out _ ?_⟩
  clear hK K
  repeat (first | with_reducible refine AW.seq ?_ | with_reducible refine AW.block ?_ | with_reducible refine AW.skip ?_ | with_reducible refine AW.exit ?_ | with_reducible refine AW.ret ?_ | with_reducible refine AW.label ?_ | with_reducible refine NX.then ?_ | with_reducible refine NX.ret ?_ | with_reducible refine NX.exit ?_ | with_reducible refine NX.inRet ?_ | with_reducible refine NX.inNormal ?_ | with_reducible refine NX.inExit ?_ | with_reducible refine NX.outExit (by decide) ?_)
  refine AW.re ty (by kernel_rfl) 10 (fun K hK => ?_)
  (try simp only [List.toList_toArray, toList_lit]); repeat (with_reducible refine AR.step (fun K1 K2 hK1 hK2 => ?_); simp; (first | refine hK1.out _ _ ?_ | refine hK2.out _ ?_ | refine ⟨by kernel_rfl, hK2.out _ ?_⟩); clear hK1 hK2 K1 K2; simp); (try with_reducible refine AR.nil ?_)
  refine AR.step (fun K1 K2 hK1 hK2 => ?_)
  simp
  refine ⟨by kernel_rfl, .inl ⟨none, _, wakes12_ct, ?_⟩⟩
  simp
  refine hK1.out _ _ ?_
  clear hK1 hK2 K1 K2
  simp
  (try simp only [List.toList_toArray, toList_lit]); repeat (with_reducible refine AR.step (fun K1 K2 hK1 hK2 => ?_); simp; (first | refine hK1.out _ _ ?_ | refine hK2.out _ ?_ | refine ⟨by kernel_rfl, hK2.out _ ?_⟩); clear hK1 hK2 K1 K2; simp); (try with_reducible refine AR.nil ?_)
  refine ⟨chk_text _ _, hK.out _ ?_⟩
  clear hK K
  repeat (first | with_reducible refine AW.seq ?_ | with_reducible refine AW.block ?_ | with_reducible refine AW.skip ?_ | with_reducible refine AW.exit ?_ | with_reducible refine AW.ret ?_ | with_reducible refine AW.label ?_ | with_reducible refine NX.then ?_ | with_reducible refine NX.ret ?_ | with_reducible refine NX.exit ?_ | with_reducible refine NX.inRet ?_ | with_reducible refine NX.inNormal ?_ | with_reducible refine NX.inExit ?_ | with_reducible refine NX.outExit (by decide) ?_)
  refine AW.cf rfl ?_
  repeat (first | with_reducible refine AW.seq ?_ | with_reducible refine AW.block ?_ | with_reducible refine AW.skip ?_ | with_reducible refine AW.exit ?_ | with_reducible refine AW.ret ?_ | with_reducible refine AW.label ?_ | with_reducible refine NX.then ?_ | with_reducible refine NX.ret ?_ | with_reducible refine NX.exit ?_ | with_reducible refine NX.inRet ?_ | with_reducible refine NX.inNormal ?_ | with_reducible refine NX.inExit ?_ | with_reducible refine NX.outExit (by decide) ?_)
  refine AW.keep 14 (fun L hL => ?_)
  simp only [keepT_nil, keepT_tmp, keepT_cell, keepT_zn, keepT_nm, if_true, if_false, Nat.reduceLT, reduceIte] at hL
  subst hL
  generalize mown x = ma at *
  generalize mown y = mb at *
  refine AW.re ty (by kernel_rfl) 20 (fun K hK => ?_)
  (try simp only [List.toList_toArray, toList_lit]); repeat (with_reducible refine AR.step (fun K1 K2 hK1 hK2 => ?_); simp; (first | refine hK1.out _ _ ?_ | refine hK2.out _ ?_ | refine ⟨by kernel_rfl, hK2.out _ ?_⟩); clear hK1 hK2 K1 K2; simp); (try with_reducible refine AR.nil ?_)
  refine AR.step (fun K1 K2 hK1 hK2 => ?_)
  simp
  refine ⟨by kernel_rfl, .inl ⟨none, _, cx, ?_⟩⟩
  simp
  refine hK1.out _ _ ?_
  clear hK1 hK2 K1 K2
  simp
  (try simp only [List.toList_toArray, toList_lit]); repeat (with_reducible refine AR.step (fun K1 K2 hK1 hK2 => ?_); simp; (first | refine hK1.out _ _ ?_ | refine hK2.out _ ?_ | refine ⟨by kernel_rfl, hK2.out _ ?_⟩); clear hK1 hK2 K1 K2; simp); (try with_reducible refine AR.nil ?_)
  refine AR.step (fun K1 K2 hK1 hK2 => ?_)
  simp
  refine ⟨by kernel_rfl, .inl ⟨none, _, cy, ?_⟩⟩
  simp
  refine hK1.out _ _ ?_
  clear hK1 hK2 K1 K2
  simp
  (try simp only [List.toList_toArray, toList_lit]); repeat (with_reducible refine AR.step (fun K1 K2 hK1 hK2 => ?_); simp; (first | refine hK1.out _ _ ?_ | refine hK2.out _ ?_ | refine ⟨by kernel_rfl, hK2.out _ ?_⟩); clear hK1 hK2 K1 K2; simp); (try with_reducible refine AR.nil ?_)
  refine ⟨chk_drawn (by kernel_rfl) (by kernel_rfl), hK.out _ ?_⟩
  clear hK K
  repeat (first | with_reducible refine AW.seq ?_ | with_reducible refine AW.block ?_ | with_reducible refine AW.skip ?_ | with_reducible refine AW.exit ?_ | with_reducible refine AW.ret ?_ | with_reducible refine AW.label ?_ | with_reducible refine NX.then ?_ | with_reducible refine NX.ret ?_ | with_reducible refine NX.exit ?_ | with_reducible refine NX.inRet ?_ | with_reducible refine NX.inNormal ?_ | with_reducible refine NX.inExit ?_ | with_reducible refine NX.outExit (by decide) ?_)
  refine AW.keep 14 (fun L hL => ?_)
  simp only [keepT_nil, keepT_tmp, keepT_cell, keepT_zn, keepT_nm, if_true, if_false, Nat.reduceLT, reduceIte] at hL
  subst hL
  have cB := pbegin_ct ma.older ma.newer ma.oldest (by have := fs.1; omega) (by have := fs.2.1; omega) (by have := fs.2.2.1; omega) (by have := fs.2.2.2; omega)
  obtain ⟨mc, eb, hE⟩ : ∃ a b, beginL ma.older ma.newer ma.oldest = (a, b) := ⟨_, _, rfl⟩
  rw [hE] at cB
  dsimp only at cB
  refine AW.re ty (by kernel_rfl) 30 (fun K hK => ?_)
  (try simp only [List.toList_toArray, toList_lit]); repeat (with_reducible refine AR.step (fun K1 K2 hK1 hK2 => ?_); simp; (first | refine hK1.out _ _ ?_ | refine hK2.out _ ?_ | refine ⟨by kernel_rfl, hK2.out _ ?_⟩); clear hK1 hK2 K1 K2; simp); (try with_reducible refine AR.nil ?_)
  refine AR.step (fun K1 K2 hK1 hK2 => ?_)
  simp
  refine ⟨by kernel_rfl, .inl ⟨none, _, mright_ct ma fs, ?_⟩⟩
  simp
  refine hK1.out _ _ ?_
  clear hK1 hK2 K1 K2
  simp
  (try simp only [List.toList_toArray, toList_lit]); repeat (with_reducible refine AR.step (fun K1 K2 hK1 hK2 => ?_); simp; (first | refine hK1.out _ _ ?_ | refine hK2.out _ ?_ | refine ⟨by kernel_rfl, hK2.out _ ?_⟩); clear hK1 hK2 K1 K2; simp); (try with_reducible refine AR.nil ?_)
  refine ⟨chk_text _ _, hK.out _ ?_⟩
  clear hK K
  repeat (first | with_reducible refine AW.seq ?_ | with_reducible refine AW.block ?_ | with_reducible refine AW.skip ?_ | with_reducible refine AW.exit ?_ | with_reducible refine AW.ret ?_ | with_reducible refine AW.label ?_ | with_reducible refine NX.then ?_ | with_reducible refine NX.ret ?_ | with_reducible refine NX.exit ?_ | with_reducible refine NX.inRet ?_ | with_reducible refine NX.inNormal ?_ | with_reducible refine NX.inExit ?_ | with_reducible refine NX.outExit (by decide) ?_)
  refine AW.keep 14 (fun L hL => ?_)
  simp only [keepT_nil, keepT_tmp, keepT_cell, keepT_zn, keepT_nm, if_true, if_false, Nat.reduceLT, reduceIte] at hL
  subst hL
  refine AW.re ty (by kernel_rfl) 40 (fun K hK => ?_)
  (try simp only [List.toList_toArray, toList_lit]); repeat (with_reducible refine AR.step (fun K1 K2 hK1 hK2 => ?_); simp; (first | refine hK1.out _ _ ?_ | refine hK2.out _ ?_ | refine ⟨by kernel_rfl, hK2.out _ ?_⟩); clear hK1 hK2 K1 K2; simp); (try with_reducible refine AR.nil ?_)
  refine AR.step (fun K1 K2 hK1 hK2 => ?_)
  simp
  refine ⟨by kernel_rfl, .inl ⟨none, _, pcheck_ct ma fs, ?_⟩⟩
  simp
  refine hK1.out _ _ ?_
  clear hK1 hK2 K1 K2
  simp
  (try simp only [List.toList_toArray, toList_lit]); repeat (with_reducible refine AR.step (fun K1 K2 hK1 hK2 => ?_); simp; (first | refine hK1.out _ _ ?_ | refine hK2.out _ ?_ | refine ⟨by kernel_rfl, hK2.out _ ?_⟩); clear hK1 hK2 K1 K2; simp); (try with_reducible refine AR.nil ?_)
  refine ⟨chk_text _ _, hK.out _ ?_⟩
  clear hK K
  repeat (first | with_reducible refine AW.seq ?_ | with_reducible refine AW.block ?_ | with_reducible refine AW.skip ?_ | with_reducible refine AW.exit ?_ | with_reducible refine AW.ret ?_ | with_reducible refine AW.label ?_ | with_reducible refine NX.then ?_ | with_reducible refine NX.ret ?_ | with_reducible refine NX.exit ?_ | with_reducible refine NX.inRet ?_ | with_reducible refine NX.inNormal ?_ | with_reducible refine NX.inExit ?_ | with_reducible refine NX.outExit (by decide) ?_)
  refine AW.keep 14 (fun L hL => ?_)
  simp only [keepT_nil, keepT_tmp, keepT_cell, keepT_zn, keepT_nm, if_true, if_false, Nat.reduceLT, reduceIte] at hL
  subst hL
  have cp := pleft_ct ma fs
  cases hr : mright ma
  · have hl : leftL ma = 0 := by unfold leftL; rw [hr]; rfl
    rw [hl] at cp
    refine AW.re ty (by kernel_rfl) 50 (fun K hK => ?_)
    (try simp only [List.toList_toArray, toList_lit]); repeat (with_reducible refine AR.step (fun K1 K2 hK1 hK2 => ?_); simp; (first | refine hK1.out _ _ ?_ | refine hK2.out _ ?_ | refine ⟨by kernel_rfl, hK2.out _ ?_⟩); clear hK1 hK2 K1 K2; simp); (try with_reducible refine AR.nil ?_)
    refine AR.step (fun K1 K2 hK1 hK2 => ?_)
    simp
    refine ⟨by kernel_rfl, .inl ⟨none, _, pmsame_ct ma mb, ?_⟩⟩
    simp
    refine hK1.out _ _ ?_
    clear hK1 hK2 K1 K2
    simp
    (try simp only [List.toList_toArray, toList_lit]); repeat (with_reducible refine AR.step (fun K1 K2 hK1 hK2 => ?_); simp; (first | refine hK1.out _ _ ?_ | refine hK2.out _ ?_ | refine ⟨by kernel_rfl, hK2.out _ ?_⟩); clear hK1 hK2 K1 K2; simp); (try with_reducible refine AR.nil ?_)
    refine AR.step (fun K1 K2 hK1 hK2 => ?_)
    simp
    refine ⟨by kernel_rfl, .inl ⟨none, _, msame_ct ma mb, ?_⟩⟩
    simp
    refine hK1.out _ _ ?_
    clear hK1 hK2 K1 K2
    simp
    (try simp only [List.toList_toArray, toList_lit]); repeat (with_reducible refine AR.step (fun K1 K2 hK1 hK2 => ?_); simp; (first | refine hK1.out _ _ ?_ | refine hK2.out _ ?_ | refine ⟨by kernel_rfl, hK2.out _ ?_⟩); clear hK1 hK2 K1 K2; simp); (try with_reducible refine AR.nil ?_)
    refine AR.step (fun K1 K2 hK1 hK2 => ?_)
    simp
    refine ⟨by kernel_rfl, .inl ⟨none, _, cx, ?_⟩⟩
    simp
    refine hK1.out _ _ ?_
    clear hK1 hK2 K1 K2
    simp
    (try simp only [List.toList_toArray, toList_lit]); repeat (with_reducible refine AR.step (fun K1 K2 hK1 hK2 => ?_); simp; (first | refine hK1.out _ _ ?_ | refine hK2.out _ ?_ | refine ⟨by kernel_rfl, hK2.out _ ?_⟩); clear hK1 hK2 K1 K2; simp); (try with_reducible refine AR.nil ?_)
    refine AR.step (fun K1 K2 hK1 hK2 => ?_)
    simp
    refine ⟨by kernel_rfl, .inl ⟨none, _, pmsame_ct ma ma, ?_⟩⟩
    simp
    refine hK1.out _ _ ?_
    clear hK1 hK2 K1 K2
    simp
    (try simp only [List.toList_toArray, toList_lit]); repeat (with_reducible refine AR.step (fun K1 K2 hK1 hK2 => ?_); simp; (first | refine hK1.out _ _ ?_ | refine hK2.out _ ?_ | refine ⟨by kernel_rfl, hK2.out _ ?_⟩); clear hK1 hK2 K1 K2; simp); (try with_reducible refine AR.nil ?_)
    refine ⟨chk_drawn (by kernel_rfl) (by kernel_rfl), hK.out _ ?_⟩
    clear hK K
    repeat (first | with_reducible refine AW.seq ?_ | with_reducible refine AW.block ?_ | with_reducible refine AW.skip ?_ | with_reducible refine AW.exit ?_ | with_reducible refine AW.ret ?_ | with_reducible refine AW.label ?_ | with_reducible refine NX.then ?_ | with_reducible refine NX.ret ?_ | with_reducible refine NX.exit ?_ | with_reducible refine NX.inRet ?_ | with_reducible refine NX.inNormal ?_ | with_reducible refine NX.inExit ?_ | with_reducible refine NX.outExit (by decide) ?_)
    refine AW.cf rfl ?_
    repeat (first | with_reducible refine AW.seq ?_ | with_reducible refine AW.block ?_ | with_reducible refine AW.skip ?_ | with_reducible refine AW.exit ?_ | with_reducible refine AW.ret ?_ | with_reducible refine AW.label ?_ | with_reducible refine NX.then ?_ | with_reducible refine NX.ret ?_ | with_reducible refine NX.exit ?_ | with_reducible refine NX.inRet ?_ | with_reducible refine NX.inNormal ?_ | with_reducible refine NX.inExit ?_ | with_reducible refine NX.outExit (by decide) ?_)
    refine AW.keep 14 (fun L hL => ?_)
    simp only [keepT_nil, keepT_tmp, keepT_cell, keepT_zn, keepT_nm, if_true, if_false, Nat.reduceLT, reduceIte] at hL
    subst hL
    refine AW.re ty (by kernel_rfl) 80 (fun K hK => ?_)
    (try simp only [List.toList_toArray, toList_lit]); repeat (with_reducible refine AR.step (fun K1 K2 hK1 hK2 => ?_); simp; (first | refine hK1.out _ _ ?_ | refine hK2.out _ ?_ | refine ⟨by kernel_rfl, hK2.out _ ?_⟩); clear hK1 hK2 K1 K2; simp); (try with_reducible refine AR.nil ?_)
    refine AR.step (fun K1 K2 hK1 hK2 => ?_)
    simp
    refine ⟨by kernel_rfl, .inl ⟨none, _, cB, ?_⟩⟩
    simp
    refine hK1.out _ _ ?_
    clear hK1 hK2 K1 K2
    simp
    (try simp only [List.toList_toArray, toList_lit]); repeat (with_reducible refine AR.step (fun K1 K2 hK1 hK2 => ?_); simp; (first | refine hK1.out _ _ ?_ | refine hK2.out _ ?_ | refine ⟨by kernel_rfl, hK2.out _ ?_⟩); clear hK1 hK2 K1 K2; simp); (try with_reducible refine AR.nil ?_)
    refine ⟨chk_text _ _, hK.out _ ?_⟩
    clear hK K
    repeat (first | with_reducible refine AW.seq ?_ | with_reducible refine AW.block ?_ | with_reducible refine AW.skip ?_ | with_reducible refine AW.exit ?_ | with_reducible refine AW.ret ?_ | with_reducible refine AW.label ?_ | with_reducible refine NX.then ?_ | with_reducible refine NX.ret ?_ | with_reducible refine NX.exit ?_ | with_reducible refine NX.inRet ?_ | with_reducible refine NX.inNormal ?_ | with_reducible refine NX.inExit ?_ | with_reducible refine NX.outExit (by decide) ?_)
    refine AW.keep 14 (fun L hL => ?_)
    simp only [keepT_nil, keepT_tmp, keepT_cell, keepT_zn, keepT_nm, if_true, if_false, Nat.reduceLT, reduceIte] at hL
    subst hL
    refine AW.re ty (by kernel_rfl) 90 (fun K hK => ?_)
    (try simp only [List.toList_toArray, toList_lit]); repeat (with_reducible refine AR.step (fun K1 K2 hK1 hK2 => ?_); simp; (first | refine hK1.out _ _ ?_ | refine hK2.out _ ?_ | refine ⟨by kernel_rfl, hK2.out _ ?_⟩); clear hK1 hK2 K1 K2; simp); (try with_reducible refine AR.nil ?_)
    refine ⟨chk_text _ _, hK.out _ ?_⟩
    clear hK K
    repeat (first | with_reducible refine AW.seq ?_ | with_reducible refine AW.block ?_ | with_reducible refine AW.skip ?_ | with_reducible refine AW.exit ?_ | with_reducible refine AW.ret ?_ | with_reducible refine AW.label ?_ | with_reducible refine NX.then ?_ | with_reducible refine NX.ret ?_ | with_reducible refine NX.exit ?_ | with_reducible refine NX.inRet ?_ | with_reducible refine NX.inNormal ?_ | with_reducible refine NX.inExit ?_ | with_reducible refine NX.outExit (by decide) ?_)
    refine AW.keep 14 (fun L hL => ?_)
    simp only [keepT_nil, keepT_tmp, keepT_cell, keepT_zn, keepT_nm, if_true, if_false, Nat.reduceLT, reduceIte] at hL
    subst hL
    have c1 := one_ct ma.older (by have := fs.1; omega)
    have c2 := one_ct ma.newer (by have := fs.2.2.1; omega)
    cases h1 : oneL ma.older
    · obtain ⟨rfl, rfl⟩ : mc = mg0 ∧ eb = 210 := by
        unfold beginL at hE
        rw [if_neg (by simp [h1])] at hE
        simp only [Prod.mk.injEq] at hE
        exact ⟨hE.1.symm, hE.2.symm⟩
      rw [h1] at c1
      refine AW.re ty (by kernel_rfl) 100 (fun K hK => ?_)
      (try simp only [List.toList_toArray, toList_lit]); repeat (with_reducible refine AR.step (fun K1 K2 hK1 hK2 => ?_); simp; (first | refine hK1.out _ _ ?_ | refine hK2.out _ ?_ | refine ⟨by kernel_rfl, hK2.out _ ?_⟩); clear hK1 hK2 K1 K2; simp); (try with_reducible refine AR.nil ?_)
      refine AR.step (fun K1 K2 hK1 hK2 => ?_)
      simp
      refine ⟨by kernel_rfl, .inl ⟨none, _, c1, ?_⟩⟩
      simp
      refine hK1.out _ _ ?_
      clear hK1 hK2 K1 K2
      simp
      (try simp only [List.toList_toArray, toList_lit]); repeat (with_reducible refine AR.step (fun K1 K2 hK1 hK2 => ?_); simp; (first | refine hK1.out _ _ ?_ | refine hK2.out _ ?_ | refine ⟨by kernel_rfl, hK2.out _ ?_⟩); clear hK1 hK2 K1 K2; simp); (try with_reducible refine AR.nil ?_)
      refine ⟨chk_text _ _, hK.out _ ?_⟩
      clear hK K
      repeat (first | with_reducible refine AW.seq ?_ | with_reducible refine AW.block ?_ | with_reducible refine AW.skip ?_ | with_reducible refine AW.exit ?_ | with_reducible refine AW.ret ?_ | with_reducible refine AW.label ?_ | with_reducible refine NX.then ?_ | with_reducible refine NX.ret ?_ | with_reducible refine NX.exit ?_ | with_reducible refine NX.inRet ?_ | with_reducible refine NX.inNormal ?_ | with_reducible refine NX.inExit ?_ | with_reducible refine NX.outExit (by decide) ?_)
      refine AW.cf rfl ?_
      repeat (first | with_reducible refine AW.seq ?_ | with_reducible refine AW.block ?_ | with_reducible refine AW.skip ?_ | with_reducible refine AW.exit ?_ | with_reducible refine AW.ret ?_ | with_reducible refine AW.label ?_ | with_reducible refine NX.then ?_ | with_reducible refine NX.ret ?_ | with_reducible refine NX.exit ?_ | with_reducible refine NX.inRet ?_ | with_reducible refine NX.inNormal ?_ | with_reducible refine NX.inExit ?_ | with_reducible refine NX.outExit (by decide) ?_)
      refine AW.keep 14 (fun L hL => ?_)
      simp only [keepT_nil, keepT_tmp, keepT_cell, keepT_zn, keepT_nm, if_true, if_false, Nat.reduceLT, reduceIte] at hL
      subst hL
      repeat (first | with_reducible refine AW.seq ?_ | with_reducible refine AW.block ?_ | with_reducible refine AW.skip ?_ | with_reducible refine AW.exit ?_ | with_reducible refine AW.ret ?_ | with_reducible refine AW.label ?_ | with_reducible refine NX.then ?_ | with_reducible refine NX.ret ?_ | with_reducible refine NX.exit ?_ | with_reducible refine NX.inRet ?_ | with_reducible refine NX.inNormal ?_ | with_reducible refine NX.inExit ?_ | with_reducible refine NX.outExit (by decide) ?_)
      refine AW.re ty (by kernel_rfl) 120 (fun K hK => ?_)
      (try simp only [List.toList_toArray, toList_lit]); repeat (with_reducible refine AR.step (fun K1 K2 hK1 hK2 => ?_); simp; (first | refine hK1.out _ _ ?_ | refine hK2.out _ ?_ | refine ⟨by kernel_rfl, hK2.out _ ?_⟩); clear hK1 hK2 K1 K2; simp); (try with_reducible refine AR.nil ?_)
      refine AR.step (fun K1 K2 hK1 hK2 => ?_)
      simp
      refine ⟨by kernel_rfl, .inl ⟨none, _, msame_ct mg0 mg0, ?_⟩⟩
      simp
      refine hK1.out _ _ ?_
      clear hK1 hK2 K1 K2
      simp
      (try simp only [List.toList_toArray, toList_lit]); repeat (with_reducible refine AR.step (fun K1 K2 hK1 hK2 => ?_); simp; (first | refine hK1.out _ _ ?_ | refine hK2.out _ ?_ | refine ⟨by kernel_rfl, hK2.out _ ?_⟩); clear hK1 hK2 K1 K2; simp); (try with_reducible refine AR.nil ?_)
      refine ⟨chk_text _ _, hK.out _ ?_⟩
      clear hK K
      repeat (first | with_reducible refine AW.seq ?_ | with_reducible refine AW.block ?_ | with_reducible refine AW.skip ?_ | with_reducible refine AW.exit ?_ | with_reducible refine AW.ret ?_ | with_reducible refine AW.label ?_ | with_reducible refine NX.then ?_ | with_reducible refine NX.ret ?_ | with_reducible refine NX.exit ?_ | with_reducible refine NX.inRet ?_ | with_reducible refine NX.inNormal ?_ | with_reducible refine NX.inExit ?_ | with_reducible refine NX.outExit (by decide) ?_)
      refine AW.cf rfl ?_
      repeat (first | with_reducible refine AW.seq ?_ | with_reducible refine AW.block ?_ | with_reducible refine AW.skip ?_ | with_reducible refine AW.exit ?_ | with_reducible refine AW.ret ?_ | with_reducible refine AW.label ?_ | with_reducible refine NX.then ?_ | with_reducible refine NX.ret ?_ | with_reducible refine NX.exit ?_ | with_reducible refine NX.inRet ?_ | with_reducible refine NX.inNormal ?_ | with_reducible refine NX.inExit ?_ | with_reducible refine NX.outExit (by decide) ?_)
      refine AW.keep 14 (fun L hL => ?_)
      simp only [keepT_nil, keepT_tmp, keepT_cell, keepT_zn, keepT_nm, if_true, if_false, Nat.reduceLT, reduceIte] at hL
      subst hL
      refine AW.re ty (by kernel_rfl) 140 (fun K hK => ?_)
      (try simp only [List.toList_toArray, toList_lit]); repeat (with_reducible refine AR.step (fun K1 K2 hK1 hK2 => ?_); simp; (first | refine hK1.out _ _ ?_ | refine hK2.out _ ?_ | refine ⟨by kernel_rfl, hK2.out _ ?_⟩); clear hK1 hK2 K1 K2; simp); (try with_reducible refine AR.nil ?_)
      refine AR.step (fun K1 K2 hK1 hK2 => ?_)
      simp
      refine ⟨by kernel_rfl, .inr ⟨lspoil_kt mg0, ?_⟩⟩
      simp
      refine hK1.out _ _ ?_
      clear hK1 hK2 K1 K2
      simp
      (try simp only [List.toList_toArray, toList_lit]); repeat (with_reducible refine AR.step (fun K1 K2 hK1 hK2 => ?_); simp; (first | refine hK1.out _ _ ?_ | refine hK2.out _ ?_ | refine ⟨by kernel_rfl, hK2.out _ ?_⟩); clear hK1 hK2 K1 K2; simp); (try with_reducible refine AR.nil ?_)
      refine ⟨chk_text _ _, hK.out _ ?_⟩
      clear hK K
      repeat (first | with_reducible refine AW.seq ?_ | with_reducible refine AW.block ?_ | with_reducible refine AW.skip ?_ | with_reducible refine AW.exit ?_ | with_reducible refine AW.ret ?_ | with_reducible refine AW.label ?_ | with_reducible refine NX.then ?_ | with_reducible refine NX.ret ?_ | with_reducible refine NX.exit ?_ | with_reducible refine NX.inRet ?_ | with_reducible refine NX.inNormal ?_ | with_reducible refine NX.inExit ?_ | with_reducible refine NX.outExit (by decide) ?_)
      refine AW.keep 14 (fun L hL => ?_)
      simp only [keepT_nil, keepT_tmp, keepT_cell, keepT_zn, keepT_nm, if_true, if_false, Nat.reduceLT, reduceIte] at hL
      subst hL
      refine AW.re ty (by kernel_rfl) 150 (fun K hK => ?_)
      (try simp only [List.toList_toArray, toList_lit]); repeat (with_reducible refine AR.step (fun K1 K2 hK1 hK2 => ?_); simp; (first | refine hK1.out _ _ ?_ | refine hK2.out _ ?_ | refine ⟨by kernel_rfl, hK2.out _ ?_⟩); clear hK1 hK2 K1 K2; simp); (try with_reducible refine AR.nil ?_)
      refine ⟨chk_text _ _, hK.out _ ?_⟩
      clear hK K
      repeat (first | with_reducible refine AW.seq ?_ | with_reducible refine AW.block ?_ | with_reducible refine AW.skip ?_ | with_reducible refine AW.exit ?_ | with_reducible refine AW.ret ?_ | with_reducible refine AW.label ?_ | with_reducible refine NX.then ?_ | with_reducible refine NX.ret ?_ | with_reducible refine NX.exit ?_ | with_reducible refine NX.inRet ?_ | with_reducible refine NX.inNormal ?_ | with_reducible refine NX.inExit ?_ | with_reducible refine NX.outExit (by decide) ?_)
      refine AW.re ty (by kernel_rfl) 160 (fun K hK => ?_)
      (try simp only [List.toList_toArray, toList_lit]); repeat (with_reducible refine AR.step (fun K1 K2 hK1 hK2 => ?_); simp; (first | refine hK1.out _ _ ?_ | refine hK2.out _ ?_ | refine ⟨by kernel_rfl, hK2.out _ ?_⟩); clear hK1 hK2 K1 K2; simp); (try with_reducible refine AR.nil ?_)
      refine ⟨chk_text _ _, hK.out _ ?_⟩
      clear hK K
      repeat (first | with_reducible refine AW.seq ?_ | with_reducible refine AW.block ?_ | with_reducible refine AW.skip ?_ | with_reducible refine AW.exit ?_ | with_reducible refine AW.ret ?_ | with_reducible refine AW.label ?_ | with_reducible refine NX.then ?_ | with_reducible refine NX.ret ?_ | with_reducible refine NX.exit ?_ | with_reducible refine NX.inRet ?_ | with_reducible refine NX.inNormal ?_ | with_reducible refine NX.inExit ?_ | with_reducible refine NX.outExit (by decide) ?_)
      refine AW.cf rfl ?_
      repeat (first | with_reducible refine AW.seq ?_ | with_reducible refine AW.block ?_ | with_reducible refine AW.skip ?_ | with_reducible refine AW.exit ?_ | with_reducible refine AW.ret ?_ | with_reducible refine AW.label ?_ | with_reducible refine NX.then ?_ | with_reducible refine NX.ret ?_ | with_reducible refine NX.exit ?_ | with_reducible refine NX.inRet ?_ | with_reducible refine NX.inNormal ?_ | with_reducible refine NX.inExit ?_ | with_reducible refine NX.outExit (by decide) ?_)
      refine AW.keep 14 (fun L hL => ?_)
      simp only [keepT_nil, keepT_tmp, keepT_cell, keepT_zn, keepT_nm, if_true, if_false, Nat.reduceLT, reduceIte] at hL
      subst hL
      refine AW.re ty (by kernel_rfl) 170 (fun K hK => ?_)
      (try simp only [List.toList_toArray, toList_lit]); repeat (with_reducible refine AR.step (fun K1 K2 hK1 hK2 => ?_); simp; (first | refine hK1.out _ _ ?_ | refine hK2.out _ ?_ | refine ⟨by kernel_rfl, hK2.out _ ?_⟩); clear hK1 hK2 K1 K2; simp); (try with_reducible refine AR.nil ?_)
      refine AR.step (fun K1 K2 hK1 hK2 => ?_)
      simp
      refine ⟨by kernel_rfl, .inl ⟨none, _, cp, ?_⟩⟩
      simp
      refine hK1.out _ _ ?_
      clear hK1 hK2 K1 K2
      simp
      (try simp only [List.toList_toArray, toList_lit]); repeat (with_reducible refine AR.step (fun K1 K2 hK1 hK2 => ?_); simp; (first | refine hK1.out _ _ ?_ | refine hK2.out _ ?_ | refine ⟨by kernel_rfl, hK2.out _ ?_⟩); clear hK1 hK2 K1 K2; simp); (try with_reducible refine AR.nil ?_)
      refine AR.step (fun K1 K2 hK1 hK2 => ?_)
      simp
      refine ⟨by kernel_rfl, .inl ⟨none, _, cx, ?_⟩⟩
      simp
      refine hK1.out _ _ ?_
      clear hK1 hK2 K1 K2
      simp
      (try simp only [List.toList_toArray, toList_lit]); repeat (with_reducible refine AR.step (fun K1 K2 hK1 hK2 => ?_); simp; (first | refine hK1.out _ _ ?_ | refine hK2.out _ ?_ | refine ⟨by kernel_rfl, hK2.out _ ?_⟩); clear hK1 hK2 K1 K2; simp); (try with_reducible refine AR.nil ?_)
      refine AR.step (fun K1 K2 hK1 hK2 => ?_)
      simp
      refine ⟨by kernel_rfl, .inl ⟨none, _, msame_ct ma ma, ?_⟩⟩
      simp
      refine hK1.out _ _ ?_
      clear hK1 hK2 K1 K2
      simp
      (try simp only [List.toList_toArray, toList_lit]); repeat (with_reducible refine AR.step (fun K1 K2 hK1 hK2 => ?_); simp; (first | refine hK1.out _ _ ?_ | refine hK2.out _ ?_ | refine ⟨by kernel_rfl, hK2.out _ ?_⟩); clear hK1 hK2 K1 K2; simp); (try with_reducible refine AR.nil ?_)
      refine ⟨chk_drawn (by kernel_rfl) (by kernel_rfl), hK.out _ ?_⟩
      clear hK K
      repeat (first | with_reducible refine AW.seq ?_ | with_reducible refine AW.block ?_ | with_reducible refine AW.skip ?_ | with_reducible refine AW.exit ?_ | with_reducible refine AW.ret ?_ | with_reducible refine AW.label ?_ | with_reducible refine NX.then ?_ | with_reducible refine NX.ret ?_ | with_reducible refine NX.exit ?_ | with_reducible refine NX.inRet ?_ | with_reducible refine NX.inNormal ?_ | with_reducible refine NX.inExit ?_ | with_reducible refine NX.outExit (by decide) ?_)
      refine nx_ret (T := ty) (rs := [.tmp 4]) (zs := []) (ds := [dB true]) (r := []) (.inr rfl) rfl (by kernel_rfl) (by kernel_rfl) (by simp) rfl
    · rw [h1] at c1
      cases h2 : oneL ma.newer
      · obtain ⟨rfl, rfl⟩ : mc = mg0 ∧ eb = 210 := by
          unfold beginL at hE
          rw [if_neg (by simp [h2])] at hE
          simp only [Prod.mk.injEq] at hE
          exact ⟨hE.1.symm, hE.2.symm⟩
        rw [h2] at c2
        refine AW.re ty (by kernel_rfl) 100 (fun K hK => ?_)
        (try simp only [List.toList_toArray, toList_lit]); repeat (with_reducible refine AR.step (fun K1 K2 hK1 hK2 => ?_); simp; (first | refine hK1.out _ _ ?_ | refine hK2.out _ ?_ | refine ⟨by kernel_rfl, hK2.out _ ?_⟩); clear hK1 hK2 K1 K2; simp); (try with_reducible refine AR.nil ?_)
        refine AR.step (fun K1 K2 hK1 hK2 => ?_)
        simp
        refine ⟨by kernel_rfl, .inl ⟨none, _, c1, ?_⟩⟩
        simp
        refine hK1.out _ _ ?_
        clear hK1 hK2 K1 K2
        simp
        (try simp only [List.toList_toArray, toList_lit]); repeat (with_reducible refine AR.step (fun K1 K2 hK1 hK2 => ?_); simp; (first | refine hK1.out _ _ ?_ | refine hK2.out _ ?_ | refine ⟨by kernel_rfl, hK2.out _ ?_⟩); clear hK1 hK2 K1 K2; simp); (try with_reducible refine AR.nil ?_)
        refine AR.step (fun K1 K2 hK1 hK2 => ?_)
        simp
        refine ⟨by kernel_rfl, .inl ⟨none, _, c2, ?_⟩⟩
        simp
        refine hK1.out _ _ ?_
        clear hK1 hK2 K1 K2
        simp
        (try simp only [List.toList_toArray, toList_lit]); repeat (with_reducible refine AR.step (fun K1 K2 hK1 hK2 => ?_); simp; (first | refine hK1.out _ _ ?_ | refine hK2.out _ ?_ | refine ⟨by kernel_rfl, hK2.out _ ?_⟩); clear hK1 hK2 K1 K2; simp); (try with_reducible refine AR.nil ?_)
        refine ⟨chk_text _ _, hK.out _ ?_⟩
        clear hK K
        repeat (first | with_reducible refine AW.seq ?_ | with_reducible refine AW.block ?_ | with_reducible refine AW.skip ?_ | with_reducible refine AW.exit ?_ | with_reducible refine AW.ret ?_ | with_reducible refine AW.label ?_ | with_reducible refine NX.then ?_ | with_reducible refine NX.ret ?_ | with_reducible refine NX.exit ?_ | with_reducible refine NX.inRet ?_ | with_reducible refine NX.inNormal ?_ | with_reducible refine NX.inExit ?_ | with_reducible refine NX.outExit (by decide) ?_)
        refine AW.cf rfl ?_
        repeat (first | with_reducible refine AW.seq ?_ | with_reducible refine AW.block ?_ | with_reducible refine AW.skip ?_ | with_reducible refine AW.exit ?_ | with_reducible refine AW.ret ?_ | with_reducible refine AW.label ?_ | with_reducible refine NX.then ?_ | with_reducible refine NX.ret ?_ | with_reducible refine NX.exit ?_ | with_reducible refine NX.inRet ?_ | with_reducible refine NX.inNormal ?_ | with_reducible refine NX.inExit ?_ | with_reducible refine NX.outExit (by decide) ?_)
        refine AW.keep 14 (fun L hL => ?_)
        simp only [keepT_nil, keepT_tmp, keepT_cell, keepT_zn, keepT_nm, if_true, if_false, Nat.reduceLT, reduceIte] at hL
        subst hL
        repeat (first | with_reducible refine AW.seq ?_ | with_reducible refine AW.block ?_ | with_reducible refine AW.skip ?_ | with_reducible refine AW.exit ?_ | with_reducible refine AW.ret ?_ | with_reducible refine AW.label ?_ | with_reducible refine NX.then ?_ | with_reducible refine NX.ret ?_ | with_reducible refine NX.exit ?_ | with_reducible refine NX.inRet ?_ | with_reducible refine NX.inNormal ?_ | with_reducible refine NX.inExit ?_ | with_reducible refine NX.outExit (by decide) ?_)
        refine AW.re ty (by kernel_rfl) 120 (fun K hK => ?_)
        (try simp only [List.toList_toArray, toList_lit]); repeat (with_reducible refine AR.step (fun K1 K2 hK1 hK2 => ?_); simp; (first | refine hK1.out _ _ ?_ | refine hK2.out _ ?_ | refine ⟨by kernel_rfl, hK2.out _ ?_⟩); clear hK1 hK2 K1 K2; simp); (try with_reducible refine AR.nil ?_)
        refine AR.step (fun K1 K2 hK1 hK2 => ?_)
        simp
        refine ⟨by kernel_rfl, .inl ⟨none, _, msame_ct mg0 mg0, ?_⟩⟩
        simp
        refine hK1.out _ _ ?_
        clear hK1 hK2 K1 K2
        simp
        (try simp only [List.toList_toArray, toList_lit]); repeat (with_reducible refine AR.step (fun K1 K2 hK1 hK2 => ?_); simp; (first | refine hK1.out _ _ ?_ | refine hK2.out _ ?_ | refine ⟨by kernel_rfl, hK2.out _ ?_⟩); clear hK1 hK2 K1 K2; simp); (try with_reducible refine AR.nil ?_)
        refine ⟨chk_text _ _, hK.out _ ?_⟩
        clear hK K
        repeat (first | with_reducible refine AW.seq ?_ | with_reducible refine AW.block ?_ | with_reducible refine AW.skip ?_ | with_reducible refine AW.exit ?_ | with_reducible refine AW.ret ?_ | with_reducible refine AW.label ?_ | with_reducible refine NX.then ?_ | with_reducible refine NX.ret ?_ | with_reducible refine NX.exit ?_ | with_reducible refine NX.inRet ?_ | with_reducible refine NX.inNormal ?_ | with_reducible refine NX.inExit ?_ | with_reducible refine NX.outExit (by decide) ?_)
        refine AW.cf rfl ?_
        repeat (first | with_reducible refine AW.seq ?_ | with_reducible refine AW.block ?_ | with_reducible refine AW.skip ?_ | with_reducible refine AW.exit ?_ | with_reducible refine AW.ret ?_ | with_reducible refine AW.label ?_ | with_reducible refine NX.then ?_ | with_reducible refine NX.ret ?_ | with_reducible refine NX.exit ?_ | with_reducible refine NX.inRet ?_ | with_reducible refine NX.inNormal ?_ | with_reducible refine NX.inExit ?_ | with_reducible refine NX.outExit (by decide) ?_)
        refine AW.keep 14 (fun L hL => ?_)
        simp only [keepT_nil, keepT_tmp, keepT_cell, keepT_zn, keepT_nm, if_true, if_false, Nat.reduceLT, reduceIte] at hL
        subst hL
        refine AW.re ty (by kernel_rfl) 140 (fun K hK => ?_)
        (try simp only [List.toList_toArray, toList_lit]); repeat (with_reducible refine AR.step (fun K1 K2 hK1 hK2 => ?_); simp; (first | refine hK1.out _ _ ?_ | refine hK2.out _ ?_ | refine ⟨by kernel_rfl, hK2.out _ ?_⟩); clear hK1 hK2 K1 K2; simp); (try with_reducible refine AR.nil ?_)
        refine AR.step (fun K1 K2 hK1 hK2 => ?_)
        simp
        refine ⟨by kernel_rfl, .inr ⟨lspoil_kt mg0, ?_⟩⟩
        simp
        refine hK1.out _ _ ?_
        clear hK1 hK2 K1 K2
        simp
        (try simp only [List.toList_toArray, toList_lit]); repeat (with_reducible refine AR.step (fun K1 K2 hK1 hK2 => ?_); simp; (first | refine hK1.out _ _ ?_ | refine hK2.out _ ?_ | refine ⟨by kernel_rfl, hK2.out _ ?_⟩); clear hK1 hK2 K1 K2; simp); (try with_reducible refine AR.nil ?_)
        refine ⟨chk_text _ _, hK.out _ ?_⟩
        clear hK K
        repeat (first | with_reducible refine AW.seq ?_ | with_reducible refine AW.block ?_ | with_reducible refine AW.skip ?_ | with_reducible refine AW.exit ?_ | with_reducible refine AW.ret ?_ | with_reducible refine AW.label ?_ | with_reducible refine NX.then ?_ | with_reducible refine NX.ret ?_ | with_reducible refine NX.exit ?_ | with_reducible refine NX.inRet ?_ | with_reducible refine NX.inNormal ?_ | with_reducible refine NX.inExit ?_ | with_reducible refine NX.outExit (by decide) ?_)
        refine AW.keep 14 (fun L hL => ?_)
        simp only [keepT_nil, keepT_tmp, keepT_cell, keepT_zn, keepT_nm, if_true, if_false, Nat.reduceLT, reduceIte] at hL
        subst hL
        refine AW.re ty (by kernel_rfl) 150 (fun K hK => ?_)
        (try simp only [List.toList_toArray, toList_lit]); repeat (with_reducible refine AR.step (fun K1 K2 hK1 hK2 => ?_); simp; (first | refine hK1.out _ _ ?_ | refine hK2.out _ ?_ | refine ⟨by kernel_rfl, hK2.out _ ?_⟩); clear hK1 hK2 K1 K2; simp); (try with_reducible refine AR.nil ?_)
        refine ⟨chk_text _ _, hK.out _ ?_⟩
        clear hK K
        repeat (first | with_reducible refine AW.seq ?_ | with_reducible refine AW.block ?_ | with_reducible refine AW.skip ?_ | with_reducible refine AW.exit ?_ | with_reducible refine AW.ret ?_ | with_reducible refine AW.label ?_ | with_reducible refine NX.then ?_ | with_reducible refine NX.ret ?_ | with_reducible refine NX.exit ?_ | with_reducible refine NX.inRet ?_ | with_reducible refine NX.inNormal ?_ | with_reducible refine NX.inExit ?_ | with_reducible refine NX.outExit (by decide) ?_)
        refine AW.re ty (by kernel_rfl) 160 (fun K hK => ?_)
        (try simp only [List.toList_toArray, toList_lit]); repeat (with_reducible refine AR.step (fun K1 K2 hK1 hK2 => ?_); simp; (first | refine hK1.out _ _ ?_ | refine hK2.out _ ?_ | refine ⟨by kernel_rfl, hK2.out _ ?_⟩); clear hK1 hK2 K1 K2; simp); (try with_reducible refine AR.nil ?_)
        refine ⟨chk_text _ _, hK.out _ ?_⟩
        clear hK K
        repeat (first | with_reducible refine AW.seq ?_ | with_reducible refine AW.block ?_ | with_reducible refine AW.skip ?_ | with_reducible refine AW.exit ?_ | with_reducible refine AW.ret ?_ | with_reducible refine AW.label ?_ | with_reducible refine NX.then ?_ | with_reducible refine NX.ret ?_ | with_reducible refine NX.exit ?_ | with_reducible refine NX.inRet ?_ | with_reducible refine NX.inNormal ?_ | with_reducible refine NX.inExit ?_ | with_reducible refine NX.outExit (by decide) ?_)
        refine AW.cf rfl ?_
        repeat (first | with_reducible refine AW.seq ?_ | with_reducible refine AW.block ?_ | with_reducible refine AW.skip ?_ | with_reducible refine AW.exit ?_ | with_reducible refine AW.ret ?_ | with_reducible refine AW.label ?_ | with_reducible refine NX.then ?_ | with_reducible refine NX.ret ?_ | with_reducible refine NX.exit ?_ | with_reducible refine NX.inRet ?_ | with_reducible refine NX.inNormal ?_ | with_reducible refine NX.inExit ?_ | with_reducible refine NX.outExit (by decide) ?_)
        refine AW.keep 14 (fun L hL => ?_)
        simp only [keepT_nil, keepT_tmp, keepT_cell, keepT_zn, keepT_nm, if_true, if_false, Nat.reduceLT, reduceIte] at hL
        subst hL
        refine AW.re ty (by kernel_rfl) 170 (fun K hK => ?_)
        (try simp only [List.toList_toArray, toList_lit]); repeat (with_reducible refine AR.step (fun K1 K2 hK1 hK2 => ?_); simp; (first | refine hK1.out _ _ ?_ | refine hK2.out _ ?_ | refine ⟨by kernel_rfl, hK2.out _ ?_⟩); clear hK1 hK2 K1 K2; simp); (try with_reducible refine AR.nil ?_)
        refine AR.step (fun K1 K2 hK1 hK2 => ?_)
        simp
        refine ⟨by kernel_rfl, .inl ⟨none, _, cp, ?_⟩⟩
        simp
        refine hK1.out _ _ ?_
        clear hK1 hK2 K1 K2
        simp
        (try simp only [List.toList_toArray, toList_lit]); repeat (with_reducible refine AR.step (fun K1 K2 hK1 hK2 => ?_); simp; (first | refine hK1.out _ _ ?_ | refine hK2.out _ ?_ | refine ⟨by kernel_rfl, hK2.out _ ?_⟩); clear hK1 hK2 K1 K2; simp); (try with_reducible refine AR.nil ?_)
        refine AR.step (fun K1 K2 hK1 hK2 => ?_)
        simp
        refine ⟨by kernel_rfl, .inl ⟨none, _, cx, ?_⟩⟩
        simp
        refine hK1.out _ _ ?_
        clear hK1 hK2 K1 K2
        simp
        (try simp only [List.toList_toArray, toList_lit]); repeat (with_reducible refine AR.step (fun K1 K2 hK1 hK2 => ?_); simp; (first | refine hK1.out _ _ ?_ | refine hK2.out _ ?_ | refine ⟨by kernel_rfl, hK2.out _ ?_⟩); clear hK1 hK2 K1 K2; simp); (try with_reducible refine AR.nil ?_)
        refine AR.step (fun K1 K2 hK1 hK2 => ?_)
        simp
        refine ⟨by kernel_rfl, .inl ⟨none, _, msame_ct ma ma, ?_⟩⟩
        simp
        refine hK1.out _ _ ?_
        clear hK1 hK2 K1 K2
        simp
        (try simp only [List.toList_toArray, toList_lit]); repeat (with_reducible refine AR.step (fun K1 K2 hK1 hK2 => ?_); simp; (first | refine hK1.out _ _ ?_ | refine hK2.out _ ?_ | refine ⟨by kernel_rfl, hK2.out _ ?_⟩); clear hK1 hK2 K1 K2; simp); (try with_reducible refine AR.nil ?_)
        refine ⟨chk_drawn (by kernel_rfl) (by kernel_rfl), hK.out _ ?_⟩
        clear hK K
        repeat (first | with_reducible refine AW.seq ?_ | with_reducible refine AW.block ?_ | with_reducible refine AW.skip ?_ | with_reducible refine AW.exit ?_ | with_reducible refine AW.ret ?_ | with_reducible refine AW.label ?_ | with_reducible refine NX.then ?_ | with_reducible refine NX.ret ?_ | with_reducible refine NX.exit ?_ | with_reducible refine NX.inRet ?_ | with_reducible refine NX.inNormal ?_ | with_reducible refine NX.inExit ?_ | with_reducible refine NX.outExit (by decide) ?_)
        refine nx_ret (T := ty) (rs := [.tmp 4]) (zs := []) (ds := [dB true]) (r := []) (.inr rfl) rfl (by kernel_rfl) (by kernel_rfl) (by simp) rfl
      · obtain ⟨rfl, rfl⟩ : mc = ⟨ma.older, ma.newer, ma.oldest, 0, ([], [])⟩ ∧ eb = 0 := by
          unfold beginL at hE
          rw [if_pos (by simp [h1, h2])] at hE
          simp only [Prod.mk.injEq] at hE
          exact ⟨hE.1.symm, hE.2.symm⟩
        rw [h2] at c2
        refine AW.re ty (by kernel_rfl) 100 (fun K hK => ?_)
        (try simp only [List.toList_toArray, toList_lit]); repeat (with_reducible refine AR.step (fun K1 K2 hK1 hK2 => ?_); simp; (first | refine hK1.out _ _ ?_ | refine hK2.out _ ?_ | refine ⟨by kernel_rfl, hK2.out _ ?_⟩); clear hK1 hK2 K1 K2; simp); (try with_reducible refine AR.nil ?_)
        refine AR.step (fun K1 K2 hK1 hK2 => ?_)
        simp
        refine ⟨by kernel_rfl, .inl ⟨none, _, c1, ?_⟩⟩
        simp
        refine hK1.out _ _ ?_
        clear hK1 hK2 K1 K2
        simp
        (try simp only [List.toList_toArray, toList_lit]); repeat (with_reducible refine AR.step (fun K1 K2 hK1 hK2 => ?_); simp; (first | refine hK1.out _ _ ?_ | refine hK2.out _ ?_ | refine ⟨by kernel_rfl, hK2.out _ ?_⟩); clear hK1 hK2 K1 K2; simp); (try with_reducible refine AR.nil ?_)
        refine AR.step (fun K1 K2 hK1 hK2 => ?_)
        simp
        refine ⟨by kernel_rfl, .inl ⟨none, _, c2, ?_⟩⟩
        simp
        refine hK1.out _ _ ?_
        clear hK1 hK2 K1 K2
        simp
        (try simp only [List.toList_toArray, toList_lit]); repeat (with_reducible refine AR.step (fun K1 K2 hK1 hK2 => ?_); simp; (first | refine hK1.out _ _ ?_ | refine hK2.out _ ?_ | refine ⟨by kernel_rfl, hK2.out _ ?_⟩); clear hK1 hK2 K1 K2; simp); (try with_reducible refine AR.nil ?_)
        refine ⟨chk_text _ _, hK.out _ ?_⟩
        clear hK K
        repeat (first | with_reducible refine AW.seq ?_ | with_reducible refine AW.block ?_ | with_reducible refine AW.skip ?_ | with_reducible refine AW.exit ?_ | with_reducible refine AW.ret ?_ | with_reducible refine AW.label ?_ | with_reducible refine NX.then ?_ | with_reducible refine NX.ret ?_ | with_reducible refine NX.exit ?_ | with_reducible refine NX.inRet ?_ | with_reducible refine NX.inNormal ?_ | with_reducible refine NX.inExit ?_ | with_reducible refine NX.outExit (by decide) ?_)
        refine AW.ct rfl ?_
        repeat (first | with_reducible refine AW.seq ?_ | with_reducible refine AW.block ?_ | with_reducible refine AW.skip ?_ | with_reducible refine AW.exit ?_ | with_reducible refine AW.ret ?_ | with_reducible refine AW.label ?_ | with_reducible refine NX.then ?_ | with_reducible refine NX.ret ?_ | with_reducible refine NX.exit ?_ | with_reducible refine NX.inRet ?_ | with_reducible refine NX.inNormal ?_ | with_reducible refine NX.inExit ?_ | with_reducible refine NX.outExit (by decide) ?_)
        refine AW.keep 14 (fun L hL => ?_)
        simp only [keepT_nil, keepT_tmp, keepT_cell, keepT_zn, keepT_nm, if_true, if_false, Nat.reduceLT, reduceIte] at hL
        subst hL
        refine AW.re ty (by kernel_rfl) 110 (fun K hK => ?_)
        (try simp only [List.toList_toArray, toList_lit]); repeat (with_reducible refine AR.step (fun K1 K2 hK1 hK2 => ?_); simp; (first | refine hK1.out _ _ ?_ | refine hK2.out _ ?_ | refine ⟨by kernel_rfl, hK2.out _ ?_⟩); clear hK1 hK2 K1 K2; simp); (try with_reducible refine AR.nil ?_)
        refine ⟨chk_text _ _, hK.out _ ?_⟩
        clear hK K
        repeat (first | with_reducible refine AW.seq ?_ | with_reducible refine AW.block ?_ | with_reducible refine AW.skip ?_ | with_reducible refine AW.exit ?_ | with_reducible refine AW.ret ?_ | with_reducible refine AW.label ?_ | with_reducible refine NX.then ?_ | with_reducible refine NX.ret ?_ | with_reducible refine NX.exit ?_ | with_reducible refine NX.inRet ?_ | with_reducible refine NX.inNormal ?_ | with_reducible refine NX.inExit ?_ | with_reducible refine NX.outExit (by decide) ?_)
        refine AW.keep 14 (fun L hL => ?_)
        simp only [keepT_nil, keepT_tmp, keepT_cell, keepT_zn, keepT_nm, if_true, if_false, Nat.reduceLT, reduceIte] at hL
        subst hL
        repeat (first | with_reducible refine AW.seq ?_ | with_reducible refine AW.block ?_ | with_reducible refine AW.skip ?_ | with_reducible refine AW.exit ?_ | with_reducible refine AW.ret ?_ | with_reducible refine AW.label ?_ | with_reducible refine NX.then ?_ | with_reducible refine NX.ret ?_ | with_reducible refine NX.exit ?_ | with_reducible refine NX.inRet ?_ | with_reducible refine NX.inNormal ?_ | with_reducible refine NX.inExit ?_ | with_reducible refine NX.outExit (by decide) ?_)
        refine AW.re ty (by kernel_rfl) 120 (fun K hK => ?_)
        (try simp only [List.toList_toArray, toList_lit]); repeat (with_reducible refine AR.step (fun K1 K2 hK1 hK2 => ?_); simp; (first | refine hK1.out _ _ ?_ | refine hK2.out _ ?_ | refine ⟨by kernel_rfl, hK2.out _ ?_⟩); clear hK1 hK2 K1 K2; simp); (try with_reducible refine AR.nil ?_)
        refine AR.step (fun K1 K2 hK1 hK2 => ?_)
        simp
        refine ⟨by kernel_rfl, .inl ⟨none, _, msame_ct ⟨ma.older, ma.newer, ma.oldest, 0, ([], [])⟩ ⟨ma.older, ma.newer, ma.oldest, 0, ([], [])⟩, ?_⟩⟩
        simp
        refine hK1.out _ _ ?_
        clear hK1 hK2 K1 K2
        simp
        (try simp only [List.toList_toArray, toList_lit]); repeat (with_reducible refine AR.step (fun K1 K2 hK1 hK2 => ?_); simp; (first | refine hK1.out _ _ ?_ | refine hK2.out _ ?_ | refine ⟨by kernel_rfl, hK2.out _ ?_⟩); clear hK1 hK2 K1 K2; simp); (try with_reducible refine AR.nil ?_)
        refine ⟨chk_text _ _, hK.out _ ?_⟩
        clear hK K
        repeat (first | with_reducible refine AW.seq ?_ | with_reducible refine AW.block ?_ | with_reducible refine AW.skip ?_ | with_reducible refine AW.exit ?_ | with_reducible refine AW.ret ?_ | with_reducible refine AW.label ?_ | with_reducible refine NX.then ?_ | with_reducible refine NX.ret ?_ | with_reducible refine NX.exit ?_ | with_reducible refine NX.inRet ?_ | with_reducible refine NX.inNormal ?_ | with_reducible refine NX.inExit ?_ | with_reducible refine NX.outExit (by decide) ?_)
        refine AW.cf rfl ?_
        repeat (first | with_reducible refine AW.seq ?_ | with_reducible refine AW.block ?_ | with_reducible refine AW.skip ?_ | with_reducible refine AW.exit ?_ | with_reducible refine AW.ret ?_ | with_reducible refine AW.label ?_ | with_reducible refine NX.then ?_ | with_reducible refine NX.ret ?_ | with_reducible refine NX.exit ?_ | with_reducible refine NX.inRet ?_ | with_reducible refine NX.inNormal ?_ | with_reducible refine NX.inExit ?_ | with_reducible refine NX.outExit (by decide) ?_)
        refine AW.keep 14 (fun L hL => ?_)
        simp only [keepT_nil, keepT_tmp, keepT_cell, keepT_zn, keepT_nm, if_true, if_false, Nat.reduceLT, reduceIte] at hL
        subst hL
        refine AW.re ty (by kernel_rfl) 140 (fun K hK => ?_)
        (try simp only [List.toList_toArray, toList_lit]); repeat (with_reducible refine AR.step (fun K1 K2 hK1 hK2 => ?_); simp; (first | refine hK1.out _ _ ?_ | refine hK2.out _ ?_ | refine ⟨by kernel_rfl, hK2.out _ ?_⟩); clear hK1 hK2 K1 K2; simp); (try with_reducible refine AR.nil ?_)
        refine AR.step (fun K1 K2 hK1 hK2 => ?_)
        simp
        refine ⟨by kernel_rfl, .inr ⟨lspoil_kt ⟨ma.older, ma.newer, ma.oldest, 0, ([], [])⟩, ?_⟩⟩
        simp
        refine hK1.out _ _ ?_
        clear hK1 hK2 K1 K2
        simp
        (try simp only [List.toList_toArray, toList_lit]); repeat (with_reducible refine AR.step (fun K1 K2 hK1 hK2 => ?_); simp; (first | refine hK1.out _ _ ?_ | refine hK2.out _ ?_ | refine ⟨by kernel_rfl, hK2.out _ ?_⟩); clear hK1 hK2 K1 K2; simp); (try with_reducible refine AR.nil ?_)
        refine ⟨chk_text _ _, hK.out _ ?_⟩
        clear hK K
        repeat (first | with_reducible refine AW.seq ?_ | with_reducible refine AW.block ?_ | with_reducible refine AW.skip ?_ | with_reducible refine AW.exit ?_ | with_reducible refine AW.ret ?_ | with_reducible refine AW.label ?_ | with_reducible refine NX.then ?_ | with_reducible refine NX.ret ?_ | with_reducible refine NX.exit ?_ | with_reducible refine NX.inRet ?_ | with_reducible refine NX.inNormal ?_ | with_reducible refine NX.inExit ?_ | with_reducible refine NX.outExit (by decide) ?_)
        refine AW.keep 14 (fun L hL => ?_)
        simp only [keepT_nil, keepT_tmp, keepT_cell, keepT_zn, keepT_nm, if_true, if_false, Nat.reduceLT, reduceIte] at hL
        subst hL
        refine AW.re ty (by kernel_rfl) 150 (fun K hK => ?_)
        (try simp only [List.toList_toArray, toList_lit]); repeat (with_reducible refine AR.step (fun K1 K2 hK1 hK2 => ?_); simp; (first | refine hK1.out _ _ ?_ | refine hK2.out _ ?_ | refine ⟨by kernel_rfl, hK2.out _ ?_⟩); clear hK1 hK2 K1 K2; simp); (try with_reducible refine AR.nil ?_)
        refine ⟨chk_text _ _, hK.out _ ?_⟩
        clear hK K
        repeat (first | with_reducible refine AW.seq ?_ | with_reducible refine AW.block ?_ | with_reducible refine AW.skip ?_ | with_reducible refine AW.exit ?_ | with_reducible refine AW.ret ?_ | with_reducible refine AW.label ?_ | with_reducible refine NX.then ?_ | with_reducible refine NX.ret ?_ | with_reducible refine NX.exit ?_ | with_reducible refine NX.inRet ?_ | with_reducible refine NX.inNormal ?_ | with_reducible refine NX.inExit ?_ | with_reducible refine NX.outExit (by decide) ?_)
        refine AW.re ty (by kernel_rfl) 160 (fun K hK => ?_)
        (try simp only [List.toList_toArray, toList_lit]); repeat (with_reducible refine AR.step (fun K1 K2 hK1 hK2 => ?_); simp; (first | refine hK1.out _ _ ?_ | refine hK2.out _ ?_ | refine ⟨by kernel_rfl, hK2.out _ ?_⟩); clear hK1 hK2 K1 K2; simp); (try with_reducible refine AR.nil ?_)
        refine ⟨chk_text _ _, hK.out _ ?_⟩
        clear hK K
        repeat (first | with_reducible refine AW.seq ?_ | with_reducible refine AW.block ?_ | with_reducible refine AW.skip ?_ | with_reducible refine AW.exit ?_ | with_reducible refine AW.ret ?_ | with_reducible refine AW.label ?_ | with_reducible refine NX.then ?_ | with_reducible refine NX.ret ?_ | with_reducible refine NX.exit ?_ | with_reducible refine NX.inRet ?_ | with_reducible refine NX.inNormal ?_ | with_reducible refine NX.inExit ?_ | with_reducible refine NX.outExit (by decide) ?_)
        refine AW.cf rfl ?_
        repeat (first | with_reducible refine AW.seq ?_ | with_reducible refine AW.block ?_ | with_reducible refine AW.skip ?_ | with_reducible refine AW.exit ?_ | with_reducible refine AW.ret ?_ | with_reducible refine AW.label ?_ | with_reducible refine NX.then ?_ | with_reducible refine NX.ret ?_ | with_reducible refine NX.exit ?_ | with_reducible refine NX.inRet ?_ | with_reducible refine NX.inNormal ?_ | with_reducible refine NX.inExit ?_ | with_reducible refine NX.outExit (by decide) ?_)
        refine AW.keep 14 (fun L hL => ?_)
        simp only [keepT_nil, keepT_tmp, keepT_cell, keepT_zn, keepT_nm, if_true, if_false, Nat.reduceLT, reduceIte] at hL
        subst hL
        refine AW.re ty (by kernel_rfl) 170 (fun K hK => ?_)
        (try simp only [List.toList_toArray, toList_lit]); repeat (with_reducible refine AR.step (fun K1 K2 hK1 hK2 => ?_); simp; (first | refine hK1.out _ _ ?_ | refine hK2.out _ ?_ | refine ⟨by kernel_rfl, hK2.out _ ?_⟩); clear hK1 hK2 K1 K2; simp); (try with_reducible refine AR.nil ?_)
        refine AR.step (fun K1 K2 hK1 hK2 => ?_)
        simp
        refine ⟨by kernel_rfl, .inl ⟨none, _, cp, ?_⟩⟩
        simp
        refine hK1.out _ _ ?_
        clear hK1 hK2 K1 K2
        simp
        (try simp only [List.toList_toArray, toList_lit]); repeat (with_reducible refine AR.step (fun K1 K2 hK1 hK2 => ?_); simp; (first | refine hK1.out _ _ ?_ | refine hK2.out _ ?_ | refine ⟨by kernel_rfl, hK2.out _ ?_⟩); clear hK1 hK2 K1 K2; simp); (try with_reducible refine AR.nil ?_)
        refine AR.step (fun K1 K2 hK1 hK2 => ?_)
        simp
        refine ⟨by kernel_rfl, .inl ⟨none, _, cx, ?_⟩⟩
        simp
        refine hK1.out _ _ ?_
        clear hK1 hK2 K1 K2
        simp
        (try simp only [List.toList_toArray, toList_lit]); repeat (with_reducible refine AR.step (fun K1 K2 hK1 hK2 => ?_); simp; (first | refine hK1.out _ _ ?_ | refine hK2.out _ ?_ | refine ⟨by kernel_rfl, hK2.out _ ?_⟩); clear hK1 hK2 K1 K2; simp); (try with_reducible refine AR.nil ?_)
        refine AR.step (fun K1 K2 hK1 hK2 => ?_)
        simp
        refine ⟨by kernel_rfl, .inl ⟨none, _, msame_ct ma ma, ?_⟩⟩
        simp
        refine hK1.out _ _ ?_
        clear hK1 hK2 K1 K2
        simp
        (try simp only [List.toList_toArray, toList_lit]); repeat (with_reducible refine AR.step (fun K1 K2 hK1 hK2 => ?_); simp; (first | refine hK1.out _ _ ?_ | refine hK2.out _ ?_ | refine ⟨by kernel_rfl, hK2.out _ ?_⟩); clear hK1 hK2 K1 K2; simp); (try with_reducible refine AR.nil ?_)
        refine ⟨chk_drawn (by kernel_rfl) (by kernel_rfl), hK.out _ ?_⟩
        clear hK K
        repeat (first | with_reducible refine AW.seq ?_ | with_reducible refine AW.block ?_ | with_reducible refine AW.skip ?_ | with_reducible refine AW.exit ?_ | with_reducible refine AW.ret ?_ | with_reducible refine AW.label ?_ | with_reducible refine NX.then ?_ | with_reducible refine NX.ret ?_ | with_reducible refine NX.exit ?_ | with_reducible refine NX.inRet ?_ | with_reducible refine NX.inNormal ?_ | with_reducible refine NX.inExit ?_ | with_reducible refine NX.outExit (by decide) ?_)
        refine nx_ret (T := ty) (rs := [.tmp 4]) (zs := []) (ds := [dB true]) (r := []) (.inr rfl) rfl (by kernel_rfl) (by kernel_rfl) (by simp) rfl
  · obtain ⟨h0, h1, -, -, -⟩ := mright_at hr
    have PL := pairsL_len ma.older ma.newer
    have cq := refleft_ct ma fs h0 (by have := fs; unfold Mg.small at this; omega)
    have hl : leftL ma = ((pairsL ma.older ma.newer).length : Int) - ma.at_ := by unfold leftL; rw [hr]; rfl
    rw [← hl] at cq
    clear h0 h1 PL
    refine AW.re ty (by kernel_rfl) 50 (fun K hK => ?_)
    (try simp only [List.toList_toArray, toList_lit]); repeat (with_reducible refine AR.step (fun K1 K2 hK1 hK2 => ?_); simp; (first | refine hK1.out _ _ ?_ | refine hK2.out _ ?_ | refine ⟨by kernel_rfl, hK2.out _ ?_⟩); clear hK1 hK2 K1 K2; simp); (try with_reducible refine AR.nil ?_)
    refine AR.step (fun K1 K2 hK1 hK2 => ?_)
    simp
    refine ⟨by kernel_rfl, .inl ⟨none, _, pmsame_ct ma mb, ?_⟩⟩
    simp
    refine hK1.out _ _ ?_
    clear hK1 hK2 K1 K2
    simp
    (try simp only [List.toList_toArray, toList_lit]); repeat (with_reducible refine AR.step (fun K1 K2 hK1 hK2 => ?_); simp; (first | refine hK1.out _ _ ?_ | refine hK2.out _ ?_ | refine ⟨by kernel_rfl, hK2.out _ ?_⟩); clear hK1 hK2 K1 K2; simp); (try with_reducible refine AR.nil ?_)
    refine AR.step (fun K1 K2 hK1 hK2 => ?_)
    simp
    refine ⟨by kernel_rfl, .inl ⟨none, _, msame_ct ma mb, ?_⟩⟩
    simp
    refine hK1.out _ _ ?_
    clear hK1 hK2 K1 K2
    simp
    (try simp only [List.toList_toArray, toList_lit]); repeat (with_reducible refine AR.step (fun K1 K2 hK1 hK2 => ?_); simp; (first | refine hK1.out _ _ ?_ | refine hK2.out _ ?_ | refine ⟨by kernel_rfl, hK2.out _ ?_⟩); clear hK1 hK2 K1 K2; simp); (try with_reducible refine AR.nil ?_)
    refine AR.step (fun K1 K2 hK1 hK2 => ?_)
    simp
    refine ⟨by kernel_rfl, .inl ⟨none, _, cx, ?_⟩⟩
    simp
    refine hK1.out _ _ ?_
    clear hK1 hK2 K1 K2
    simp
    (try simp only [List.toList_toArray, toList_lit]); repeat (with_reducible refine AR.step (fun K1 K2 hK1 hK2 => ?_); simp; (first | refine hK1.out _ _ ?_ | refine hK2.out _ ?_ | refine ⟨by kernel_rfl, hK2.out _ ?_⟩); clear hK1 hK2 K1 K2; simp); (try with_reducible refine AR.nil ?_)
    refine AR.step (fun K1 K2 hK1 hK2 => ?_)
    simp
    refine ⟨by kernel_rfl, .inl ⟨none, _, pmsame_ct ma ma, ?_⟩⟩
    simp
    refine hK1.out _ _ ?_
    clear hK1 hK2 K1 K2
    simp
    (try simp only [List.toList_toArray, toList_lit]); repeat (with_reducible refine AR.step (fun K1 K2 hK1 hK2 => ?_); simp; (first | refine hK1.out _ _ ?_ | refine hK2.out _ ?_ | refine ⟨by kernel_rfl, hK2.out _ ?_⟩); clear hK1 hK2 K1 K2; simp); (try with_reducible refine AR.nil ?_)
    refine ⟨chk_drawn (by kernel_rfl) (by kernel_rfl), hK.out _ ?_⟩
    clear hK K
    repeat (first | with_reducible refine AW.seq ?_ | with_reducible refine AW.block ?_ | with_reducible refine AW.skip ?_ | with_reducible refine AW.exit ?_ | with_reducible refine AW.ret ?_ | with_reducible refine AW.label ?_ | with_reducible refine NX.then ?_ | with_reducible refine NX.ret ?_ | with_reducible refine NX.exit ?_ | with_reducible refine NX.inRet ?_ | with_reducible refine NX.inNormal ?_ | with_reducible refine NX.inExit ?_ | with_reducible refine NX.outExit (by decide) ?_)
    refine AW.cf rfl ?_
    repeat (first | with_reducible refine AW.seq ?_ | with_reducible refine AW.block ?_ | with_reducible refine AW.skip ?_ | with_reducible refine AW.exit ?_ | with_reducible refine AW.ret ?_ | with_reducible refine AW.label ?_ | with_reducible refine NX.then ?_ | with_reducible refine NX.ret ?_ | with_reducible refine NX.exit ?_ | with_reducible refine NX.inRet ?_ | with_reducible refine NX.inNormal ?_ | with_reducible refine NX.inExit ?_ | with_reducible refine NX.outExit (by decide) ?_)
    refine AW.keep 14 (fun L hL => ?_)
    simp only [keepT_nil, keepT_tmp, keepT_cell, keepT_zn, keepT_nm, if_true, if_false, Nat.reduceLT, reduceIte] at hL
    subst hL
    refine AW.re ty (by kernel_rfl) 80 (fun K hK => ?_)
    (try simp only [List.toList_toArray, toList_lit]); repeat (with_reducible refine AR.step (fun K1 K2 hK1 hK2 => ?_); simp; (first | refine hK1.out _ _ ?_ | refine hK2.out _ ?_ | refine ⟨by kernel_rfl, hK2.out _ ?_⟩); clear hK1 hK2 K1 K2; simp); (try with_reducible refine AR.nil ?_)
    refine AR.step (fun K1 K2 hK1 hK2 => ?_)
    simp
    refine ⟨by kernel_rfl, .inl ⟨none, _, cB, ?_⟩⟩
    simp
    refine hK1.out _ _ ?_
    clear hK1 hK2 K1 K2
    simp
    (try simp only [List.toList_toArray, toList_lit]); repeat (with_reducible refine AR.step (fun K1 K2 hK1 hK2 => ?_); simp; (first | refine hK1.out _ _ ?_ | refine hK2.out _ ?_ | refine ⟨by kernel_rfl, hK2.out _ ?_⟩); clear hK1 hK2 K1 K2; simp); (try with_reducible refine AR.nil ?_)
    refine ⟨chk_text _ _, hK.out _ ?_⟩
    clear hK K
    repeat (first | with_reducible refine AW.seq ?_ | with_reducible refine AW.block ?_ | with_reducible refine AW.skip ?_ | with_reducible refine AW.exit ?_ | with_reducible refine AW.ret ?_ | with_reducible refine AW.label ?_ | with_reducible refine NX.then ?_ | with_reducible refine NX.ret ?_ | with_reducible refine NX.exit ?_ | with_reducible refine NX.inRet ?_ | with_reducible refine NX.inNormal ?_ | with_reducible refine NX.inExit ?_ | with_reducible refine NX.outExit (by decide) ?_)
    refine AW.keep 14 (fun L hL => ?_)
    simp only [keepT_nil, keepT_tmp, keepT_cell, keepT_zn, keepT_nm, if_true, if_false, Nat.reduceLT, reduceIte] at hL
    subst hL
    refine AW.re ty (by kernel_rfl) 90 (fun K hK => ?_)
    (try simp only [List.toList_toArray, toList_lit]); repeat (with_reducible refine AR.step (fun K1 K2 hK1 hK2 => ?_); simp; (first | refine hK1.out _ _ ?_ | refine hK2.out _ ?_ | refine ⟨by kernel_rfl, hK2.out _ ?_⟩); clear hK1 hK2 K1 K2; simp); (try with_reducible refine AR.nil ?_)
    refine ⟨chk_text _ _, hK.out _ ?_⟩
    clear hK K
    repeat (first | with_reducible refine AW.seq ?_ | with_reducible refine AW.block ?_ | with_reducible refine AW.skip ?_ | with_reducible refine AW.exit ?_ | with_reducible refine AW.ret ?_ | with_reducible refine AW.label ?_ | with_reducible refine NX.then ?_ | with_reducible refine NX.ret ?_ | with_reducible refine NX.exit ?_ | with_reducible refine NX.inRet ?_ | with_reducible refine NX.inNormal ?_ | with_reducible refine NX.inExit ?_ | with_reducible refine NX.outExit (by decide) ?_)
    refine AW.keep 14 (fun L hL => ?_)
    simp only [keepT_nil, keepT_tmp, keepT_cell, keepT_zn, keepT_nm, if_true, if_false, Nat.reduceLT, reduceIte] at hL
    subst hL
    have c1 := one_ct ma.older (by have := fs.1; omega)
    have c2 := one_ct ma.newer (by have := fs.2.2.1; omega)
    cases h1 : oneL ma.older
    · obtain ⟨rfl, rfl⟩ : mc = mg0 ∧ eb = 210 := by
        unfold beginL at hE
        rw [if_neg (by simp [h1])] at hE
        simp only [Prod.mk.injEq] at hE
        exact ⟨hE.1.symm, hE.2.symm⟩
      rw [h1] at c1
      refine AW.re ty (by kernel_rfl) 100 (fun K hK => ?_)
      (try simp only [List.toList_toArray, toList_lit]); repeat (with_reducible refine AR.step (fun K1 K2 hK1 hK2 => ?_); simp; (first | refine hK1.out _ _ ?_ | refine hK2.out _ ?_ | refine ⟨by kernel_rfl, hK2.out _ ?_⟩); clear hK1 hK2 K1 K2; simp); (try with_reducible refine AR.nil ?_)
      refine AR.step (fun K1 K2 hK1 hK2 => ?_)
      simp
      refine ⟨by kernel_rfl, .inl ⟨none, _, c1, ?_⟩⟩
      simp
      refine hK1.out _ _ ?_
      clear hK1 hK2 K1 K2
      simp
      (try simp only [List.toList_toArray, toList_lit]); repeat (with_reducible refine AR.step (fun K1 K2 hK1 hK2 => ?_); simp; (first | refine hK1.out _ _ ?_ | refine hK2.out _ ?_ | refine ⟨by kernel_rfl, hK2.out _ ?_⟩); clear hK1 hK2 K1 K2; simp); (try with_reducible refine AR.nil ?_)
      refine ⟨chk_text _ _, hK.out _ ?_⟩
      clear hK K
      repeat (first | with_reducible refine AW.seq ?_ | with_reducible refine AW.block ?_ | with_reducible refine AW.skip ?_ | with_reducible refine AW.exit ?_ | with_reducible refine AW.ret ?_ | with_reducible refine AW.label ?_ | with_reducible refine NX.then ?_ | with_reducible refine NX.ret ?_ | with_reducible refine NX.exit ?_ | with_reducible refine NX.inRet ?_ | with_reducible refine NX.inNormal ?_ | with_reducible refine NX.inExit ?_ | with_reducible refine NX.outExit (by decide) ?_)
      refine AW.cf rfl ?_
      repeat (first | with_reducible refine AW.seq ?_ | with_reducible refine AW.block ?_ | with_reducible refine AW.skip ?_ | with_reducible refine AW.exit ?_ | with_reducible refine AW.ret ?_ | with_reducible refine AW.label ?_ | with_reducible refine NX.then ?_ | with_reducible refine NX.ret ?_ | with_reducible refine NX.exit ?_ | with_reducible refine NX.inRet ?_ | with_reducible refine NX.inNormal ?_ | with_reducible refine NX.inExit ?_ | with_reducible refine NX.outExit (by decide) ?_)
      refine AW.keep 14 (fun L hL => ?_)
      simp only [keepT_nil, keepT_tmp, keepT_cell, keepT_zn, keepT_nm, if_true, if_false, Nat.reduceLT, reduceIte] at hL
      subst hL
      repeat (first | with_reducible refine AW.seq ?_ | with_reducible refine AW.block ?_ | with_reducible refine AW.skip ?_ | with_reducible refine AW.exit ?_ | with_reducible refine AW.ret ?_ | with_reducible refine AW.label ?_ | with_reducible refine NX.then ?_ | with_reducible refine NX.ret ?_ | with_reducible refine NX.exit ?_ | with_reducible refine NX.inRet ?_ | with_reducible refine NX.inNormal ?_ | with_reducible refine NX.inExit ?_ | with_reducible refine NX.outExit (by decide) ?_)
      refine AW.re ty (by kernel_rfl) 120 (fun K hK => ?_)
      (try simp only [List.toList_toArray, toList_lit]); repeat (with_reducible refine AR.step (fun K1 K2 hK1 hK2 => ?_); simp; (first | refine hK1.out _ _ ?_ | refine hK2.out _ ?_ | refine ⟨by kernel_rfl, hK2.out _ ?_⟩); clear hK1 hK2 K1 K2; simp); (try with_reducible refine AR.nil ?_)
      refine AR.step (fun K1 K2 hK1 hK2 => ?_)
      simp
      refine ⟨by kernel_rfl, .inl ⟨none, _, msame_ct mg0 mg0, ?_⟩⟩
      simp
      refine hK1.out _ _ ?_
      clear hK1 hK2 K1 K2
      simp
      (try simp only [List.toList_toArray, toList_lit]); repeat (with_reducible refine AR.step (fun K1 K2 hK1 hK2 => ?_); simp; (first | refine hK1.out _ _ ?_ | refine hK2.out _ ?_ | refine ⟨by kernel_rfl, hK2.out _ ?_⟩); clear hK1 hK2 K1 K2; simp); (try with_reducible refine AR.nil ?_)
      refine ⟨chk_text _ _, hK.out _ ?_⟩
      clear hK K
      repeat (first | with_reducible refine AW.seq ?_ | with_reducible refine AW.block ?_ | with_reducible refine AW.skip ?_ | with_reducible refine AW.exit ?_ | with_reducible refine AW.ret ?_ | with_reducible refine AW.label ?_ | with_reducible refine NX.then ?_ | with_reducible refine NX.ret ?_ | with_reducible refine NX.exit ?_ | with_reducible refine NX.inRet ?_ | with_reducible refine NX.inNormal ?_ | with_reducible refine NX.inExit ?_ | with_reducible refine NX.outExit (by decide) ?_)
      refine AW.cf rfl ?_
      repeat (first | with_reducible refine AW.seq ?_ | with_reducible refine AW.block ?_ | with_reducible refine AW.skip ?_ | with_reducible refine AW.exit ?_ | with_reducible refine AW.ret ?_ | with_reducible refine AW.label ?_ | with_reducible refine NX.then ?_ | with_reducible refine NX.ret ?_ | with_reducible refine NX.exit ?_ | with_reducible refine NX.inRet ?_ | with_reducible refine NX.inNormal ?_ | with_reducible refine NX.inExit ?_ | with_reducible refine NX.outExit (by decide) ?_)
      refine AW.keep 14 (fun L hL => ?_)
      simp only [keepT_nil, keepT_tmp, keepT_cell, keepT_zn, keepT_nm, if_true, if_false, Nat.reduceLT, reduceIte] at hL
      subst hL
      refine AW.re ty (by kernel_rfl) 140 (fun K hK => ?_)
      (try simp only [List.toList_toArray, toList_lit]); repeat (with_reducible refine AR.step (fun K1 K2 hK1 hK2 => ?_); simp; (first | refine hK1.out _ _ ?_ | refine hK2.out _ ?_ | refine ⟨by kernel_rfl, hK2.out _ ?_⟩); clear hK1 hK2 K1 K2; simp); (try with_reducible refine AR.nil ?_)
      refine AR.step (fun K1 K2 hK1 hK2 => ?_)
      simp
      refine ⟨by kernel_rfl, .inr ⟨lspoil_kt mg0, ?_⟩⟩
      simp
      refine hK1.out _ _ ?_
      clear hK1 hK2 K1 K2
      simp
      (try simp only [List.toList_toArray, toList_lit]); repeat (with_reducible refine AR.step (fun K1 K2 hK1 hK2 => ?_); simp; (first | refine hK1.out _ _ ?_ | refine hK2.out _ ?_ | refine ⟨by kernel_rfl, hK2.out _ ?_⟩); clear hK1 hK2 K1 K2; simp); (try with_reducible refine AR.nil ?_)
      refine ⟨chk_text _ _, hK.out _ ?_⟩
      clear hK K
      repeat (first | with_reducible refine AW.seq ?_ | with_reducible refine AW.block ?_ | with_reducible refine AW.skip ?_ | with_reducible refine AW.exit ?_ | with_reducible refine AW.ret ?_ | with_reducible refine AW.label ?_ | with_reducible refine NX.then ?_ | with_reducible refine NX.ret ?_ | with_reducible refine NX.exit ?_ | with_reducible refine NX.inRet ?_ | with_reducible refine NX.inNormal ?_ | with_reducible refine NX.inExit ?_ | with_reducible refine NX.outExit (by decide) ?_)
      refine AW.keep 14 (fun L hL => ?_)
      simp only [keepT_nil, keepT_tmp, keepT_cell, keepT_zn, keepT_nm, if_true, if_false, Nat.reduceLT, reduceIte] at hL
      subst hL
      refine AW.re ty (by kernel_rfl) 150 (fun K hK => ?_)
      (try simp only [List.toList_toArray, toList_lit]); repeat (with_reducible refine AR.step (fun K1 K2 hK1 hK2 => ?_); simp; (first | refine hK1.out _ _ ?_ | refine hK2.out _ ?_ | refine ⟨by kernel_rfl, hK2.out _ ?_⟩); clear hK1 hK2 K1 K2; simp); (try with_reducible refine AR.nil ?_)
      refine ⟨chk_text _ _, hK.out _ ?_⟩
      clear hK K
      repeat (first | with_reducible refine AW.seq ?_ | with_reducible refine AW.block ?_ | with_reducible refine AW.skip ?_ | with_reducible refine AW.exit ?_ | with_reducible refine AW.ret ?_ | with_reducible refine AW.label ?_ | with_reducible refine NX.then ?_ | with_reducible refine NX.ret ?_ | with_reducible refine NX.exit ?_ | with_reducible refine NX.inRet ?_ | with_reducible refine NX.inNormal ?_ | with_reducible refine NX.inExit ?_ | with_reducible refine NX.outExit (by decide) ?_)
      refine AW.re ty (by kernel_rfl) 160 (fun K hK => ?_)
      (try simp only [List.toList_toArray, toList_lit]); repeat (with_reducible refine AR.step (fun K1 K2 hK1 hK2 => ?_); simp; (first | refine hK1.out _ _ ?_ | refine hK2.out _ ?_ | refine ⟨by kernel_rfl, hK2.out _ ?_⟩); clear hK1 hK2 K1 K2; simp); (try with_reducible refine AR.nil ?_)
      refine ⟨chk_text _ _, hK.out _ ?_⟩
      clear hK K
      repeat (first | with_reducible refine AW.seq ?_ | with_reducible refine AW.block ?_ | with_reducible refine AW.skip ?_ | with_reducible refine AW.exit ?_ | with_reducible refine AW.ret ?_ | with_reducible refine AW.label ?_ | with_reducible refine NX.then ?_ | with_reducible refine NX.ret ?_ | with_reducible refine NX.exit ?_ | with_reducible refine NX.inRet ?_ | with_reducible refine NX.inNormal ?_ | with_reducible refine NX.inExit ?_ | with_reducible refine NX.outExit (by decide) ?_)
      refine AW.ct rfl ?_
      repeat (first | with_reducible refine AW.seq ?_ | with_reducible refine AW.block ?_ | with_reducible refine AW.skip ?_ | with_reducible refine AW.exit ?_ | with_reducible refine AW.ret ?_ | with_reducible refine AW.label ?_ | with_reducible refine NX.then ?_ | with_reducible refine NX.ret ?_ | with_reducible refine NX.exit ?_ | with_reducible refine NX.inRet ?_ | with_reducible refine NX.inNormal ?_ | with_reducible refine NX.inExit ?_ | with_reducible refine NX.outExit (by decide) ?_)
      refine AW.re ty (by kernel_rfl) 165 (fun K hK => ?_)
      (try simp only [List.toList_toArray, toList_lit]); repeat (with_reducible refine AR.step (fun K1 K2 hK1 hK2 => ?_); simp; (first | refine hK1.out _ _ ?_ | refine hK2.out _ ?_ | refine ⟨by kernel_rfl, hK2.out _ ?_⟩); clear hK1 hK2 K1 K2; simp); (try with_reducible refine AR.nil ?_)
      refine AR.step (fun K1 K2 hK1 hK2 => ?_)
      simp
      refine ⟨by kernel_rfl, .inl ⟨none, _, cq, ?_⟩⟩
      simp
      refine hK1.out _ _ ?_
      clear hK1 hK2 K1 K2
      simp
      (try simp only [List.toList_toArray, toList_lit]); repeat (with_reducible refine AR.step (fun K1 K2 hK1 hK2 => ?_); simp; (first | refine hK1.out _ _ ?_ | refine hK2.out _ ?_ | refine ⟨by kernel_rfl, hK2.out _ ?_⟩); clear hK1 hK2 K1 K2; simp); (try with_reducible refine AR.nil ?_)
      refine ⟨chk_text _ _, hK.out _ ?_⟩
      clear hK K
      repeat (first | with_reducible refine AW.seq ?_ | with_reducible refine AW.block ?_ | with_reducible refine AW.skip ?_ | with_reducible refine AW.exit ?_ | with_reducible refine AW.ret ?_ | with_reducible refine AW.label ?_ | with_reducible refine NX.then ?_ | with_reducible refine NX.ret ?_ | with_reducible refine NX.exit ?_ | with_reducible refine NX.inRet ?_ | with_reducible refine NX.inNormal ?_ | with_reducible refine NX.inExit ?_ | with_reducible refine NX.outExit (by decide) ?_)
      refine AW.keep 14 (fun L hL => ?_)
      simp only [keepT_nil, keepT_tmp, keepT_cell, keepT_zn, keepT_nm, if_true, if_false, Nat.reduceLT, reduceIte] at hL
      subst hL
      refine AW.re ty (by kernel_rfl) 170 (fun K hK => ?_)
      (try simp only [List.toList_toArray, toList_lit]); repeat (with_reducible refine AR.step (fun K1 K2 hK1 hK2 => ?_); simp; (first | refine hK1.out _ _ ?_ | refine hK2.out _ ?_ | refine ⟨by kernel_rfl, hK2.out _ ?_⟩); clear hK1 hK2 K1 K2; simp); (try with_reducible refine AR.nil ?_)
      refine AR.step (fun K1 K2 hK1 hK2 => ?_)
      simp
      refine ⟨by kernel_rfl, .inl ⟨none, _, cp, ?_⟩⟩
      simp
      refine hK1.out _ _ ?_
      clear hK1 hK2 K1 K2
      simp
      (try simp only [List.toList_toArray, toList_lit]); repeat (with_reducible refine AR.step (fun K1 K2 hK1 hK2 => ?_); simp; (first | refine hK1.out _ _ ?_ | refine hK2.out _ ?_ | refine ⟨by kernel_rfl, hK2.out _ ?_⟩); clear hK1 hK2 K1 K2; simp); (try with_reducible refine AR.nil ?_)
      refine AR.step (fun K1 K2 hK1 hK2 => ?_)
      simp
      refine ⟨by kernel_rfl, .inl ⟨none, _, cx, ?_⟩⟩
      simp
      refine hK1.out _ _ ?_
      clear hK1 hK2 K1 K2
      simp
      (try simp only [List.toList_toArray, toList_lit]); repeat (with_reducible refine AR.step (fun K1 K2 hK1 hK2 => ?_); simp; (first | refine hK1.out _ _ ?_ | refine hK2.out _ ?_ | refine ⟨by kernel_rfl, hK2.out _ ?_⟩); clear hK1 hK2 K1 K2; simp); (try with_reducible refine AR.nil ?_)
      refine AR.step (fun K1 K2 hK1 hK2 => ?_)
      simp
      refine ⟨by kernel_rfl, .inl ⟨none, _, msame_ct ma ma, ?_⟩⟩
      simp
      refine hK1.out _ _ ?_
      clear hK1 hK2 K1 K2
      simp
      (try simp only [List.toList_toArray, toList_lit]); repeat (with_reducible refine AR.step (fun K1 K2 hK1 hK2 => ?_); simp; (first | refine hK1.out _ _ ?_ | refine hK2.out _ ?_ | refine ⟨by kernel_rfl, hK2.out _ ?_⟩); clear hK1 hK2 K1 K2; simp); (try with_reducible refine AR.nil ?_)
      refine ⟨chk_drawn (by kernel_rfl) (by kernel_rfl), hK.out _ ?_⟩
      clear hK K
      repeat (first | with_reducible refine AW.seq ?_ | with_reducible refine AW.block ?_ | with_reducible refine AW.skip ?_ | with_reducible refine AW.exit ?_ | with_reducible refine AW.ret ?_ | with_reducible refine AW.label ?_ | with_reducible refine NX.then ?_ | with_reducible refine NX.ret ?_ | with_reducible refine NX.exit ?_ | with_reducible refine NX.inRet ?_ | with_reducible refine NX.inNormal ?_ | with_reducible refine NX.inExit ?_ | with_reducible refine NX.outExit (by decide) ?_)
      refine nx_ret (T := ty) (rs := [.tmp 4]) (zs := []) (ds := [dB true]) (r := []) (.inr rfl) rfl (by kernel_rfl) (by kernel_rfl) (by simp) rfl
    · rw [h1] at c1
      cases h2 : oneL ma.newer
      · obtain ⟨rfl, rfl⟩ : mc = mg0 ∧ eb = 210 := by
          unfold beginL at hE
          rw [if_neg (by simp [h2])] at hE
          simp only [Prod.mk.injEq] at hE
          exact ⟨hE.1.symm, hE.2.symm⟩
        rw [h2] at c2
        refine AW.re ty (by kernel_rfl) 100 (fun K hK => ?_)
        (try simp only [List.toList_toArray, toList_lit]); repeat (with_reducible refine AR.step (fun K1 K2 hK1 hK2 => ?_); simp; (first | refine hK1.out _ _ ?_ | refine hK2.out _ ?_ | refine ⟨by kernel_rfl, hK2.out _ ?_⟩); clear hK1 hK2 K1 K2; simp); (try with_reducible refine AR.nil ?_)
        refine AR.step (fun K1 K2 hK1 hK2 => ?_)
        simp
        refine ⟨by kernel_rfl, .inl ⟨none, _, c1, ?_⟩⟩
        simp
        refine hK1.out _ _ ?_
        clear hK1 hK2 K1 K2
        simp
        (try simp only [List.toList_toArray, toList_lit]); repeat (with_reducible refine AR.step (fun K1 K2 hK1 hK2 => ?_); simp; (first | refine hK1.out _ _ ?_ | refine hK2.out _ ?_ | refine ⟨by kernel_rfl, hK2.out _ ?_⟩); clear hK1 hK2 K1 K2; simp); (try with_reducible refine AR.nil ?_)
        refine AR.step (fun K1 K2 hK1 hK2 => ?_)
        simp
        refine ⟨by kernel_rfl, .inl ⟨none, _, c2, ?_⟩⟩
        simp
        refine hK1.out _ _ ?_
        clear hK1 hK2 K1 K2
        simp
        (try simp only [List.toList_toArray, toList_lit]); repeat (with_reducible refine AR.step (fun K1 K2 hK1 hK2 => ?_); simp; (first | refine hK1.out _ _ ?_ | refine hK2.out _ ?_ | refine ⟨by kernel_rfl, hK2.out _ ?_⟩); clear hK1 hK2 K1 K2; simp); (try with_reducible refine AR.nil ?_)
        refine ⟨chk_text _ _, hK.out _ ?_⟩
        clear hK K
        repeat (first | with_reducible refine AW.seq ?_ | with_reducible refine AW.block ?_ | with_reducible refine AW.skip ?_ | with_reducible refine AW.exit ?_ | with_reducible refine AW.ret ?_ | with_reducible refine AW.label ?_ | with_reducible refine NX.then ?_ | with_reducible refine NX.ret ?_ | with_reducible refine NX.exit ?_ | with_reducible refine NX.inRet ?_ | with_reducible refine NX.inNormal ?_ | with_reducible refine NX.inExit ?_ | with_reducible refine NX.outExit (by decide) ?_)
        refine AW.cf rfl ?_
        repeat (first | with_reducible refine AW.seq ?_ | with_reducible refine AW.block ?_ | with_reducible refine AW.skip ?_ | with_reducible refine AW.exit ?_ | with_reducible refine AW.ret ?_ | with_reducible refine AW.label ?_ | with_reducible refine NX.then ?_ | with_reducible refine NX.ret ?_ | with_reducible refine NX.exit ?_ | with_reducible refine NX.inRet ?_ | with_reducible refine NX.inNormal ?_ | with_reducible refine NX.inExit ?_ | with_reducible refine NX.outExit (by decide) ?_)
        refine AW.keep 14 (fun L hL => ?_)
        simp only [keepT_nil, keepT_tmp, keepT_cell, keepT_zn, keepT_nm, if_true, if_false, Nat.reduceLT, reduceIte] at hL
        subst hL
        repeat (first | with_reducible refine AW.seq ?_ | with_reducible refine AW.block ?_ | with_reducible refine AW.skip ?_ | with_reducible refine AW.exit ?_ | with_reducible refine AW.ret ?_ | with_reducible refine AW.label ?_ | with_reducible refine NX.then ?_ | with_reducible refine NX.ret ?_ | with_reducible refine NX.exit ?_ | with_reducible refine NX.inRet ?_ | with_reducible refine NX.inNormal ?_ | with_reducible refine NX.inExit ?_ | with_reducible refine NX.outExit (by decide) ?_)
        refine AW.re ty (by kernel_rfl) 120 (fun K hK => ?_)
        (try simp only [List.toList_toArray, toList_lit]); repeat (with_reducible refine AR.step (fun K1 K2 hK1 hK2 => ?_); simp; (first | refine hK1.out _ _ ?_ | refine hK2.out _ ?_ | refine ⟨by kernel_rfl, hK2.out _ ?_⟩); clear hK1 hK2 K1 K2; simp); (try with_reducible refine AR.nil ?_)
        refine AR.step (fun K1 K2 hK1 hK2 => ?_)
        simp
        refine ⟨by kernel_rfl, .inl ⟨none, _, msame_ct mg0 mg0, ?_⟩⟩
        simp
        refine hK1.out _ _ ?_
        clear hK1 hK2 K1 K2
        simp
        (try simp only [List.toList_toArray, toList_lit]); repeat (with_reducible refine AR.step (fun K1 K2 hK1 hK2 => ?_); simp; (first | refine hK1.out _ _ ?_ | refine hK2.out _ ?_ | refine ⟨by kernel_rfl, hK2.out _ ?_⟩); clear hK1 hK2 K1 K2; simp); (try with_reducible refine AR.nil ?_)
        refine ⟨chk_text _ _, hK.out _ ?_⟩
        clear hK K
        repeat (first | with_reducible refine AW.seq ?_ | with_reducible refine AW.block ?_ | with_reducible refine AW.skip ?_ | with_reducible refine AW.exit ?_ | with_reducible refine AW.ret ?_ | with_reducible refine AW.label ?_ | with_reducible refine NX.then ?_ | with_reducible refine NX.ret ?_ | with_reducible refine NX.exit ?_ | with_reducible refine NX.inRet ?_ | with_reducible refine NX.inNormal ?_ | with_reducible refine NX.inExit ?_ | with_reducible refine NX.outExit (by decide) ?_)
        refine AW.cf rfl ?_
        repeat (first | with_reducible refine AW.seq ?_ | with_reducible refine AW.block ?_ | with_reducible refine AW.skip ?_ | with_reducible refine AW.exit ?_ | with_reducible refine AW.ret ?_ | with_reducible refine AW.label ?_ | with_reducible refine NX.then ?_ | with_reducible refine NX.ret ?_ | with_reducible refine NX.exit ?_ | with_reducible refine NX.inRet ?_ | with_reducible refine NX.inNormal ?_ | with_reducible refine NX.inExit ?_ | with_reducible refine NX.outExit (by decide) ?_)
        refine AW.keep 14 (fun L hL => ?_)
        simp only [keepT_nil, keepT_tmp, keepT_cell, keepT_zn, keepT_nm, if_true, if_false, Nat.reduceLT, reduceIte] at hL
        subst hL
        refine AW.re ty (by kernel_rfl) 140 (fun K hK => ?_)
        (try simp only [List.toList_toArray, toList_lit]); repeat (with_reducible refine AR.step (fun K1 K2 hK1 hK2 => ?_); simp; (first | refine hK1.out _ _ ?_ | refine hK2.out _ ?_ | refine ⟨by kernel_rfl, hK2.out _ ?_⟩); clear hK1 hK2 K1 K2; simp); (try with_reducible refine AR.nil ?_)
        refine AR.step (fun K1 K2 hK1 hK2 => ?_)
        simp
        refine ⟨by kernel_rfl, .inr ⟨lspoil_kt mg0, ?_⟩⟩
        simp
        refine hK1.out _ _ ?_
        clear hK1 hK2 K1 K2
        simp
        (try simp only [List.toList_toArray, toList_lit]); repeat (with_reducible refine AR.step (fun K1 K2 hK1 hK2 => ?_); simp; (first | refine hK1.out _ _ ?_ | refine hK2.out _ ?_ | refine ⟨by kernel_rfl, hK2.out _ ?_⟩); clear hK1 hK2 K1 K2; simp); (try with_reducible refine AR.nil ?_)
        refine ⟨chk_text _ _, hK.out _ ?_⟩
        clear hK K
        repeat (first | with_reducible refine AW.seq ?_ | with_reducible refine AW.block ?_ | with_reducible refine AW.skip ?_ | with_reducible refine AW.exit ?_ | with_reducible refine AW.ret ?_ | with_reducible refine AW.label ?_ | with_reducible refine NX.then ?_ | with_reducible refine NX.ret ?_ | with_reducible refine NX.exit ?_ | with_reducible refine NX.inRet ?_ | with_reducible refine NX.inNormal ?_ | with_reducible refine NX.inExit ?_ | with_reducible refine NX.outExit (by decide) ?_)
        refine AW.keep 14 (fun L hL => ?_)
        simp only [keepT_nil, keepT_tmp, keepT_cell, keepT_zn, keepT_nm, if_true, if_false, Nat.reduceLT, reduceIte] at hL
        subst hL
        refine AW.re ty (by kernel_rfl) 150 (fun K hK => ?_)
        (try simp only [List.toList_toArray, toList_lit]); repeat (with_reducible refine AR.step (fun K1 K2 hK1 hK2 => ?_); simp; (first | refine hK1.out _ _ ?_ | refine hK2.out _ ?_ | refine ⟨by kernel_rfl, hK2.out _ ?_⟩); clear hK1 hK2 K1 K2; simp); (try with_reducible refine AR.nil ?_)
        refine ⟨chk_text _ _, hK.out _ ?_⟩
        clear hK K
        repeat (first | with_reducible refine AW.seq ?_ | with_reducible refine AW.block ?_ | with_reducible refine AW.skip ?_ | with_reducible refine AW.exit ?_ | with_reducible refine AW.ret ?_ | with_reducible refine AW.label ?_ | with_reducible refine NX.then ?_ | with_reducible refine NX.ret ?_ | with_reducible refine NX.exit ?_ | with_reducible refine NX.inRet ?_ | with_reducible refine NX.inNormal ?_ | with_reducible refine NX.inExit ?_ | with_reducible refine NX.outExit (by decide) ?_)
        refine AW.re ty (by kernel_rfl) 160 (fun K hK => ?_)
        (try simp only [List.toList_toArray, toList_lit]); repeat (with_reducible refine AR.step (fun K1 K2 hK1 hK2 => ?_); simp; (first | refine hK1.out _ _ ?_ | refine hK2.out _ ?_ | refine ⟨by kernel_rfl, hK2.out _ ?_⟩); clear hK1 hK2 K1 K2; simp); (try with_reducible refine AR.nil ?_)
        refine ⟨chk_text _ _, hK.out _ ?_⟩
        clear hK K
        repeat (first | with_reducible refine AW.seq ?_ | with_reducible refine AW.block ?_ | with_reducible refine AW.skip ?_ | with_reducible refine AW.exit ?_ | with_reducible refine AW.ret ?_ | with_reducible refine AW.label ?_ | with_reducible refine NX.then ?_ | with_reducible refine NX.ret ?_ | with_reducible refine NX.exit ?_ | with_reducible refine NX.inRet ?_ | with_reducible refine NX.inNormal ?_ | with_reducible refine NX.inExit ?_ | with_reducible refine NX.outExit (by decide) ?_)
        refine AW.ct rfl ?_
        repeat (first | with_reducible refine AW.seq ?_ | with_reducible refine AW.block ?_ | with_reducible refine AW.skip ?_ | with_reducible refine AW.exit ?_ | with_reducible refine AW.ret ?_ | with_reducible refine AW.label ?_ | with_reducible refine NX.then ?_ | with_reducible refine NX.ret ?_ | with_reducible refine NX.exit ?_ | with_reducible refine NX.inRet ?_ | with_reducible refine NX.inNormal ?_ | with_reducible refine NX.inExit ?_ | with_reducible refine NX.outExit (by decide) ?_)
        refine AW.re ty (by kernel_rfl) 165 (fun K hK => ?_)
        (try simp only [List.toList_toArray, toList_lit]); repeat (with_reducible refine AR.step (fun K1 K2 hK1 hK2 => ?_); simp; (first | refine hK1.out _ _ ?_ | refine hK2.out _ ?_ | refine ⟨by kernel_rfl, hK2.out _ ?_⟩); clear hK1 hK2 K1 K2; simp); (try with_reducible refine AR.nil ?_)
        refine AR.step (fun K1 K2 hK1 hK2 => ?_)
        simp
        refine ⟨by kernel_rfl, .inl ⟨none, _, cq, ?_⟩⟩
        simp
        refine hK1.out _ _ ?_
        clear hK1 hK2 K1 K2
        simp
        (try simp only [List.toList_toArray, toList_lit]); repeat (with_reducible refine AR.step (fun K1 K2 hK1 hK2 => ?_); simp; (first | refine hK1.out _ _ ?_ | refine hK2.out _ ?_ | refine ⟨by kernel_rfl, hK2.out _ ?_⟩); clear hK1 hK2 K1 K2; simp); (try with_reducible refine AR.nil ?_)
        refine ⟨chk_text _ _, hK.out _ ?_⟩
        clear hK K
        repeat (first | with_reducible refine AW.seq ?_ | with_reducible refine AW.block ?_ | with_reducible refine AW.skip ?_ | with_reducible refine AW.exit ?_ | with_reducible refine AW.ret ?_ | with_reducible refine AW.label ?_ | with_reducible refine NX.then ?_ | with_reducible refine NX.ret ?_ | with_reducible refine NX.exit ?_ | with_reducible refine NX.inRet ?_ | with_reducible refine NX.inNormal ?_ | with_reducible refine NX.inExit ?_ | with_reducible refine NX.outExit (by decide) ?_)
        refine AW.keep 14 (fun L hL => ?_)
        simp only [keepT_nil, keepT_tmp, keepT_cell, keepT_zn, keepT_nm, if_true, if_false, Nat.reduceLT, reduceIte] at hL
        subst hL
        refine AW.re ty (by kernel_rfl) 170 (fun K hK => ?_)
        (try simp only [List.toList_toArray, toList_lit]); repeat (with_reducible refine AR.step (fun K1 K2 hK1 hK2 => ?_); simp; (first | refine hK1.out _ _ ?_ | refine hK2.out _ ?_ | refine ⟨by kernel_rfl, hK2.out _ ?_⟩); clear hK1 hK2 K1 K2; simp); (try with_reducible refine AR.nil ?_)
        refine AR.step (fun K1 K2 hK1 hK2 => ?_)
        simp
        refine ⟨by kernel_rfl, .inl ⟨none, _, cp, ?_⟩⟩
        simp
        refine hK1.out _ _ ?_
        clear hK1 hK2 K1 K2
        simp
        (try simp only [List.toList_toArray, toList_lit]); repeat (with_reducible refine AR.step (fun K1 K2 hK1 hK2 => ?_); simp; (first | refine hK1.out _ _ ?_ | refine hK2.out _ ?_ | refine ⟨by kernel_rfl, hK2.out _ ?_⟩); clear hK1 hK2 K1 K2; simp); (try with_reducible refine AR.nil ?_)
        refine AR.step (fun K1 K2 hK1 hK2 => ?_)
        simp
        refine ⟨by kernel_rfl, .inl ⟨none, _, cx, ?_⟩⟩
        simp
        refine hK1.out _ _ ?_
        clear hK1 hK2 K1 K2
        simp
        (try simp only [List.toList_toArray, toList_lit]); repeat (with_reducible refine AR.step (fun K1 K2 hK1 hK2 => ?_); simp; (first | refine hK1.out _ _ ?_ | refine hK2.out _ ?_ | refine ⟨by kernel_rfl, hK2.out _ ?_⟩); clear hK1 hK2 K1 K2; simp); (try with_reducible refine AR.nil ?_)
        refine AR.step (fun K1 K2 hK1 hK2 => ?_)
        simp
        refine ⟨by kernel_rfl, .inl ⟨none, _, msame_ct ma ma, ?_⟩⟩
        simp
        refine hK1.out _ _ ?_
        clear hK1 hK2 K1 K2
        simp
        (try simp only [List.toList_toArray, toList_lit]); repeat (with_reducible refine AR.step (fun K1 K2 hK1 hK2 => ?_); simp; (first | refine hK1.out _ _ ?_ | refine hK2.out _ ?_ | refine ⟨by kernel_rfl, hK2.out _ ?_⟩); clear hK1 hK2 K1 K2; simp); (try with_reducible refine AR.nil ?_)
        refine ⟨chk_drawn (by kernel_rfl) (by kernel_rfl), hK.out _ ?_⟩
        clear hK K
        repeat (first | with_reducible refine AW.seq ?_ | with_reducible refine AW.block ?_ | with_reducible refine AW.skip ?_ | with_reducible refine AW.exit ?_ | with_reducible refine AW.ret ?_ | with_reducible refine AW.label ?_ | with_reducible refine NX.then ?_ | with_reducible refine NX.ret ?_ | with_reducible refine NX.exit ?_ | with_reducible refine NX.inRet ?_ | with_reducible refine NX.inNormal ?_ | with_reducible refine NX.inExit ?_ | with_reducible refine NX.outExit (by decide) ?_)
        refine nx_ret (T := ty) (rs := [.tmp 4]) (zs := []) (ds := [dB true]) (r := []) (.inr rfl) rfl (by kernel_rfl) (by kernel_rfl) (by simp) rfl
      · obtain ⟨rfl, rfl⟩ : mc = ⟨ma.older, ma.newer, ma.oldest, 0, ([], [])⟩ ∧ eb = 0 := by
          unfold beginL at hE
          rw [if_pos (by simp [h1, h2])] at hE
          simp only [Prod.mk.injEq] at hE
          exact ⟨hE.1.symm, hE.2.symm⟩
        rw [h2] at c2
        refine AW.re ty (by kernel_rfl) 100 (fun K hK => ?_)
        (try simp only [List.toList_toArray, toList_lit]); repeat (with_reducible refine AR.step (fun K1 K2 hK1 hK2 => ?_); simp; (first | refine hK1.out _ _ ?_ | refine hK2.out _ ?_ | refine ⟨by kernel_rfl, hK2.out _ ?_⟩); clear hK1 hK2 K1 K2; simp); (try with_reducible refine AR.nil ?_)
        refine AR.step (fun K1 K2 hK1 hK2 => ?_)
        simp
        refine ⟨by kernel_rfl, .inl ⟨none, _, c1, ?_⟩⟩
        simp
        refine hK1.out _ _ ?_
        clear hK1 hK2 K1 K2
        simp
        (try simp only [List.toList_toArray, toList_lit]); repeat (with_reducible refine AR.step (fun K1 K2 hK1 hK2 => ?_); simp; (first | refine hK1.out _ _ ?_ | refine hK2.out _ ?_ | refine ⟨by kernel_rfl, hK2.out _ ?_⟩); clear hK1 hK2 K1 K2; simp); (try with_reducible refine AR.nil ?_)
        refine AR.step (fun K1 K2 hK1 hK2 => ?_)
        simp
        refine ⟨by kernel_rfl, .inl ⟨none, _, c2, ?_⟩⟩
        simp
        refine hK1.out _ _ ?_
        clear hK1 hK2 K1 K2
        simp
        (try simp only [List.toList_toArray, toList_lit]); repeat (with_reducible refine AR.step (fun K1 K2 hK1 hK2 => ?_); simp; (first | refine hK1.out _ _ ?_ | refine hK2.out _ ?_ | refine ⟨by kernel_rfl, hK2.out _ ?_⟩); clear hK1 hK2 K1 K2; simp); (try with_reducible refine AR.nil ?_)
        refine ⟨chk_text _ _, hK.out _ ?_⟩
        clear hK K
        repeat (first | with_reducible refine AW.seq ?_ | with_reducible refine AW.block ?_ | with_reducible refine AW.skip ?_ | with_reducible refine AW.exit ?_ | with_reducible refine AW.ret ?_ | with_reducible refine AW.label ?_ | with_reducible refine NX.then ?_ | with_reducible refine NX.ret ?_ | with_reducible refine NX.exit ?_ | with_reducible refine NX.inRet ?_ | with_reducible refine NX.inNormal ?_ | with_reducible refine NX.inExit ?_ | with_reducible refine NX.outExit (by decide) ?_)
        refine AW.ct rfl ?_
        repeat (first | with_reducible refine AW.seq ?_ | with_reducible refine AW.block ?_ | with_reducible refine AW.skip ?_ | with_reducible refine AW.exit ?_ | with_reducible refine AW.ret ?_ | with_reducible refine AW.label ?_ | with_reducible refine NX.then ?_ | with_reducible refine NX.ret ?_ | with_reducible refine NX.exit ?_ | with_reducible refine NX.inRet ?_ | with_reducible refine NX.inNormal ?_ | with_reducible refine NX.inExit ?_ | with_reducible refine NX.outExit (by decide) ?_)
        refine AW.keep 14 (fun L hL => ?_)
        simp only [keepT_nil, keepT_tmp, keepT_cell, keepT_zn, keepT_nm, if_true, if_false, Nat.reduceLT, reduceIte] at hL
        subst hL
        refine AW.re ty (by kernel_rfl) 110 (fun K hK => ?_)
        (try simp only [List.toList_toArray, toList_lit]); repeat (with_reducible refine AR.step (fun K1 K2 hK1 hK2 => ?_); simp; (first | refine hK1.out _ _ ?_ | refine hK2.out _ ?_ | refine ⟨by kernel_rfl, hK2.out _ ?_⟩); clear hK1 hK2 K1 K2; simp); (try with_reducible refine AR.nil ?_)
        refine ⟨chk_text _ _, hK.out _ ?_⟩
        clear hK K
        repeat (first | with_reducible refine AW.seq ?_ | with_reducible refine AW.block ?_ | with_reducible refine AW.skip ?_ | with_reducible refine AW.exit ?_ | with_reducible refine AW.ret ?_ | with_reducible refine AW.label ?_ | with_reducible refine NX.then ?_ | with_reducible refine NX.ret ?_ | with_reducible refine NX.exit ?_ | with_reducible refine NX.inRet ?_ | with_reducible refine NX.inNormal ?_ | with_reducible refine NX.inExit ?_ | with_reducible refine NX.outExit (by decide) ?_)
        refine AW.keep 14 (fun L hL => ?_)
        simp only [keepT_nil, keepT_tmp, keepT_cell, keepT_zn, keepT_nm, if_true, if_false, Nat.reduceLT, reduceIte] at hL
        subst hL
        repeat (first | with_reducible refine AW.seq ?_ | with_reducible refine AW.block ?_ | with_reducible refine AW.skip ?_ | with_reducible refine AW.exit ?_ | with_reducible refine AW.ret ?_ | with_reducible refine AW.label ?_ | with_reducible refine NX.then ?_ | with_reducible refine NX.ret ?_ | with_reducible refine NX.exit ?_ | with_reducible refine NX.inRet ?_ | with_reducible refine NX.inNormal ?_ | with_reducible refine NX.inExit ?_ | with_reducible refine NX.outExit (by decide) ?_)
        refine AW.re ty (by kernel_rfl) 120 (fun K hK => ?_)
        (try simp only [List.toList_toArray, toList_lit]); repeat (with_reducible refine AR.step (fun K1 K2 hK1 hK2 => ?_); simp; (first | refine hK1.out _ _ ?_ | refine hK2.out _ ?_ | refine ⟨by kernel_rfl, hK2.out _ ?_⟩); clear hK1 hK2 K1 K2; simp); (try with_reducible refine AR.nil ?_)
        refine AR.step (fun K1 K2 hK1 hK2 => ?_)
        simp
        refine ⟨by kernel_rfl, .inl ⟨none, _, msame_ct ⟨ma.older, ma.newer, ma.oldest, 0, ([], [])⟩ ⟨ma.older, ma.newer, ma.oldest, 0, ([], [])⟩, ?_⟩⟩
        simp
        refine hK1.out _ _ ?_
        clear hK1 hK2 K1 K2
        simp
        (try simp only [List.toList_toArray, toList_lit]); repeat (with_reducible refine AR.step (fun K1 K2 hK1 hK2 => ?_); simp; (first | refine hK1.out _ _ ?_ | refine hK2.out _ ?_ | refine ⟨by kernel_rfl, hK2.out _ ?_⟩); clear hK1 hK2 K1 K2; simp); (try with_reducible refine AR.nil ?_)
        refine ⟨chk_text _ _, hK.out _ ?_⟩
        clear hK K
        repeat (first | with_reducible refine AW.seq ?_ | with_reducible refine AW.block ?_ | with_reducible refine AW.skip ?_ | with_reducible refine AW.exit ?_ | with_reducible refine AW.ret ?_ | with_reducible refine AW.label ?_ | with_reducible refine NX.then ?_ | with_reducible refine NX.ret ?_ | with_reducible refine NX.exit ?_ | with_reducible refine NX.inRet ?_ | with_reducible refine NX.inNormal ?_ | with_reducible refine NX.inExit ?_ | with_reducible refine NX.outExit (by decide) ?_)
        refine AW.cf rfl ?_
        repeat (first | with_reducible refine AW.seq ?_ | with_reducible refine AW.block ?_ | with_reducible refine AW.skip ?_ | with_reducible refine AW.exit ?_ | with_reducible refine AW.ret ?_ | with_reducible refine AW.label ?_ | with_reducible refine NX.then ?_ | with_reducible refine NX.ret ?_ | with_reducible refine NX.exit ?_ | with_reducible refine NX.inRet ?_ | with_reducible refine NX.inNormal ?_ | with_reducible refine NX.inExit ?_ | with_reducible refine NX.outExit (by decide) ?_)
        refine AW.keep 14 (fun L hL => ?_)
        simp only [keepT_nil, keepT_tmp, keepT_cell, keepT_zn, keepT_nm, if_true, if_false, Nat.reduceLT, reduceIte] at hL
        subst hL
        refine AW.re ty (by kernel_rfl) 140 (fun K hK => ?_)
        (try simp only [List.toList_toArray, toList_lit]); repeat (with_reducible refine AR.step (fun K1 K2 hK1 hK2 => ?_); simp; (first | refine hK1.out _ _ ?_ | refine hK2.out _ ?_ | refine ⟨by kernel_rfl, hK2.out _ ?_⟩); clear hK1 hK2 K1 K2; simp); (try with_reducible refine AR.nil ?_)
        refine AR.step (fun K1 K2 hK1 hK2 => ?_)
        simp
        refine ⟨by kernel_rfl, .inr ⟨lspoil_kt ⟨ma.older, ma.newer, ma.oldest, 0, ([], [])⟩, ?_⟩⟩
        simp
        refine hK1.out _ _ ?_
        clear hK1 hK2 K1 K2
        simp
        (try simp only [List.toList_toArray, toList_lit]); repeat (with_reducible refine AR.step (fun K1 K2 hK1 hK2 => ?_); simp; (first | refine hK1.out _ _ ?_ | refine hK2.out _ ?_ | refine ⟨by kernel_rfl, hK2.out _ ?_⟩); clear hK1 hK2 K1 K2; simp); (try with_reducible refine AR.nil ?_)
        refine ⟨chk_text _ _, hK.out _ ?_⟩
        clear hK K
        repeat (first | with_reducible refine AW.seq ?_ | with_reducible refine AW.block ?_ | with_reducible refine AW.skip ?_ | with_reducible refine AW.exit ?_ | with_reducible refine AW.ret ?_ | with_reducible refine AW.label ?_ | with_reducible refine NX.then ?_ | with_reducible refine NX.ret ?_ | with_reducible refine NX.exit ?_ | with_reducible refine NX.inRet ?_ | with_reducible refine NX.inNormal ?_ | with_reducible refine NX.inExit ?_ | with_reducible refine NX.outExit (by decide) ?_)
        refine AW.keep 14 (fun L hL => ?_)
        simp only [keepT_nil, keepT_tmp, keepT_cell, keepT_zn, keepT_nm, if_true, if_false, Nat.reduceLT, reduceIte] at hL
        subst hL
        refine AW.re ty (by kernel_rfl) 150 (fun K hK => ?_)
        (try simp only [List.toList_toArray, toList_lit]); repeat (with_reducible refine AR.step (fun K1 K2 hK1 hK2 => ?_); simp; (first | refine hK1.out _ _ ?_ | refine hK2.out _ ?_ | refine ⟨by kernel_rfl, hK2.out _ ?_⟩); clear hK1 hK2 K1 K2; simp); (try with_reducible refine AR.nil ?_)
        refine ⟨chk_text _ _, hK.out _ ?_⟩
        clear hK K
        repeat (first | with_reducible refine AW.seq ?_ | with_reducible refine AW.block ?_ | with_reducible refine AW.skip ?_ | with_reducible refine AW.exit ?_ | with_reducible refine AW.ret ?_ | with_reducible refine AW.label ?_ | with_reducible refine NX.then ?_ | with_reducible refine NX.ret ?_ | with_reducible refine NX.exit ?_ | with_reducible refine NX.inRet ?_ | with_reducible refine NX.inNormal ?_ | with_reducible refine NX.inExit ?_ | with_reducible refine NX.outExit (by decide) ?_)
        refine AW.re ty (by kernel_rfl) 160 (fun K hK => ?_)
        (try simp only [List.toList_toArray, toList_lit]); repeat (with_reducible refine AR.step (fun K1 K2 hK1 hK2 => ?_); simp; (first | refine hK1.out _ _ ?_ | refine hK2.out _ ?_ | refine ⟨by kernel_rfl, hK2.out _ ?_⟩); clear hK1 hK2 K1 K2; simp); (try with_reducible refine AR.nil ?_)
        refine ⟨chk_text _ _, hK.out _ ?_⟩
        clear hK K
        repeat (first | with_reducible refine AW.seq ?_ | with_reducible refine AW.block ?_ | with_reducible refine AW.skip ?_ | with_reducible refine AW.exit ?_ | with_reducible refine AW.ret ?_ | with_reducible refine AW.label ?_ | with_reducible refine NX.then ?_ | with_reducible refine NX.ret ?_ | with_reducible refine NX.exit ?_ | with_reducible refine NX.inRet ?_ | with_reducible refine NX.inNormal ?_ | with_reducible refine NX.inExit ?_ | with_reducible refine NX.outExit (by decide) ?_)
        refine AW.ct rfl ?_
        repeat (first | with_reducible refine AW.seq ?_ | with_reducible refine AW.block ?_ | with_reducible refine AW.skip ?_ | with_reducible refine AW.exit ?_ | with_reducible refine AW.ret ?_ | with_reducible refine AW.label ?_ | with_reducible refine NX.then ?_ | with_reducible refine NX.ret ?_ | with_reducible refine NX.exit ?_ | with_reducible refine NX.inRet ?_ | with_reducible refine NX.inNormal ?_ | with_reducible refine NX.inExit ?_ | with_reducible refine NX.outExit (by decide) ?_)
        refine AW.re ty (by kernel_rfl) 165 (fun K hK => ?_)
        (try simp only [List.toList_toArray, toList_lit]); repeat (with_reducible refine AR.step (fun K1 K2 hK1 hK2 => ?_); simp; (first | refine hK1.out _ _ ?_ | refine hK2.out _ ?_ | refine ⟨by kernel_rfl, hK2.out _ ?_⟩); clear hK1 hK2 K1 K2; simp); (try with_reducible refine AR.nil ?_)
        refine AR.step (fun K1 K2 hK1 hK2 => ?_)
        simp
        refine ⟨by kernel_rfl, .inl ⟨none, _, cq, ?_⟩⟩
        simp
        refine hK1.out _ _ ?_
        clear hK1 hK2 K1 K2
        simp
        (try simp only [List.toList_toArray, toList_lit]); repeat (with_reducible refine AR.step (fun K1 K2 hK1 hK2 => ?_); simp; (first | refine hK1.out _ _ ?_ | refine hK2.out _ ?_ | refine ⟨by kernel_rfl, hK2.out _ ?_⟩); clear hK1 hK2 K1 K2; simp); (try with_reducible refine AR.nil ?_)
        refine ⟨chk_text _ _, hK.out _ ?_⟩
        clear hK K
        repeat (first | with_reducible refine AW.seq ?_ | with_reducible refine AW.block ?_ | with_reducible refine AW.skip ?_ | with_reducible refine AW.exit ?_ | with_reducible refine AW.ret ?_ | with_reducible refine AW.label ?_ | with_reducible refine NX.then ?_ | with_reducible refine NX.ret ?_ | with_reducible refine NX.exit ?_ | with_reducible refine NX.inRet ?_ | with_reducible refine NX.inNormal ?_ | with_reducible refine NX.inExit ?_ | with_reducible refine NX.outExit (by decide) ?_)
        refine AW.keep 14 (fun L hL => ?_)
        simp only [keepT_nil, keepT_tmp, keepT_cell, keepT_zn, keepT_nm, if_true, if_false, Nat.reduceLT, reduceIte] at hL
        subst hL
        refine AW.re ty (by kernel_rfl) 170 (fun K hK => ?_)
        (try simp only [List.toList_toArray, toList_lit]); repeat (with_reducible refine AR.step (fun K1 K2 hK1 hK2 => ?_); simp; (first | refine hK1.out _ _ ?_ | refine hK2.out _ ?_ | refine ⟨by kernel_rfl, hK2.out _ ?_⟩); clear hK1 hK2 K1 K2; simp); (try with_reducible refine AR.nil ?_)
        refine AR.step (fun K1 K2 hK1 hK2 => ?_)
        simp
        refine ⟨by kernel_rfl, .inl ⟨none, _, cp, ?_⟩⟩
        simp
        refine hK1.out _ _ ?_
        clear hK1 hK2 K1 K2
        simp
        (try simp only [List.toList_toArray, toList_lit]); repeat (with_reducible refine AR.step (fun K1 K2 hK1 hK2 => ?_); simp; (first | refine hK1.out _ _ ?_ | refine hK2.out _ ?_ | refine ⟨by kernel_rfl, hK2.out _ ?_⟩); clear hK1 hK2 K1 K2; simp); (try with_reducible refine AR.nil ?_)
        refine AR.step (fun K1 K2 hK1 hK2 => ?_)
        simp
        refine ⟨by kernel_rfl, .inl ⟨none, _, cx, ?_⟩⟩
        simp
        refine hK1.out _ _ ?_
        clear hK1 hK2 K1 K2
        simp
        (try simp only [List.toList_toArray, toList_lit]); repeat (with_reducible refine AR.step (fun K1 K2 hK1 hK2 => ?_); simp; (first | refine hK1.out _ _ ?_ | refine hK2.out _ ?_ | refine ⟨by kernel_rfl, hK2.out _ ?_⟩); clear hK1 hK2 K1 K2; simp); (try with_reducible refine AR.nil ?_)
        refine AR.step (fun K1 K2 hK1 hK2 => ?_)
        simp
        refine ⟨by kernel_rfl, .inl ⟨none, _, msame_ct ma ma, ?_⟩⟩
        simp
        refine hK1.out _ _ ?_
        clear hK1 hK2 K1 K2
        simp
        (try simp only [List.toList_toArray, toList_lit]); repeat (with_reducible refine AR.step (fun K1 K2 hK1 hK2 => ?_); simp; (first | refine hK1.out _ _ ?_ | refine hK2.out _ ?_ | refine ⟨by kernel_rfl, hK2.out _ ?_⟩); clear hK1 hK2 K1 K2; simp); (try with_reducible refine AR.nil ?_)
        refine ⟨chk_drawn (by kernel_rfl) (by kernel_rfl), hK.out _ ?_⟩
        clear hK K
        repeat (first | with_reducible refine AW.seq ?_ | with_reducible refine AW.block ?_ | with_reducible refine AW.skip ?_ | with_reducible refine AW.exit ?_ | with_reducible refine AW.ret ?_ | with_reducible refine AW.label ?_ | with_reducible refine NX.then ?_ | with_reducible refine NX.ret ?_ | with_reducible refine NX.exit ?_ | with_reducible refine NX.inRet ?_ | with_reducible refine NX.inNormal ?_ | with_reducible refine NX.inExit ?_ | with_reducible refine NX.outExit (by decide) ?_)
        refine nx_ret (T := ty) (rs := [.tmp 4]) (zs := []) (ds := [dB true]) (r := []) (.inr rfl) rfl (by kernel_rfl) (by kernel_rfl) (by simp) rfl
end Go.Proofs.Ytlkdkhmdmgchbaa
