/- (second logic) the law TiersNews: the walk. -/
import Derived.Test.YtlkdkhmdmgchbaaTC
namespace Go.Proofs.Ytlkdkhmdmgchbaa
set_option linter.unusedSimpArgs false
set_option linter.unusedVariables false
open Go.RowKit
attribute [local simp ↓] gav_bool gav_undef arun_nil ob_some kva_av kfree_free khfree_free khown_own klive_live knm_false chk_true ya_true gsel_tt gsel_ff gsel_tf gsel_ft vb_bool vi_int vstr_string avps_ptr avps_seg avp_ptr avagg_agg avtup_tup avb_bool avown_own shs_struct shsa_struct shsa_arr sharr_arr shl_slice shla_slice shla_arr shls_slice shls_str shi_int bc_true bc_false hd1_cons opc_some opc_none opn_some opn_none unc_not unc_neg gd_none gd_some as_move as_assign as_pick as_bin as_un as_conv as_load as_faddr as_field as_extract as_iaddr as_slice as_alloc as_box as_store as_build as_rows as_call as_append as_lookup as_mapUpdate as_makeMap as_range as_next as_entry as_index as_fn as_len as_min as_max stMove stPick stBin stUn stConv stLoad stFaddr stField stExtract stIaddr stSlice stAlloc stBox stStore stBuild stIndex stRows stCall stAppend stFn stLen stMin stMax opd_tmp opd_const opd_func rawL_nil rawL_cons raw_c raw_st raw_a opr_e zr_nil zr_cons lvd_live hod_own obd_some obd_none kvd_av chd_true vid_int lk_cons lk_nil ins_nil ins_cons cells_zero cells_succ spread1_c spread1_own spread1_ptr spread1_fn spread1_seg spreadL_nil spreadL_cons spread_agg spread_c spread_own spread_seg spread_ptr spread_fn ex_zero ex_succ ops_e opb_none opb_int spreadD_agg spreadD_c spreadD_own spreadD_seg fillO_nil fillO_cons argsOf_nil argsOf_cons dvOf_c dvOf_seg dvOf_own dvOf_agg zrL_nil zrL_cons hdd_c hdd_seg hdd_own clz_e clv_raw clv_f callD_e dst0_n dst0_nil dst0_own goneH_e capc_ptr capc_seg capc_c capN_nil capN_cons capD_nil capD_cons deadZ_nil deadZ_cons
attribute [local simp] dok_some dok_none dflt_tmp dflt_vt dflt_cell dflt_zn dflt_nm dflt_hd dflt_df puts_nil puts_cons wr_some wr_none cst_agg cst_int cst_bool cst_string cst_slice cst_tuple cst_nilFunc cst_pointer cst_func bin_add bin_sub bin_mul bin_quo bin_rem bin_eql bin_neq bin_lss bin_leq bin_gtr bin_geq bin_bool bin_aggs binT_bool binT_aggs shbd_bool eqb_eql eqb_neq bin_slice bin_str_eql bin_str_neq bin_str_lss bin_str_add nz_v nz_n nz_s nz_p nz_f nz_st atz_v atz_n atz_s atz_p atz_f atz_st atz_agg atR_one atR_tup crow_nil crow_cons slc_c slc_n slc_own slc_nil raws setR placesT_nil placesT_cons zc chunk zsAll ocD_v ocD_n ocD_s ocD_p ocD_f ocD_st nrm_v nrm_n nrm_s nrm_p nrm_f nrm_st isV_one isV_tup isV_c isV_agg isV_v isV_n isV_s isV_p isV_f isV_st argRows Sh.agg zds_nil zds_e zds_v zds_s vcells_agg vcells_int vcells_bool vcells_string vcells_slice vcells_pointer toList_lit map_nilL map_consL nzr_e rowsOc_nil rowsOc_cons rowsOc_RD nzr_RD foks_nil foks_cons fok_tmp fok_vt fok_cell fok_nm fok_zn fok_hd fok_df Fv_c Fv_seg Fv_tup Fv_agg Fv_ptr Fv_ptrs Fv_fn Fv_fnd Fv_own Fv_ownd Fv_nown Fv_vown FvL_nil FvL_cons kvp_av hdp_some subz frz Uz Nm Uh vw_nb vw_zo vw_zf vw_hb tb_nil tb_cons fzc_nil fzc_cons fzcaps_nil fzcaps_cons ty2 ty3 ty4 ty5 ty6 ty7 ty8 ty9 ty10 ty11 ty12 ty13 ty14 ty15 ty16 ty17 ty18 ty19 ty20 ty21 ty22 ty23 ty24 ty25 ty26 ty27 ty30 ty40 ty48 ty50 ty51 ty52 ty55 ty57 ty62 ty63 ty85 ty94 ty101 ty121 ty122 ty123 ty124 ty125 ty126 ty128 ty148 ty149 ty151 ty164 ty165 ty179 ty182 ty196 ty203 ty205 ty209 ty211 ty215 ty216 ty217 ty218 ty219 ty220 ty221 ty223 ty224 ty225 ty226 ty227 Value.oneCell'
set_option maxRecDepth 100000
set_option maxHeartbeats 8000000 in
theorem news11_ct (l : List Tr) (ad dr : List Pr) (hN : l.length ≤ maxI) (hw : ∀ t ∈ l, wfT t) (hwa : wfR ad) (hwd : wfR dr) : Ct Try.prog 16 [.c (TsD l), .c (RD ad), .c (RD dr)] none (.one (dB true)) := by
  have cw := wakes11_ct
  have co := own26_ct l hN
  have ca := few11_ct ad
  have cd := few11_ct dr
  obtain ⟨hL, hF⟩ := own26_fact hw
  generalize own26 l = L at *
  have hal : (ad.take 16).length ≤ 16 := by rw [List.length_take]; omega
  have hdl : (dr.take 16).length ≤ 16 := by rw [List.length_take]; omega
  have haw : wfR (ad.take 16) := fun p hp => hwa p (List.mem_of_mem_take hp)
  have hdw : wfR (dr.take 16) := fun p hp => hwd p (List.mem_of_mem_take hp)
  obtain ⟨a, hae⟩ : ∃ a, a = ad.take 16 := ⟨_, rfl⟩
  obtain ⟨d, hde⟩ : ∃ d, d = dr.take 16 := ⟨_, rfl⟩
  rw [← hae] at ca hal haw
  rw [← hde] at cd hdl hdw
  clear hae hde
  have hs : ∀ t ∈ L, t.1.length + t.2.length ≤ 1048576 := fun t ht => by have := hF t ht; omega
  by_cases hp : pushNo L a d = 0
  · have cp := push_ok L a d hs (by omega) hp
    obtain ⟨h1, h2, h3, h4, h5⟩ := push_no0 hp
    have hts := ts_push hp
    have pL : pairsN L ≤ 832 := by
      have := pairsN_bound (l := L) (c := 32) (fun t ht => by have := hF t ht; unfold pairsT; omega)
      omega
    have pM : pairsN (L ++ [(a, d)]) ≤ 900 := by
      rw [pairsN_app]
      have e : pairsN [(a, d)] = pairsT (a, d) := by simp [pairsN]
      rw [e]
      unfold pairsT
      simp only
      omega
    have hM : ∀ t ∈ L ++ [(a, d)], t.1.length + t.2.length ≤ 1048576 ∧ wfT t := fun t ht => by
      rw [List.mem_append, List.mem_singleton] at ht
      rcases ht with ht | rfl
      · have := hF t ht; exact ⟨by omega, this.2.2⟩
      · exact ⟨by simp only; omega, haw, hdw⟩
    have ck := tcheckA_ct (L ++ [(a, d)]) (fun t ht => (hM t ht).1)
    rw [hts] at ck
    have c1 := content_ct L h1 hs (fun t ht => (hF t ht).2.2) (by omega)
    have c2 := content_ct (L ++ [(a, d)]) hts (fun t ht => (hM t ht).1) (fun t ht => (hM t ht).2) (by omega)
    have w1 := whichL_len L 1
    have rw1 : rightL (whichL L 1) = true := right_of (whichL_rises _ _) (by omega)
    have m1 := minus_ct (whichL L 1) d (by omega) (by rw [rw1, h3]; rfl)
    have rm := keptH_rises miF (whichL_rises L 1) (right_rises h3)
    have ml := keptH_len miF (whichL L 1) d
    have u1 := unionp_ct (keptH (fun x y => x && !y) (whichL L 1) d) a (by change (keptH miF _ _).length + _ ≤ _; omega) (by rw [right_of rm (by omega), h2]; rfl)
    rw [news_law hp] at u1
    clear ml rm rw1 w1 pL pM hM hts
    generalize keptH (fun x y => x && !y) (whichL L 1) d = X at *
    generalize whichL L 1 = Y at *
    generalize whichL (L ++ [(a, d)]) 1 = R at *
    have ce := equal_ct R R
    rw [decide_eq_true rfl] at ce
    generalize L ++ [(a, d)] = M at *
    refine ct_intro Try.func16 rfl Try.ntmps16 (by simp) (fun W0 Z => ?_)
    with_reducible repeat first | refine .a ?_ | refine .b ?_ | refine .c ?_ | refine .d ?_ | refine .e ?_ | refine .f ?_ | refine .g (by decide) ?_
    refine AW.at_ (fun L hL => ?_)
    simp at hL
    subst hL
    refine AW.rc 1 fun K hK => ?_
    repeat (with_reducible refine .s fun ι κ μ ν => ?_; simp; (first | refine μ.out _ _ ?_ | refine ν.out _ ?_ | refine ⟨by kernel_rfl, ν.out _ ?_⟩); clear μ ν ι κ; simp); (try with_reducible refine .n ?_)
    refine ⟨chk_text _ _, hK.out _ ?_⟩
    clear hK K
    with_reducible repeat first | refine .a ?_ | refine .b ?_ | refine .c ?_ | refine .d ?_ | refine .e ?_ | refine .f ?_ | refine .g (by decide) ?_
    refine AW.rc 10 fun K hK => ?_
    repeat (with_reducible refine .s fun ι κ μ ν => ?_; simp; (first | refine μ.out _ _ ?_ | refine ν.out _ ?_ | refine ⟨by kernel_rfl, ν.out _ ?_⟩); clear μ ν ι κ; simp); (try with_reducible refine .n ?_)
    refine .s fun K1 K2 hK1 hK2 => ?_
    simp
    refine orr_l ⟨by kernel_rfl, .inl ⟨_, cw, ?_⟩⟩
    (try simp)
    refine hK1.out _ _ ?_
    clear hK1 hK2 K1 K2
    (try simp)
    repeat (with_reducible refine .s fun ι κ μ ν => ?_; simp; (first | refine μ.out _ _ ?_ | refine ν.out _ ?_ | refine ⟨by kernel_rfl, ν.out _ ?_⟩); clear μ ν ι κ; simp); (try with_reducible refine .n ?_)
    refine ⟨chk_text _ _, hK.out _ ?_⟩
    clear hK K
    with_reducible repeat first | refine .a ?_ | refine .b ?_ | refine .c ?_ | refine .d ?_ | refine .e ?_ | refine .f ?_ | refine .g (by decide) ?_
    refine AW.cf rfl ?_
    with_reducible repeat first | refine .a ?_ | refine .b ?_ | refine .c ?_ | refine .d ?_ | refine .e ?_ | refine .f ?_ | refine .g (by decide) ?_
    refine AW.rc 20 fun K hK => ?_
    repeat (with_reducible refine .s fun ι κ μ ν => ?_; simp; (first | refine μ.out _ _ ?_ | refine ν.out _ ?_ | refine ⟨by kernel_rfl, ν.out _ ?_⟩); clear μ ν ι κ; simp); (try with_reducible refine .n ?_)
    refine .s fun K1 K2 hK1 hK2 => ?_
    simp
    refine orr_l ⟨by kernel_rfl, .inr (.inl ⟨_, _, _, co, ?_⟩)⟩
    (try simp)
    refine hK1.out _ _ ?_
    clear hK1 hK2 K1 K2
    (try simp)
    repeat (with_reducible refine .s fun ι κ μ ν => ?_; simp; (first | refine μ.out _ _ ?_ | refine ν.out _ ?_ | refine ⟨by kernel_rfl, ν.out _ ?_⟩); clear μ ν ι κ; simp); (try with_reducible refine .n ?_)
    refine .s fun K1 K2 hK1 hK2 => ?_
    simp
    refine orr_l ⟨by kernel_rfl, .inr (.inl ⟨_, _, _, ca, ?_⟩)⟩
    (try simp)
    refine hK1.out _ _ ?_
    clear hK1 hK2 K1 K2
    (try simp)
    repeat (with_reducible refine .s fun ι κ μ ν => ?_; simp; (first | refine μ.out _ _ ?_ | refine ν.out _ ?_ | refine ⟨by kernel_rfl, ν.out _ ?_⟩); clear μ ν ι κ; simp); (try with_reducible refine .n ?_)
    refine .s fun K1 K2 hK1 hK2 => ?_
    simp
    refine orr_l ⟨by kernel_rfl, .inr (.inl ⟨_, _, _, cd, ?_⟩)⟩
    (try simp)
    refine hK1.out _ _ ?_
    clear hK1 hK2 K1 K2
    (try simp)
    repeat (with_reducible refine .s fun ι κ μ ν => ?_; simp; (first | refine μ.out _ _ ?_ | refine ν.out _ ?_ | refine ⟨by kernel_rfl, ν.out _ ?_⟩); clear μ ν ι κ; simp); (try with_reducible refine .n ?_)
    refine ⟨chk_text _ _, hK.out _ ?_⟩
    clear hK K
    with_reducible repeat first | refine .a ?_ | refine .b ?_ | refine .c ?_ | refine .d ?_ | refine .e ?_ | refine .f ?_ | refine .g (by decide) ?_
    refine AW.rc 40 fun K hK => ?_
    repeat (with_reducible refine .s fun ι κ μ ν => ?_; simp; (first | refine μ.out _ _ ?_ | refine ν.out _ ?_ | refine ⟨by kernel_rfl, ν.out _ ?_⟩); clear μ ν ι κ; simp); (try with_reducible refine .n ?_)
    refine .s fun K1 K2 hK1 hK2 => ?_
    simp
    refine orr_l ⟨by kernel_rfl, .inl ⟨_, cp, ?_⟩⟩
    (try simp)
    refine hK1.out _ _ ?_
    clear hK1 hK2 K1 K2
    (try simp)
    repeat (with_reducible refine .s fun ι κ μ ν => ?_; simp; (first | refine μ.out _ _ ?_ | refine ν.out _ ?_ | refine ⟨by kernel_rfl, ν.out _ ?_⟩); clear μ ν ι κ; simp); (try with_reducible refine .n ?_)
    refine ⟨chk_text _ _, hK.out _ ?_⟩
    clear hK K
    with_reducible repeat first | refine .a ?_ | refine .b ?_ | refine .c ?_ | refine .d ?_ | refine .e ?_ | refine .f ?_ | refine .g (by decide) ?_
    refine AW.rc 60 fun K hK => ?_
    repeat (with_reducible refine .s fun ι κ μ ν => ?_; simp; (first | refine μ.out _ _ ?_ | refine ν.out _ ?_ | refine ⟨by kernel_rfl, ν.out _ ?_⟩); clear μ ν ι κ; simp); (try with_reducible refine .n ?_)
    refine ⟨chk_text _ _, hK.out _ ?_⟩
    clear hK K
    with_reducible repeat first | refine .a ?_ | refine .b ?_ | refine .c ?_ | refine .d ?_ | refine .e ?_ | refine .f ?_ | refine .g (by decide) ?_
    refine AW.cf rfl ?_
    with_reducible repeat first | refine .a ?_ | refine .b ?_ | refine .c ?_ | refine .d ?_ | refine .e ?_ | refine .f ?_ | refine .g (by decide) ?_
    refine AW.rc 70 fun K hK => ?_
    repeat (with_reducible refine .s fun ι κ μ ν => ?_; simp; (first | refine μ.out _ _ ?_ | refine ν.out _ ?_ | refine ⟨by kernel_rfl, ν.out _ ?_⟩); clear μ ν ι κ; simp); (try with_reducible refine .n ?_)
    refine .s fun K1 K2 hK1 hK2 => ?_
    simp
    refine orr_l ⟨by kernel_rfl, .inr (.inl ⟨_, _, _, c1, ?_⟩)⟩
    (try simp)
    refine hK1.out _ _ ?_
    clear hK1 hK2 K1 K2
    (try simp)
    repeat (with_reducible refine .s fun ι κ μ ν => ?_; simp; (first | refine μ.out _ _ ?_ | refine ν.out _ ?_ | refine ⟨by kernel_rfl, ν.out _ ?_⟩); clear μ ν ι κ; simp); (try with_reducible refine .n ?_)
    refine .s fun K1 K2 hK1 hK2 => ?_
    simp
    refine orr_l ⟨by kernel_rfl, .inr (.inl ⟨_, _, _, c2, ?_⟩)⟩
    (try simp)
    refine hK1.out _ _ ?_
    clear hK1 hK2 K1 K2
    (try simp)
    repeat (with_reducible refine .s fun ι κ μ ν => ?_; simp; (first | refine μ.out _ _ ?_ | refine ν.out _ ?_ | refine ⟨by kernel_rfl, ν.out _ ?_⟩); clear μ ν ι κ; simp); (try with_reducible refine .n ?_)
    refine ⟨chk_text _ _, hK.out _ ?_⟩
    clear hK K
    with_reducible repeat first | refine .a ?_ | refine .b ?_ | refine .c ?_ | refine .d ?_ | refine .e ?_ | refine .f ?_ | refine .g (by decide) ?_
    refine AW.rc 90 fun K hK => ?_
    repeat (with_reducible refine .s fun ι κ μ ν => ?_; simp; (first | refine μ.out _ _ ?_ | refine ν.out _ ?_ | refine ⟨by kernel_rfl, ν.out _ ?_⟩); clear μ ν ι κ; simp); (try with_reducible refine .n ?_)
    refine .s fun K1 K2 hK1 hK2 => ?_
    simp
    refine orr_l ⟨by kernel_rfl, .inl ⟨_, m1, ?_⟩⟩
    (try simp)
    refine hK1.out _ _ ?_
    clear hK1 hK2 K1 K2
    (try simp)
    repeat (with_reducible refine .s fun ι κ μ ν => ?_; simp; (first | refine μ.out _ _ ?_ | refine ν.out _ ?_ | refine ⟨by kernel_rfl, ν.out _ ?_⟩); clear μ ν ι κ; simp); (try with_reducible refine .n ?_)
    refine ⟨chk_text _ _, hK.out _ ?_⟩
    clear hK K
    with_reducible repeat first | refine .a ?_ | refine .b ?_ | refine .c ?_ | refine .d ?_ | refine .e ?_ | refine .f ?_ | refine .g (by decide) ?_
    refine AW.rc 110 fun K hK => ?_
    repeat (with_reducible refine .s fun ι κ μ ν => ?_; simp; (first | refine μ.out _ _ ?_ | refine ν.out _ ?_ | refine ⟨by kernel_rfl, ν.out _ ?_⟩); clear μ ν ι κ; simp); (try with_reducible refine .n ?_)
    refine .s fun K1 K2 hK1 hK2 => ?_
    simp
    refine orr_l ⟨by kernel_rfl, .inl ⟨_, u1, ?_⟩⟩
    (try simp)
    refine hK1.out _ _ ?_
    clear hK1 hK2 K1 K2
    (try simp)
    repeat (with_reducible refine .s fun ι κ μ ν => ?_; simp; (first | refine μ.out _ _ ?_ | refine ν.out _ ?_ | refine ⟨by kernel_rfl, ν.out _ ?_⟩); clear μ ν ι κ; simp); (try with_reducible refine .n ?_)
    refine ⟨chk_text _ _, hK.out _ ?_⟩
    clear hK K
    with_reducible repeat first | refine .a ?_ | refine .b ?_ | refine .c ?_ | refine .d ?_ | refine .e ?_ | refine .f ?_ | refine .g (by decide) ?_
    refine AW.rc 130 fun K hK => ?_
    repeat (with_reducible refine .s fun ι κ μ ν => ?_; simp; (first | refine μ.out _ _ ?_ | refine ν.out _ ?_ | refine ⟨by kernel_rfl, ν.out _ ?_⟩); clear μ ν ι κ; simp); (try with_reducible refine .n ?_)
    refine .s fun K1 K2 hK1 hK2 => ?_
    simp
    refine orr_l ⟨by kernel_rfl, .inl ⟨_, ce, ?_⟩⟩
    (try simp)
    refine hK1.out _ _ ?_
    clear hK1 hK2 K1 K2
    (try simp)
    repeat (with_reducible refine .s fun ι κ μ ν => ?_; simp; (first | refine μ.out _ _ ?_ | refine ν.out _ ?_ | refine ⟨by kernel_rfl, ν.out _ ?_⟩); clear μ ν ι κ; simp); (try with_reducible refine .n ?_)
    refine .s fun K1 K2 hK1 hK2 => ?_
    simp
    refine orr_l ⟨by kernel_rfl, .inl ⟨_, ck, ?_⟩⟩
    (try simp)
    refine hK1.out _ _ ?_
    clear hK1 hK2 K1 K2
    (try simp)
    repeat (with_reducible refine .s fun ι κ μ ν => ?_; simp; (first | refine μ.out _ _ ?_ | refine ν.out _ ?_ | refine ⟨by kernel_rfl, ν.out _ ?_⟩); clear μ ν ι κ; simp); (try with_reducible refine .n ?_)
    refine ⟨chk_text _ _, hK.out _ ?_⟩
    clear hK K
    with_reducible repeat first | refine .a ?_ | refine .b ?_ | refine .c ?_ | refine .d ?_ | refine .e ?_ | refine .f ?_ | refine .g (by decide) ?_
    refine nx_ret (T := ty) (rs := [.tmp 6]) (zs := []) (ds := [dB true]) (rr := []) (.inr rfl) rfl (by kernel_rfl) (by kernel_rfl) (by simp) rfl
  · have cp := push_no L a d hs (by omega) hp
    generalize pushNo L a d = e at *
    refine ct_intro Try.func16 rfl Try.ntmps16 (by simp) (fun W0 Z => ?_)
    with_reducible repeat first | refine .a ?_ | refine .b ?_ | refine .c ?_ | refine .d ?_ | refine .e ?_ | refine .f ?_ | refine .g (by decide) ?_
    refine AW.at_ (fun L hL => ?_)
    simp at hL
    subst hL
    refine AW.rc 1 fun K hK => ?_
    repeat (with_reducible refine .s fun ι κ μ ν => ?_; simp; (first | refine μ.out _ _ ?_ | refine ν.out _ ?_ | refine ⟨by kernel_rfl, ν.out _ ?_⟩); clear μ ν ι κ; simp); (try with_reducible refine .n ?_)
    refine ⟨chk_text _ _, hK.out _ ?_⟩
    clear hK K
    with_reducible repeat first | refine .a ?_ | refine .b ?_ | refine .c ?_ | refine .d ?_ | refine .e ?_ | refine .f ?_ | refine .g (by decide) ?_
    refine AW.rc 10 fun K hK => ?_
    repeat (with_reducible refine .s fun ι κ μ ν => ?_; simp; (first | refine μ.out _ _ ?_ | refine ν.out _ ?_ | refine ⟨by kernel_rfl, ν.out _ ?_⟩); clear μ ν ι κ; simp); (try with_reducible refine .n ?_)
    refine .s fun K1 K2 hK1 hK2 => ?_
    simp
    refine orr_l ⟨by kernel_rfl, .inl ⟨_, cw, ?_⟩⟩
    (try simp)
    refine hK1.out _ _ ?_
    clear hK1 hK2 K1 K2
    (try simp)
    repeat (with_reducible refine .s fun ι κ μ ν => ?_; simp; (first | refine μ.out _ _ ?_ | refine ν.out _ ?_ | refine ⟨by kernel_rfl, ν.out _ ?_⟩); clear μ ν ι κ; simp); (try with_reducible refine .n ?_)
    refine ⟨chk_text _ _, hK.out _ ?_⟩
    clear hK K
    with_reducible repeat first | refine .a ?_ | refine .b ?_ | refine .c ?_ | refine .d ?_ | refine .e ?_ | refine .f ?_ | refine .g (by decide) ?_
    refine AW.cf rfl ?_
    with_reducible repeat first | refine .a ?_ | refine .b ?_ | refine .c ?_ | refine .d ?_ | refine .e ?_ | refine .f ?_ | refine .g (by decide) ?_
    refine AW.rc 20 fun K hK => ?_
    repeat (with_reducible refine .s fun ι κ μ ν => ?_; simp; (first | refine μ.out _ _ ?_ | refine ν.out _ ?_ | refine ⟨by kernel_rfl, ν.out _ ?_⟩); clear μ ν ι κ; simp); (try with_reducible refine .n ?_)
    refine .s fun K1 K2 hK1 hK2 => ?_
    simp
    refine orr_l ⟨by kernel_rfl, .inr (.inl ⟨_, _, _, co, ?_⟩)⟩
    (try simp)
    refine hK1.out _ _ ?_
    clear hK1 hK2 K1 K2
    (try simp)
    repeat (with_reducible refine .s fun ι κ μ ν => ?_; simp; (first | refine μ.out _ _ ?_ | refine ν.out _ ?_ | refine ⟨by kernel_rfl, ν.out _ ?_⟩); clear μ ν ι κ; simp); (try with_reducible refine .n ?_)
    refine .s fun K1 K2 hK1 hK2 => ?_
    simp
    refine orr_l ⟨by kernel_rfl, .inr (.inl ⟨_, _, _, ca, ?_⟩)⟩
    (try simp)
    refine hK1.out _ _ ?_
    clear hK1 hK2 K1 K2
    (try simp)
    repeat (with_reducible refine .s fun ι κ μ ν => ?_; simp; (first | refine μ.out _ _ ?_ | refine ν.out _ ?_ | refine ⟨by kernel_rfl, ν.out _ ?_⟩); clear μ ν ι κ; simp); (try with_reducible refine .n ?_)
    refine .s fun K1 K2 hK1 hK2 => ?_
    simp
    refine orr_l ⟨by kernel_rfl, .inr (.inl ⟨_, _, _, cd, ?_⟩)⟩
    (try simp)
    refine hK1.out _ _ ?_
    clear hK1 hK2 K1 K2
    (try simp)
    repeat (with_reducible refine .s fun ι κ μ ν => ?_; simp; (first | refine μ.out _ _ ?_ | refine ν.out _ ?_ | refine ⟨by kernel_rfl, ν.out _ ?_⟩); clear μ ν ι κ; simp); (try with_reducible refine .n ?_)
    refine ⟨chk_text _ _, hK.out _ ?_⟩
    clear hK K
    with_reducible repeat first | refine .a ?_ | refine .b ?_ | refine .c ?_ | refine .d ?_ | refine .e ?_ | refine .f ?_ | refine .g (by decide) ?_
    refine AW.rc 40 fun K hK => ?_
    repeat (with_reducible refine .s fun ι κ μ ν => ?_; simp; (first | refine μ.out _ _ ?_ | refine ν.out _ ?_ | refine ⟨by kernel_rfl, ν.out _ ?_⟩); clear μ ν ι κ; simp); (try with_reducible refine .n ?_)
    refine .s fun K1 K2 hK1 hK2 => ?_
    simp
    refine orr_l ⟨by kernel_rfl, .inl ⟨_, cp, ?_⟩⟩
    (try simp)
    refine hK1.out _ _ ?_
    clear hK1 hK2 K1 K2
    (try simp)
    repeat (with_reducible refine .s fun ι κ μ ν => ?_; simp; (first | refine μ.out _ _ ?_ | refine ν.out _ ?_ | refine ⟨by kernel_rfl, ν.out _ ?_⟩); clear μ ν ι κ; simp); (try with_reducible refine .n ?_)
    refine ⟨chk_text _ _, hK.out _ ?_⟩
    clear hK K
    with_reducible repeat first | refine .a ?_ | refine .b ?_ | refine .c ?_ | refine .d ?_ | refine .e ?_ | refine .f ?_ | refine .g (by decide) ?_
    refine AW.rc 60 fun K hK => ?_
    repeat (with_reducible refine .s fun ι κ μ ν => ?_; simp [hp]; (first | refine μ.out _ _ ?_ | refine ν.out _ ?_ | refine ⟨by kernel_rfl, ν.out _ ?_⟩); clear μ ν ι κ; simp [hp]); (try with_reducible refine .n ?_)
    refine ⟨chk_text _ _, hK.out _ ?_⟩
    clear hK K
    with_reducible repeat first | refine .a ?_ | refine .b ?_ | refine .c ?_ | refine .d ?_ | refine .e ?_ | refine .f ?_ | refine .g (by decide) ?_
    refine AW.ct rfl ?_
    with_reducible repeat first | refine .a ?_ | refine .b ?_ | refine .c ?_ | refine .d ?_ | refine .e ?_ | refine .f ?_ | refine .g (by decide) ?_
    refine AW.rc 70 fun K hK => ?_
    repeat (with_reducible refine .s fun ι κ μ ν => ?_; simp [hp]; (first | refine μ.out _ _ ?_ | refine ν.out _ ?_ | refine ⟨by kernel_rfl, ν.out _ ?_⟩); clear μ ν ι κ; simp [hp]); (try with_reducible refine .n ?_)
    refine ⟨chk_text _ _, hK.out _ ?_⟩
    clear hK K
    with_reducible repeat first | refine .a ?_ | refine .b ?_ | refine .c ?_ | refine .d ?_ | refine .e ?_ | refine .f ?_ | refine .g (by decide) ?_
    refine nx_ret (T := ty) (rs := [.tmp 6]) (zs := []) (ds := [dB true]) (rr := []) (.inr rfl) rfl (by kernel_rfl) (by kernel_rfl) (by simp) rfl
end Go.Proofs.Ytlkdkhmdmgchbaa
