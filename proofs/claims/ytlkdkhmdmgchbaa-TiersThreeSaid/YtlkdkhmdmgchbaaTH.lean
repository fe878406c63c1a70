/- (second logic) the law TiersThree: the walk. -/
import Derived.Test.YtlkdkhmdmgchbaaTC
namespace Go.Proofs.Ytlkdkhmdmgchbaa
set_option linter.unusedSimpArgs false
set_option linter.unusedVariables false
open Go.RowKit
attribute [local simp ↓] gav_bool gav_undef arun_nil ob_some kva_av kfree_free khfree_free khown_own klive_live knm_false chk_true ya_true gsel_tt gsel_ff gsel_tf gsel_ft vb_bool vi_int vstr_string avps_ptr avps_seg avp_ptr avagg_agg avtup_tup avb_bool avown_own shs_struct shsa_struct shsa_arr sharr_arr shl_slice shla_slice shla_arr shls_slice shls_str shi_int bc_true bc_false hd1_cons opc_some opc_none opn_some opn_none unc_not unc_neg gd_none gd_some as_move as_assign as_pick as_bin as_un as_conv as_load as_faddr as_field as_extract as_iaddr as_slice as_alloc as_box as_store as_build as_rows as_call as_append as_lookup as_mapUpdate as_makeMap as_range as_next as_entry as_index as_fn as_len as_min as_max stMove stPick stBin stUn stConv stLoad stFaddr stField stExtract stIaddr stSlice stAlloc stBox stStore stBuild stIndex stRows stCall stAppend stFn stLen stMin stMax opd_tmp opd_const opd_func rawL_nil rawL_cons raw_c raw_st raw_a opr_e zr_nil zr_cons lvd_live hod_own obd_some obd_none kvd_av chd_true vid_int lk_cons lk_nil ins_nil ins_cons cells_zero cells_succ spread1_c spread1_own spread1_ptr spread1_fn spread1_seg spreadL_nil spreadL_cons spread_agg spread_c spread_own spread_seg spread_ptr spread_fn ex_zero ex_succ ops_e opb_none opb_int spreadD_agg spreadD_c spreadD_own spreadD_seg fillO_nil fillO_cons argsOf_nil argsOf_cons dvOf_c dvOf_seg dvOf_own dvOf_agg zrL_nil zrL_cons hdd_c hdd_seg hdd_own clz_e clv_raw clv_f callD_e dst0_n dst0_nil dst0_own goneH_e capc_ptr capc_seg capc_c capN_nil capN_cons capD_nil capD_cons deadZ_nil deadZ_cons
attribute [local simp] dok_some dok_none dflt_tmp dflt_vt dflt_cell dflt_zn dflt_nm dflt_hd dflt_df puts_nil puts_cons wr_some wr_none cst_agg cst_int cst_bool cst_string cst_slice cst_tuple cst_nilFunc cst_pointer cst_func bin_add bin_sub bin_mul bin_quo bin_rem bin_eql bin_neq bin_lss bin_leq bin_gtr bin_geq bin_bool bin_aggs binT_bool binT_aggs shbd_bool eqb_eql eqb_neq bin_slice bin_str_eql bin_str_neq bin_str_lss bin_str_add nz_v nz_n nz_s nz_p nz_f nz_st atz_v atz_n atz_s atz_p atz_f atz_st atz_agg atR_one atR_tup crow_nil crow_cons slc_c slc_n slc_own slc_nil raws setR placesT_nil placesT_cons zc chunk zsAll ocD_v ocD_n ocD_s ocD_p ocD_f ocD_st nrm_v nrm_n nrm_s nrm_p nrm_f nrm_st isV_one isV_tup isV_c isV_agg isV_v isV_n isV_s isV_p isV_f isV_st argRows Sh.agg zds_nil zds_e zds_v zds_s vcells_agg vcells_int vcells_bool vcells_string vcells_slice vcells_pointer toList_lit map_nilL map_consL nzr_e rowsOc_nil rowsOc_cons rowsOc_RD nzr_RD foks_nil foks_cons fok_tmp fok_vt fok_cell fok_nm fok_zn fok_hd fok_df Fv_c Fv_seg Fv_tup Fv_agg Fv_ptr Fv_ptrs Fv_fn Fv_fnd Fv_own Fv_ownd Fv_nown Fv_vown FvL_nil FvL_cons kvp_av hdp_some subz frz Uz Nm Uh vw_nb vw_zo vw_zf vw_hb tb_nil tb_cons fzc_nil fzc_cons fzcaps_nil fzcaps_cons ty2 ty3 ty4 ty5 ty6 ty7 ty8 ty9 ty10 ty11 ty12 ty13 ty14 ty15 ty16 ty17 ty18 ty19 ty20 ty21 ty22 ty23 ty24 ty25 ty26 ty27 ty30 ty40 ty48 ty50 ty51 ty52 ty55 ty57 ty62 ty63 ty85 ty94 ty101 ty121 ty122 ty123 ty124 ty125 ty126 ty128 ty148 ty149 ty151 ty164 ty165 ty179 ty182 ty196 ty203 ty205 ty209 ty211 ty215 ty216 ty217 ty218 ty219 ty220 ty221 ty223 ty224 ty225 ty226 ty227 Value.oneCell'
set_option maxRecDepth 100000
set_option maxHeartbeats 8000000 in
theorem three11_ct (l : List Tr) (ob : Bool) (hN : l.length ≤ maxI) (hw : ∀ t ∈ l, wfT t) : Ct Try.prog 19 [.c (TsD l), dB ob] none (.one (dB true)) := by
  have cw := wakes11_ct
  have co := own26_ct l hN
  obtain ⟨hL, hF⟩ := own26_fact hw
  generalize own26 l = L at *
  refine ct_intro Try.func19 rfl Try.ntmps19 (by simp) (fun W0 Z => ?_)
  with_reducible repeat first | refine .a ?_ | refine .b ?_ | refine .c ?_ | refine .d ?_ | refine .e ?_ | refine .f ?_ | refine .g (by decide) ?_
  refine AW.at_ (fun L hL => ?_)
  simp at hL
  subst hL
  refine AW.rc 1 fun K hK => ?_
  repeat (with_reducible refine .s fun ι κ μ ν => ?_; simp; (first | refine μ.out _ _ ?_ | refine ν.out _ ?_ | refine ⟨by kernel_rfl, ν.out _ ?_⟩); clear μ ν ι κ; simp); (try with_reducible refine .n ?_)
  refine ⟨chk_text _ _, hK.out _ ?_⟩
  clear hK K
  with_reducible repeat first | refine .a ?_ | refine .b ?_ | refine .c ?_ | refine .d ?_ | refine .e ?_ | refine .f ?_ | refine .g (by decide) ?_
  refine AW.rc 10 fun K hK => ?_
  repeat (with_reducible refine .s fun ι κ μ ν => ?_; simp; (first | refine μ.out _ _ ?_ | refine ν.out _ ?_ | refine ⟨by kernel_rfl, ν.out _ ?_⟩); clear μ ν ι κ; simp); (try with_reducible refine .n ?_)
  refine .s fun K1 K2 hK1 hK2 => ?_
  simp
  refine orr_l ⟨by kernel_rfl, .inl ⟨_, cw, ?_⟩⟩
  (try simp)
  refine hK1.out _ _ ?_
  clear hK1 hK2 K1 K2
  (try simp)
  repeat (with_reducible refine .s fun ι κ μ ν => ?_; simp; (first | refine μ.out _ _ ?_ | refine ν.out _ ?_ | refine ⟨by kernel_rfl, ν.out _ ?_⟩); clear μ ν ι κ; simp); (try with_reducible refine .n ?_)
  refine ⟨chk_text _ _, hK.out _ ?_⟩
  clear hK K
  with_reducible repeat first | refine .a ?_ | refine .b ?_ | refine .c ?_ | refine .d ?_ | refine .e ?_ | refine .f ?_ | refine .g (by decide) ?_
  refine AW.cf rfl ?_
  with_reducible repeat first | refine .a ?_ | refine .b ?_ | refine .c ?_ | refine .d ?_ | refine .e ?_ | refine .f ?_ | refine .g (by decide) ?_
  refine AW.rc 20 fun K hK => ?_
  repeat (with_reducible refine .s fun ι κ μ ν => ?_; simp; (first | refine μ.out _ _ ?_ | refine ν.out _ ?_ | refine ⟨by kernel_rfl, ν.out _ ?_⟩); clear μ ν ι κ; simp); (try with_reducible refine .n ?_)
  refine .s fun K1 K2 hK1 hK2 => ?_
  simp
  refine orr_l ⟨by kernel_rfl, .inr (.inl ⟨_, _, _, co, ?_⟩)⟩
  (try simp)
  refine hK1.out _ _ ?_
  clear hK1 hK2 K1 K2
  (try simp)
  repeat (with_reducible refine .s fun ι κ μ ν => ?_; simp; (first | refine μ.out _ _ ?_ | refine ν.out _ ?_ | refine ⟨by kernel_rfl, ν.out _ ?_⟩); clear μ ν ι κ; simp); (try with_reducible refine .n ?_)
  refine ⟨chk_text _ _, hK.out _ ?_⟩
  clear hK K
  with_reducible repeat first | refine .a ?_ | refine .b ?_ | refine .c ?_ | refine .d ?_ | refine .e ?_ | refine .f ?_ | refine .g (by decide) ?_
  by_cases h3 : L.length < 3
  · have h3i : (L.length : Int) < 3 := by omega
    refine AW.rc 40 fun K hK => ?_
    repeat (with_reducible refine .s fun ι κ μ ν => ?_; simp [h3, h3i]; (first | refine μ.out _ _ ?_ | refine ν.out _ ?_ | refine ⟨by kernel_rfl, ν.out _ ?_⟩); clear μ ν ι κ; simp [h3, h3i]); (try with_reducible refine .n ?_)
    refine ⟨chk_text _ _, hK.out _ ?_⟩
    clear hK K
    with_reducible repeat first | refine .a ?_ | refine .b ?_ | refine .c ?_ | refine .d ?_ | refine .e ?_ | refine .f ?_ | refine .g (by decide) ?_
    refine AW.ct rfl ?_
    with_reducible repeat first | refine .a ?_ | refine .b ?_ | refine .c ?_ | refine .d ?_ | refine .e ?_ | refine .f ?_ | refine .g (by decide) ?_
    refine AW.rc 50 fun K hK => ?_
    repeat (with_reducible refine .s fun ι κ μ ν => ?_; simp [h3, h3i]; (first | refine μ.out _ _ ?_ | refine ν.out _ ?_ | refine ⟨by kernel_rfl, ν.out _ ?_⟩); clear μ ν ι κ; simp [h3, h3i]); (try with_reducible refine .n ?_)
    refine ⟨chk_text _ _, hK.out _ ?_⟩
    clear hK K
    with_reducible repeat first | refine .a ?_ | refine .b ?_ | refine .c ?_ | refine .d ?_ | refine .e ?_ | refine .f ?_ | refine .g (by decide) ?_
    refine nx_ret (T := ty) (rs := [.tmp 4]) (zs := []) (ds := [dB true]) (rr := []) (.inr rfl) rfl (by kernel_rfl) (by kernel_rfl) (by simp) rfl
  have h3i : ¬ (L.length : Int) < 3 := by omega
  have ck := tcheckA_ct L (fun t ht => by have := hF t ht; omega)
  cases hts : tsR L with
  | false =>
    rw [hts] at ck
    refine AW.rc 40 fun K hK => ?_
    repeat (with_reducible refine .s fun ι κ μ ν => ?_; simp [h3, h3i]; (first | refine μ.out _ _ ?_ | refine ν.out _ ?_ | refine ⟨by kernel_rfl, ν.out _ ?_⟩); clear μ ν ι κ; simp [h3, h3i]); (try with_reducible refine .n ?_)
    refine .s fun K1 K2 hK1 hK2 => ?_
    simp [h3, h3i]
    refine orr_l ⟨by kernel_rfl, .inl ⟨_, ck, ?_⟩⟩
    (try simp [h3, h3i])
    refine hK1.out _ _ ?_
    clear hK1 hK2 K1 K2
    (try simp [h3, h3i])
    repeat (with_reducible refine .s fun ι κ μ ν => ?_; simp [h3, h3i]; (first | refine μ.out _ _ ?_ | refine ν.out _ ?_ | refine ⟨by kernel_rfl, ν.out _ ?_⟩); clear μ ν ι κ; simp [h3, h3i]); (try with_reducible refine .n ?_)
    refine ⟨chk_text _ _, hK.out _ ?_⟩
    clear hK K
    with_reducible repeat first | refine .a ?_ | refine .b ?_ | refine .c ?_ | refine .d ?_ | refine .e ?_ | refine .f ?_ | refine .g (by decide) ?_
    refine AW.ct rfl ?_
    with_reducible repeat first | refine .a ?_ | refine .b ?_ | refine .c ?_ | refine .d ?_ | refine .e ?_ | refine .f ?_ | refine .g (by decide) ?_
    refine AW.rc 50 fun K hK => ?_
    repeat (with_reducible refine .s fun ι κ μ ν => ?_; simp [h3, h3i]; (first | refine μ.out _ _ ?_ | refine ν.out _ ?_ | refine ⟨by kernel_rfl, ν.out _ ?_⟩); clear μ ν ι κ; simp [h3, h3i]); (try with_reducible refine .n ?_)
    refine ⟨chk_text _ _, hK.out _ ?_⟩
    clear hK K
    with_reducible repeat first | refine .a ?_ | refine .b ?_ | refine .c ?_ | refine .d ?_ | refine .e ?_ | refine .f ?_ | refine .g (by decide) ?_
    refine nx_ret (T := ty) (rs := [.tmp 4]) (zs := []) (ds := [dB true]) (rr := []) (.inr rfl) rfl (by kernel_rfl) (by kernel_rfl) (by simp) rfl
  | true =>
    rw [hts] at ck
    have hall : ∀ t ∈ L, oneL t = true := by
      unfold tsR at hts
      simp only [Bool.and_eq_true, List.all_eq_true] at hts
      exact hts.2
    obtain ⟨a, b, c, h0, h1, h2⟩ : ∃ a b c, L[0]? = some a ∧ L[1]? = some b ∧ L[2]? = some c := ⟨L[0], L[1], L[2], List.getElem?_eq_getElem _, List.getElem?_eq_getElem _, List.getElem?_eq_getElem _⟩
    have ma := List.mem_of_getElem? h0
    have mb := List.mem_of_getElem? h1
    have mc := List.mem_of_getElem? h2
    have ha := hF a ma
    have hb := hF b mb
    have hc := hF c mc
    have oa := hall a ma
    have ob' := hall b mb
    have oc := hall c mc
    have pa : pairsT a ≤ 32 := by unfold pairsT; omega
    have pb : pairsT b ≤ 32 := by unfold pairsT; omega
    have pc : pairsT c ≤ 32 := by unfold pairsT; omega
    have eN : ∀ t u : Tr, pairsN [t, u] = pairsT t + pairsT u := fun t u => by simp [pairsN]
    have l1 := joL_len a b ob (n := 64) (by omega)
    have l2 := joL_len b c false (n := 64) (by omega)
    have o1 : oneL (joL a b ob) = true := which_one (by rw [eN]; omega)
    have o2 : oneL (joL b c false) = true := which_one (by rw [eN]; omega)
    have wf2 : ∀ (t u : Tr) (ob : Bool), wfT t → wfT u → wfT (joL t u ob) := fun t u ob h1 h2 => by
      have w2 : ∀ s ∈ [t, u], wfT s := fun s hs => by
        simp at hs
        rcases hs with rfl | rfl <;> assumption
      refine ⟨which_wf w2 1, ?_⟩
      cases ob
      · exact which_wf w2 0
      · exact fun p hp => by simp [joL] at hp
    have w1 := wf2 a b ob ha.2.2 hb.2.2
    have w2 := wf2 b c false hb.2.2 hc.2.2
    have j1 := join_ct a b ob oa ob' ha.2.2 hb.2.2 (by omega) (by omega)
    have j2 := join_ct b c false ob' oc hb.2.2 hc.2.2 (by omega) (by omega)
    change Ct _ _ _ _ (.tup [TD (joL a b ob), dI 0]) at j1
    change Ct _ _ _ _ (.tup [TD (joL b c false), dI 0]) at j2
    have j3 := join_ct (joL a b ob) c ob o1 oc w1 hc.2.2 (by unfold pairsT; omega) (by omega)
    have j4 := join_ct a (joL b c false) ob oa o2 ha.2.2 w2 (by omega) (by unfold pairsT; omega)
    change Ct _ _ _ _ (.tup [TD (joL (joL a b ob) c ob), dI 0]) at j3
    change Ct _ _ _ _ (.tup [TD (joL a (joL b c false) ob), dI 0]) at j4
    rw [three_law] at j3
    clear w1 w2 wf2 o1 o2 l1 l2 eN pa pb pc oa ob' oc hall
    generalize joL a (joL b c false) ob = r at *
    have ps := psame_ct [r] [r] (by simp)
    rw [decide_eq_true rfl] at ps
    generalize joL a b ob = ab at *
    generalize joL b c false = bc at *
    refine AW.rc 40 fun K hK => ?_
    repeat (with_reducible refine .s fun ι κ μ ν => ?_; simp [h3, h3i]; (first | refine μ.out _ _ ?_ | refine ν.out _ ?_ | refine ⟨by kernel_rfl, ν.out _ ?_⟩); clear μ ν ι κ; simp [h3, h3i]); (try with_reducible refine .n ?_)
    refine .s fun K1 K2 hK1 hK2 => ?_
    simp [h3, h3i]
    refine orr_l ⟨by kernel_rfl, .inl ⟨_, ck, ?_⟩⟩
    (try simp [h3, h3i])
    refine hK1.out _ _ ?_
    clear hK1 hK2 K1 K2
    (try simp [h3, h3i])
    repeat (with_reducible refine .s fun ι κ μ ν => ?_; simp [h3, h3i]; (first | refine μ.out _ _ ?_ | refine ν.out _ ?_ | refine ⟨by kernel_rfl, ν.out _ ?_⟩); clear μ ν ι κ; simp [h3, h3i]); (try with_reducible refine .n ?_)
    refine ⟨chk_text _ _, hK.out _ ?_⟩
    clear hK K
    with_reducible repeat first | refine .a ?_ | refine .b ?_ | refine .c ?_ | refine .d ?_ | refine .e ?_ | refine .f ?_ | refine .g (by decide) ?_
    refine AW.cf rfl ?_
    with_reducible repeat first | refine .a ?_ | refine .b ?_ | refine .c ?_ | refine .d ?_ | refine .e ?_ | refine .f ?_ | refine .g (by decide) ?_
    refine AW.rc 60 fun K hK => ?_
    repeat (with_reducible refine .s fun ι κ μ ν => ?_; simp; (first | refine μ.out _ _ ?_ | refine ν.out _ ?_ | refine ⟨by kernel_rfl, ν.out _ ?_⟩); clear μ ν ι κ; simp); (try with_reducible refine .n ?_)
    refine .s fun K1 K2 hK1 hK2 => ?_
    simp
    refine ⟨0, [RD a.1, RD a.2], rfl, by simp [h0], ?_⟩
    refine hK1.out _ _ ?_
    clear hK1 hK2 K1 K2
    (try simp)
    repeat (with_reducible refine .s fun ι κ μ ν => ?_; simp; (first | refine μ.out _ _ ?_ | refine ν.out _ ?_ | refine ⟨by kernel_rfl, ν.out _ ?_⟩); clear μ ν ι κ; simp); (try with_reducible refine .n ?_)
    refine .s fun K1 K2 hK1 hK2 => ?_
    simp
    refine ⟨1, [RD b.1, RD b.2], rfl, by simp [h1], ?_⟩
    refine hK1.out _ _ ?_
    clear hK1 hK2 K1 K2
    (try simp)
    repeat (with_reducible refine .s fun ι κ μ ν => ?_; simp; (first | refine μ.out _ _ ?_ | refine ν.out _ ?_ | refine ⟨by kernel_rfl, ν.out _ ?_⟩); clear μ ν ι κ; simp); (try with_reducible refine .n ?_)
    refine .s fun K1 K2 hK1 hK2 => ?_
    simp
    refine ⟨2, [RD c.1, RD c.2], rfl, by simp [h2], ?_⟩
    refine hK1.out _ _ ?_
    clear hK1 hK2 K1 K2
    (try simp)
    repeat (with_reducible refine .s fun ι κ μ ν => ?_; simp; (first | refine μ.out _ _ ?_ | refine ν.out _ ?_ | refine ⟨by kernel_rfl, ν.out _ ?_⟩); clear μ ν ι κ; simp); (try with_reducible refine .n ?_)
    refine ⟨chk_drawn (by kernel_rfl) (by kernel_rfl), hK.out _ ?_⟩
    clear hK K
    with_reducible repeat first | refine .a ?_ | refine .b ?_ | refine .c ?_ | refine .d ?_ | refine .e ?_ | refine .f ?_ | refine .g (by decide) ?_
    refine AW.rc 80 fun K hK => ?_
    repeat (with_reducible refine .s fun ι κ μ ν => ?_; simp; (first | refine μ.out _ _ ?_ | refine ν.out _ ?_ | refine ⟨by kernel_rfl, ν.out _ ?_⟩); clear μ ν ι κ; simp); (try with_reducible refine .n ?_)
    refine .s fun K1 K2 hK1 hK2 => ?_
    simp
    refine orr_l ⟨by kernel_rfl, .inl ⟨_, j1, ?_⟩⟩
    (try simp)
    refine hK1.out _ _ ?_
    clear hK1 hK2 K1 K2
    (try simp)
    repeat (with_reducible refine .s fun ι κ μ ν => ?_; simp; (first | refine μ.out _ _ ?_ | refine ν.out _ ?_ | refine ⟨by kernel_rfl, ν.out _ ?_⟩); clear μ ν ι κ; simp); (try with_reducible refine .n ?_)
    refine ⟨chk_text _ _, hK.out _ ?_⟩
    clear hK K
    with_reducible repeat first | refine .a ?_ | refine .b ?_ | refine .c ?_ | refine .d ?_ | refine .e ?_ | refine .f ?_ | refine .g (by decide) ?_
    refine AW.rc 100 fun K hK => ?_
    repeat (with_reducible refine .s fun ι κ μ ν => ?_; simp; (first | refine μ.out _ _ ?_ | refine ν.out _ ?_ | refine ⟨by kernel_rfl, ν.out _ ?_⟩); clear μ ν ι κ; simp); (try with_reducible refine .n ?_)
    refine .s fun K1 K2 hK1 hK2 => ?_
    simp
    refine orr_l ⟨by kernel_rfl, .inl ⟨_, j2, ?_⟩⟩
    (try simp)
    refine hK1.out _ _ ?_
    clear hK1 hK2 K1 K2
    (try simp)
    repeat (with_reducible refine .s fun ι κ μ ν => ?_; simp; (first | refine μ.out _ _ ?_ | refine ν.out _ ?_ | refine ⟨by kernel_rfl, ν.out _ ?_⟩); clear μ ν ι κ; simp); (try with_reducible refine .n ?_)
    refine ⟨chk_text _ _, hK.out _ ?_⟩
    clear hK K
    with_reducible repeat first | refine .a ?_ | refine .b ?_ | refine .c ?_ | refine .d ?_ | refine .e ?_ | refine .f ?_ | refine .g (by decide) ?_
    refine AW.rc 120 fun K hK => ?_
    repeat (with_reducible refine .s fun ι κ μ ν => ?_; simp; (first | refine μ.out _ _ ?_ | refine ν.out _ ?_ | refine ⟨by kernel_rfl, ν.out _ ?_⟩); clear μ ν ι κ; simp); (try with_reducible refine .n ?_)
    refine .s fun K1 K2 hK1 hK2 => ?_
    simp
    refine orr_l ⟨by kernel_rfl, .inl ⟨_, j3, ?_⟩⟩
    (try simp)
    refine hK1.out _ _ ?_
    clear hK1 hK2 K1 K2
    (try simp)
    repeat (with_reducible refine .s fun ι κ μ ν => ?_; simp; (first | refine μ.out _ _ ?_ | refine ν.out _ ?_ | refine ⟨by kernel_rfl, ν.out _ ?_⟩); clear μ ν ι κ; simp); (try with_reducible refine .n ?_)
    refine ⟨chk_text _ _, hK.out _ ?_⟩
    clear hK K
    with_reducible repeat first | refine .a ?_ | refine .b ?_ | refine .c ?_ | refine .d ?_ | refine .e ?_ | refine .f ?_ | refine .g (by decide) ?_
    refine AW.rc 140 fun K hK => ?_
    repeat (with_reducible refine .s fun ι κ μ ν => ?_; simp; (first | refine μ.out _ _ ?_ | refine ν.out _ ?_ | refine ⟨by kernel_rfl, ν.out _ ?_⟩); clear μ ν ι κ; simp); (try with_reducible refine .n ?_)
    refine .s fun K1 K2 hK1 hK2 => ?_
    simp
    refine orr_l ⟨by kernel_rfl, .inl ⟨_, j4, ?_⟩⟩
    (try simp)
    refine hK1.out _ _ ?_
    clear hK1 hK2 K1 K2
    (try simp)
    repeat (with_reducible refine .s fun ι κ μ ν => ?_; simp; (first | refine μ.out _ _ ?_ | refine ν.out _ ?_ | refine ⟨by kernel_rfl, ν.out _ ?_⟩); clear μ ν ι κ; simp); (try with_reducible refine .n ?_)
    refine ⟨chk_text _ _, hK.out _ ?_⟩
    clear hK K
    with_reducible repeat first | refine .a ?_ | refine .b ?_ | refine .c ?_ | refine .d ?_ | refine .e ?_ | refine .f ?_ | refine .g (by decide) ?_
    refine AW.rc 160 fun K hK => ?_
    repeat (with_reducible refine .s fun ι κ μ ν => ?_; simp; (first | refine μ.out _ _ ?_ | refine ν.out _ ?_ | refine ⟨by kernel_rfl, ν.out _ ?_⟩); clear μ ν ι κ; simp); (try with_reducible refine .n ?_)
    refine ⟨chk_text _ _, hK.out _ ?_⟩
    clear hK K
    with_reducible repeat first | refine .a ?_ | refine .b ?_ | refine .c ?_ | refine .d ?_ | refine .e ?_ | refine .f ?_ | refine .g (by decide) ?_
    refine AW.cf rfl ?_
    with_reducible repeat first | refine .a ?_ | refine .b ?_ | refine .c ?_ | refine .d ?_ | refine .e ?_ | refine .f ?_ | refine .g (by decide) ?_
    refine AW.rc 180 fun K hK => ?_
    repeat (with_reducible refine .s fun ι κ μ ν => ?_; simp; (first | refine μ.out _ _ ?_ | refine ν.out _ ?_ | refine ⟨by kernel_rfl, ν.out _ ?_⟩); clear μ ν ι κ; simp); (try with_reducible refine .n ?_)
    refine .s fun K1 K2 hK1 hK2 => ?_
    simp
    refine orr_l ⟨by kernel_rfl, .inl ⟨_, ps, ?_⟩⟩
    (try simp)
    refine hK1.out _ _ ?_
    clear hK1 hK2 K1 K2
    (try simp)
    repeat (with_reducible refine .s fun ι κ μ ν => ?_; simp; (first | refine μ.out _ _ ?_ | refine ν.out _ ?_ | refine ⟨by kernel_rfl, ν.out _ ?_⟩); clear μ ν ι κ; simp); (try with_reducible refine .n ?_)
    refine ⟨chk_text _ _, hK.out _ ?_⟩
    clear hK K
    with_reducible repeat first | refine .a ?_ | refine .b ?_ | refine .c ?_ | refine .d ?_ | refine .e ?_ | refine .f ?_ | refine .g (by decide) ?_
    refine nx_ret (T := ty) (rs := [.tmp 4]) (zs := []) (ds := [dB true]) (rr := []) (.inr rfl) rfl (by kernel_rfl) (by kernel_rfl) (by simp) rfl
end Go.Proofs.Ytlkdkhmdmgchbaa
