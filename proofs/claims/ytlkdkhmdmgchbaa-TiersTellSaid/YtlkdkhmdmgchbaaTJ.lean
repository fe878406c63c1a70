/- The second logic: chapter 11: the law TiersTell. -/
import Derived.Test.YtlkdkhmdmgchbaaTF
import Derived.Test.YtlkdkhmdmgchbaaTD
namespace Go.Proofs.Ytlkdkhmdmgchbaa
set_option linter.unusedSimpArgs false
set_option linter.unusedVariables false
open Go.RowKit
attribute [local simp ↓] gav_bool gav_undef arun_nil ob_some kva_av kfree_free khfree_free khown_own klive_live knm_false chk_true ya_true gsel_tt gsel_ff gsel_tf gsel_ft vb_bool vi_int vstr_string avps_ptr avps_seg avp_ptr avagg_agg avtup_tup avb_bool avown_own shs_struct shsa_struct shsa_arr sharr_arr shl_slice shla_slice shla_arr shls_slice shls_str shi_int bc_true bc_false hd1_cons opc_some opc_none opn_some opn_none unc_not unc_neg gd_none gd_some as_move as_assign as_pick as_bin as_un as_conv as_load as_faddr as_field as_extract as_iaddr as_slice as_alloc as_box as_store as_build as_rows as_call as_append as_lookup as_mapUpdate as_makeMap as_range as_next as_entry as_index as_fn as_len as_min as_max stMove stPick stBin stUn stConv stLoad stFaddr stField stExtract stIaddr stSlice stAlloc stBox stStore stBuild stIndex stRows stCall stAppend stFn stLen stMin stMax opd_tmp opd_const opd_func rawL_nil rawL_cons raw_c raw_st raw_a opr_e zr_nil zr_cons lvd_live hod_own obd_some obd_none kvd_av chd_true vid_int lk_cons lk_nil ins_nil ins_cons cells_zero cells_succ spread1_c spread1_own spread1_ptr spread1_fn spread1_seg spreadL_nil spreadL_cons spread_agg spread_c spread_own spread_seg spread_ptr spread_fn ex_zero ex_succ ops_e opb_none opb_int spreadD_agg spreadD_c spreadD_own spreadD_seg fillO_nil fillO_cons argsOf_nil argsOf_cons dvOf_c dvOf_seg dvOf_own dvOf_agg zrL_nil zrL_cons hdd_c hdd_seg hdd_own clz_e clv_raw clv_f callD_e dst0_n dst0_nil dst0_own goneH_e capc_ptr capc_seg capc_c capN_nil capN_cons capD_nil capD_cons deadZ_nil deadZ_cons
attribute [local simp] dok_some dok_none dflt_tmp dflt_vt dflt_cell dflt_zn dflt_nm dflt_hd dflt_df puts_nil puts_cons wr_some wr_none cst_agg cst_int cst_bool cst_string cst_slice cst_tuple cst_nilFunc cst_pointer cst_func bin_add bin_sub bin_mul bin_quo bin_rem bin_eql bin_neq bin_lss bin_leq bin_gtr bin_geq bin_bool bin_aggs binT_bool binT_aggs shbd_bool eqb_eql eqb_neq bin_slice bin_str_eql bin_str_neq bin_str_lss bin_str_add nz_v nz_n nz_s nz_p nz_f nz_st atz_v atz_n atz_s atz_p atz_f atz_st atz_agg atR_one atR_tup crow_nil crow_cons slc_c slc_n slc_own slc_nil raws setR placesT_nil placesT_cons zc chunk zsAll ocD_v ocD_n ocD_s ocD_p ocD_f ocD_st nrm_v nrm_n nrm_s nrm_p nrm_f nrm_st isV_one isV_tup isV_c isV_agg isV_v isV_n isV_s isV_p isV_f isV_st argRows Sh.agg zds_nil zds_e zds_v zds_s vcells_agg vcells_int vcells_bool vcells_string vcells_slice vcells_pointer toList_lit map_nilL map_consL nzr_e rowsOc_nil rowsOc_cons rowsOc_RD nzr_RD foks_nil foks_cons fok_tmp fok_vt fok_cell fok_nm fok_zn fok_hd fok_df Fv_c Fv_seg Fv_tup Fv_agg Fv_ptr Fv_ptrs Fv_fn Fv_fnd Fv_own Fv_ownd Fv_nown Fv_vown FvL_nil FvL_cons kvp_av hdp_some subz frz Uz Nm Uh vw_nb vw_zo vw_zf vw_hb tb_nil tb_cons fzc_nil fzc_cons fzcaps_nil fzcaps_cons ty2 ty3 ty4 ty5 ty6 ty7 ty8 ty9 ty10 ty11 ty12 ty13 ty14 ty15 ty16 ty17 ty18 ty19 ty20 ty21 ty22 ty23 ty24 ty25 ty26 ty27 ty30 ty40 ty48 ty50 ty51 ty52 ty55 ty57 ty62 ty63 ty85 ty94 ty101 ty121 ty122 ty123 ty124 ty125 ty126 ty128 ty148 ty149 ty151 ty164 ty165 ty179 ty182 ty196 ty203 ty205 ty209 ty211 ty215 ty216 ty217 ty218 ty219 ty220 ty221 ty223 ty224 ty225 ty226 ty227 Value.oneCell'
set_option maxRecDepth 100000
theorem rcontent0_ct : Ct Try.prog 46 [.c (.v (.slice none 0 0))] (some 52) (.one (.c (RD []))) := by
  have := rcontent11_ct [] (by simp) (fun t ht => by simp at ht) (by decide)
  rw [which_nil] at this
  exact Ct.niln this
theorem says0_ct (p : Pr) : Ct Try.prog 96 [.c (.v (.slice none 0 0)), PV p] none (.one (dI 0)) := Ct.niln (says_ct [] p)
theorem equal0_ct : Ct Try.prog 40 [.c (.v (.slice none 0 0)), .c (RD [])] none (.one (dB true)) := by
  have := equal_ct [] []
  rw [decide_eq_true rfl] at this
  exact Ct.niln this
def tlB (x A : List Tr) (ps : List Pr) (k : Nat) : Row := [(.zn 0, .zn .live), (.tmp 0, .av (.c [0] (TsD x))), (.zn 21, .zn .live), (.zn 100021, .zn .live), (.hd 21, .hd (.own 24 2 21 [100021] (A.map fun t => [RD t.1, RD t.2]))), (.tmp 7, .av (.own 21)),
  (.tmp 99, .av (.c [0] (RD ps))), (.tmp 100, .av (.c [] (.v (.int .i64 ps.length)))), (.tmp 101, .av (.c [] (.v (.int .i64 k))))]
def tlE0 (x A : List Tr) (ps : List Pr) (k : Nat) : Row := [(.tmp 10, .av (.c [] (.v (.slice none 0 0)))), (.tmp 13, .av (.c [] (.v (.slice none 0 0))))] ++ tlB x A ps k
def tlE1 (x A : List Tr) (ps : List Pr) (k : Nat) : Row := [(.tmp 10, .av (.own 21)), (.tmp 13, .av (.c [] (.v (.slice none 0 0))))] ++ tlB x A ps k
def tlE2 (C : List Pr) (x A : List Tr) (ps : List Pr) (k : Nat) : Row := [(.tmp 10, .av (.own 21)), (.zn 221, .zn .live), (.tmp 13, .av (.c [221] (TsD [(C, [])])))] ++ tlB x A ps k
set_option maxHeartbeats 16000000 in
theorem tell11_ct (x y : List Tr) (qs : List Pr) (hNx : x.length ≤ maxI) (hNy : y.length ≤ maxI) (hq : qs.length ≤ maxI) (hwx : ∀ t ∈ x, wfT t) (hwy : ∀ t ∈ y, wfT t) : Ct Try.prog 20 [.c (TsD x), .c (TsD y), .c (RD qs)] none (.one (dB true)) := by
  have cw := wakes11_ct
  have cox := own26_ct x hNx
  have coy := own26_ct y hNy
  obtain ⟨hL, hF⟩ := own26_fact hwx
  obtain ⟨hL2, hF2⟩ := own26_fact hwy
  generalize own26 x = A at *
  generalize own26 y = B at *
  have hs : ∀ t ∈ A, t.1.length + t.2.length ≤ 1048576 := fun t ht => by have := hF t ht; omega
  have crr := rright11_ct A (by omega) (fun t ht => by have := hF t ht; omega)
  have ck := tcheckA_ct A hs
  have ps := psame_ct A B (by omega)
  have ts := tsame_ct A B
  have csA := tsame_ct A A
  rw [decide_eq_true rfl] at csA
  generalize decide (A = B) = q at *
  have k0 := spoil0_kt
  cases hts : tsR A with
  | false =>
    rw [hts] at crr ck
    have cn := content_ct' A hts hs
    have cl := least_no A hs hts
    have rc := rcontent0_ct
    have ceq := equal0_ct
    have hhas := fun p => thas_no A p hs hts
    have hsays := fun p => says0_ct p
    refine ct_intro Try.func20 rfl Try.ntmps20 (by simp) (fun W0 Z => ?_)
    with_reducible repeat first | refine Jt.i ?_ | refine .g (by decide) ?_
    refine AW.at_ (fun L hL => ?_)
    simp at hL
    subst hL
    refine AW.rc 1 fun K hK => ?_
    repeat (with_reducible refine .s fun X Y Z W => ?_; simp; (first | refine Z.out _ _ ?_ | refine W.out _ ?_ | refine ⟨by kernel_rfl, W.out _ ?_⟩); clear Z W X Y; simp); (try refine .n ?_)
    refine Jt.f hK ?_
    clear hK K
    with_reducible repeat first | refine Jt.i ?_ | refine .g (by decide) ?_
    refine AW.rc 10 fun K hK => ?_
    repeat (with_reducible refine .s fun X Y Z W => ?_; simp; (first | refine Z.out _ _ ?_ | refine W.out _ ?_ | refine ⟨by kernel_rfl, W.out _ ?_⟩); clear Z W X Y; simp); (try refine .n ?_)
    refine .s fun K1 K2 hK1 hK2 => ?_
    simp
    refine orr_l ⟨by kernel_rfl, .inl ⟨_, cw, ?_⟩⟩
    (try simp)
    refine hK1.out _ _ ?_
    clear hK1 hK2 K1 K2
    (try simp)
    repeat (with_reducible refine .s fun X Y Z W => ?_; simp; (first | refine Z.out _ _ ?_ | refine W.out _ ?_ | refine ⟨by kernel_rfl, W.out _ ?_⟩); clear Z W X Y; simp); (try refine .n ?_)
    refine Jt.f hK ?_
    clear hK K
    with_reducible repeat first | refine Jt.i ?_ | refine .g (by decide) ?_
    refine AW.cf rfl ?_
    with_reducible repeat first | refine Jt.i ?_ | refine .g (by decide) ?_
    refine AW.rc 20 fun K hK => ?_
    repeat (with_reducible refine .s fun X Y Z W => ?_; simp; (first | refine Z.out _ _ ?_ | refine W.out _ ?_ | refine ⟨by kernel_rfl, W.out _ ?_⟩); clear Z W X Y; simp); (try refine .n ?_)
    refine .s fun K1 K2 hK1 hK2 => ?_
    simp
    refine orr_l ⟨by kernel_rfl, .inr (.inl ⟨_, _, _, cox, ?_⟩)⟩
    (try simp)
    refine hK1.out _ _ ?_
    clear hK1 hK2 K1 K2
    (try simp)
    repeat (with_reducible refine .s fun X Y Z W => ?_; simp; (first | refine Z.out _ _ ?_ | refine W.out _ ?_ | refine ⟨by kernel_rfl, W.out _ ?_⟩); clear Z W X Y; simp); (try refine .n ?_)
    refine .s fun K1 K2 hK1 hK2 => ?_
    simp
    refine orr_l ⟨by kernel_rfl, .inr (.inl ⟨_, _, _, coy, ?_⟩)⟩
    (try simp)
    refine hK1.out _ _ ?_
    clear hK1 hK2 K1 K2
    (try simp)
    repeat (with_reducible refine .s fun X Y Z W => ?_; simp; (first | refine Z.out _ _ ?_ | refine W.out _ ?_ | refine ⟨by kernel_rfl, W.out _ ?_⟩); clear Z W X Y; simp); (try refine .n ?_)
    refine Jt.f hK ?_
    clear hK K
    with_reducible repeat first | refine Jt.i ?_ | refine .g (by decide) ?_
    refine AW.rc 40 fun K hK => ?_
    repeat (with_reducible refine .s fun X Y Z W => ?_; simp; (first | refine Z.out _ _ ?_ | refine W.out _ ?_ | refine ⟨by kernel_rfl, W.out _ ?_⟩); clear Z W X Y; simp); (try refine .n ?_)
    refine .s fun K1 K2 hK1 hK2 => ?_
    simp
    refine orr_l ⟨by kernel_rfl, .inl ⟨_, crr, ?_⟩⟩
    (try simp)
    refine hK1.out _ _ ?_
    clear hK1 hK2 K1 K2
    (try simp)
    repeat (with_reducible refine .s fun X Y Z W => ?_; simp; (first | refine Z.out _ _ ?_ | refine W.out _ ?_ | refine ⟨by kernel_rfl, W.out _ ?_⟩); clear Z W X Y; simp); (try refine .n ?_)
    refine Jt.f hK ?_
    clear hK K
    with_reducible repeat first | refine Jt.i ?_ | refine .g (by decide) ?_
    refine AW.rc 50 fun K hK => ?_
    repeat (with_reducible refine .s fun X Y Z W => ?_; simp; (first | refine Z.out _ _ ?_ | refine W.out _ ?_ | refine ⟨by kernel_rfl, W.out _ ?_⟩); clear Z W X Y; simp); (try refine .n ?_)
    refine Jt.f hK ?_
    clear hK K
    with_reducible repeat first | refine Jt.i ?_ | refine .g (by decide) ?_
    refine AW.rc 60 fun K hK => ?_
    repeat (with_reducible refine .s fun X Y Z W => ?_; simp; (first | refine Z.out _ _ ?_ | refine W.out _ ?_ | refine ⟨by kernel_rfl, W.out _ ?_⟩); clear Z W X Y; simp); (try refine .n ?_)
    refine Jt.f hK ?_
    clear hK K
    with_reducible repeat first | refine Jt.i ?_ | refine .g (by decide) ?_
    refine AW.cf rfl ?_
    with_reducible repeat first | refine Jt.i ?_ | refine .g (by decide) ?_
    refine AW.rc 80 fun K hK => ?_
    repeat (with_reducible refine .s fun X Y Z W => ?_; simp; (first | refine Z.out _ _ ?_ | refine W.out _ ?_ | refine ⟨by kernel_rfl, W.out _ ?_⟩); clear Z W X Y; simp); (try refine .n ?_)
    refine .s fun K1 K2 hK1 hK2 => ?_
    simp
    refine orr_l ⟨by kernel_rfl, .inl ⟨_, ck, ?_⟩⟩
    (try simp)
    refine hK1.out _ _ ?_
    clear hK1 hK2 K1 K2
    (try simp)
    repeat (with_reducible refine .s fun X Y Z W => ?_; simp; (first | refine Z.out _ _ ?_ | refine W.out _ ?_ | refine ⟨by kernel_rfl, W.out _ ?_⟩); clear Z W X Y; simp); (try refine .n ?_)
    refine Jt.f hK ?_
    clear hK K
    with_reducible repeat first | refine Jt.i ?_ | refine .g (by decide) ?_
    refine AW.rc 100 fun K hK => ?_
    repeat (with_reducible refine .s fun X Y Z W => ?_; simp; (first | refine Z.out _ _ ?_ | refine W.out _ ?_ | refine ⟨by kernel_rfl, W.out _ ?_⟩); clear Z W X Y; simp); (try refine .n ?_)
    refine .s fun K1 K2 hK1 hK2 => ?_
    simp
    refine orr_l ⟨by kernel_rfl, .inl ⟨_, ps, ?_⟩⟩
    (try simp)
    refine hK1.out _ _ ?_
    clear hK1 hK2 K1 K2
    (try simp)
    repeat (with_reducible refine .s fun X Y Z W => ?_; simp; (first | refine Z.out _ _ ?_ | refine W.out _ ?_ | refine ⟨by kernel_rfl, W.out _ ?_⟩); clear Z W X Y; simp); (try refine .n ?_)
    refine .s fun K1 K2 hK1 hK2 => ?_
    simp
    refine orr_l ⟨by kernel_rfl, .inl ⟨_, ts, ?_⟩⟩
    (try simp)
    refine hK1.out _ _ ?_
    clear hK1 hK2 K1 K2
    (try simp)
    repeat (with_reducible refine .s fun X Y Z W => ?_; simp; (first | refine Z.out _ _ ?_ | refine W.out _ ?_ | refine ⟨by kernel_rfl, W.out _ ?_⟩); clear Z W X Y; simp); (try refine .n ?_)
    refine Jt.f hK ?_
    clear hK K
    with_reducible repeat first | refine Jt.i ?_ | refine .g (by decide) ?_
    refine AW.cf rfl ?_
    with_reducible repeat first | refine Jt.i ?_ | refine .g (by decide) ?_
    refine AW.rc 200 fun K hK => ?_
    repeat (with_reducible refine .s fun X Y Z W => ?_; simp; (first | refine Z.out _ _ ?_ | refine W.out _ ?_ | refine ⟨by kernel_rfl, W.out _ ?_⟩); clear Z W X Y; simp); (try refine .n ?_)
    refine .s fun K1 K2 hK1 hK2 => ?_
    simp
    refine orr_l ⟨by kernel_rfl, .inl ⟨_, cn, ?_⟩⟩
    (try simp)
    refine hK1.out _ _ ?_
    clear hK1 hK2 K1 K2
    (try simp)
    repeat (with_reducible refine .s fun X Y Z W => ?_; simp; (first | refine Z.out _ _ ?_ | refine W.out _ ?_ | refine ⟨by kernel_rfl, W.out _ ?_⟩); clear Z W X Y; simp); (try refine .n ?_)
    refine Jt.f hK ?_
    clear hK K
    with_reducible repeat first | refine Jt.i ?_ | refine .g (by decide) ?_
    refine AW.rc 220 fun K hK => ?_
    repeat (with_reducible refine .s fun X Y Z W => ?_; simp; (first | refine Z.out _ _ ?_ | refine W.out _ ?_ | refine ⟨by kernel_rfl, W.out _ ?_⟩); clear Z W X Y; simp); (try refine .n ?_)
    refine .s fun K1 K2 hK1 hK2 => ?_
    simp
    refine orr_l ⟨by kernel_rfl, .inl ⟨_, cl, ?_⟩⟩
    (try simp)
    refine hK1.out _ _ ?_
    clear hK1 hK2 K1 K2
    (try simp)
    repeat (with_reducible refine .s fun X Y Z W => ?_; simp; (first | refine Z.out _ _ ?_ | refine W.out _ ?_ | refine ⟨by kernel_rfl, W.out _ ?_⟩); clear Z W X Y; simp); (try refine .n ?_)
    refine Jt.f hK ?_
    clear hK K
    with_reducible repeat first | refine Jt.i ?_ | refine .g (by decide) ?_
    refine AW.rc 240 fun K hK => ?_
    repeat (with_reducible refine .s fun X Y Z W => ?_; simp; (first | refine Z.out _ _ ?_ | refine W.out _ ?_ | refine ⟨by kernel_rfl, W.out _ ?_⟩); clear Z W X Y; simp); (try refine .n ?_)
    refine .s fun K1 K2 hK1 hK2 => ?_
    simp
    refine orr_l ⟨by kernel_rfl, .inr (.inl ⟨_, _, _, rc, ?_⟩)⟩
    (try simp)
    refine hK1.out _ _ ?_
    clear hK1 hK2 K1 K2
    (try simp)
    repeat (with_reducible refine .s fun X Y Z W => ?_; simp; (first | refine Z.out _ _ ?_ | refine W.out _ ?_ | refine ⟨by kernel_rfl, W.out _ ?_⟩); clear Z W X Y; simp); (try refine .n ?_)
    refine Jt.f hK ?_
    clear hK K
    with_reducible repeat first | refine Jt.i ?_ | refine .g (by decide) ?_
    refine AW.rc 260 fun K hK => ?_
    repeat (with_reducible refine .s fun X Y Z W => ?_; simp; (first | refine Z.out _ _ ?_ | refine W.out _ ?_ | refine ⟨by kernel_rfl, W.out _ ?_⟩); clear Z W X Y; simp); (try refine .n ?_)
    refine .s fun K1 K2 hK1 hK2 => ?_
    simp
    refine orr_l ⟨by kernel_rfl, .inl ⟨_, ceq, ?_⟩⟩
    (try simp)
    refine hK1.out _ _ ?_
    clear hK1 hK2 K1 K2
    (try simp)
    repeat (with_reducible refine .s fun X Y Z W => ?_; simp; (first | refine Z.out _ _ ?_ | refine W.out _ ?_ | refine ⟨by kernel_rfl, W.out _ ?_⟩); clear Z W X Y; simp); (try refine .n ?_)
    refine Jt.f hK ?_
    clear hK K
    with_reducible repeat first | refine Jt.i ?_ | refine .g (by decide) ?_
    refine AW.cf rfl ?_
    with_reducible repeat first | refine Jt.i ?_ | refine .g (by decide) ?_
    refine AW.rc 300 fun K hK => ?_
    repeat (with_reducible refine .s fun X Y Z W => ?_; simp; (first | refine Z.out _ _ ?_ | refine W.out _ ?_ | refine ⟨by kernel_rfl, W.out _ ?_⟩); clear Z W X Y; simp); (try refine .n ?_)
    refine Jt.f hK ?_
    clear hK K
    with_reducible repeat first | refine Jt.i ?_ | refine .g (by decide) ?_
    refine AW.cf rfl ?_
    with_reducible repeat first | refine Jt.i ?_ | refine .g (by decide) ?_
    refine AW.rc 320 fun K hK => ?_
    repeat (with_reducible refine .s fun X Y Z W => ?_; simp; (first | refine Z.out _ _ ?_ | refine W.out _ ?_ | refine ⟨by kernel_rfl, W.out _ ?_⟩); clear Z W X Y; simp); (try refine .n ?_)
    refine Jt.f hK ?_
    clear hK K
    with_reducible repeat first | refine Jt.i ?_ | refine .g (by decide) ?_
    refine AW.loop (X := { k : Nat // k ≤ qs.length }) (fun z => tlE0 x A qs z.1) (fun z => qs.length - z.1) ⟨0, by simp⟩ (view_of (vw [] [] [] []) (by simp [tlE0, tlB])) (fun z => ?_)
    obtain ⟨k, hk⟩ := z
    refine AW.at_ (fun L hL => ?_)
    simp [tlE0, tlB] at hL
    subst hL
    with_reducible repeat first | refine Jt.i ?_ | refine .g (by decide) ?_
    by_cases hgo : k < qs.length
    · have w5 : IntKind.i64.wrap ((k : Int) + 1) = ((k + 1 : Nat) : Int) := by rw [i64_ok _ (by omega) (by unfold maxI at hq; omega)]; omega
      obtain ⟨p, hpk⟩ : ∃ p, qs[k] = p := ⟨_, rfl⟩
      have ch := hhas p
      have cs := hsays p
      refine AW.rc 400 fun K hK => ?_
      repeat (with_reducible refine .s fun X Y Z W => ?_; simp [hgo]; (first | refine Z.out _ _ ?_ | refine W.out _ ?_ | refine ⟨by kernel_rfl, W.out _ ?_⟩); clear Z W X Y; simp [hgo]); (try refine .n ?_)
      refine Jt.f hK ?_
      clear hK K
      with_reducible repeat first | refine Jt.i ?_ | refine .g (by decide) ?_
      refine AW.ct rfl ?_
      with_reducible repeat first | refine Jt.i ?_ | refine .g (by decide) ?_
      refine AW.rc 410 fun K hK => ?_
      repeat (with_reducible refine .s fun X Y Z W => ?_; simp [hgo]; (first | refine Z.out _ _ ?_ | refine W.out _ ?_ | refine ⟨by kernel_rfl, W.out _ ?_⟩); clear Z W X Y; simp [hgo]); (try refine .n ?_)
      refine .s fun K1 K2 hK1 hK2 => ?_
      simp [hgo]
      refine ⟨k, PD p, rfl, by simp [hgo, hpk], ?_⟩
      refine hK1.out _ _ ?_
      clear hK1 hK2 K1 K2
      (try simp [hgo])
      repeat (with_reducible refine .s fun X Y Z W => ?_; simp [hgo]; (first | refine Z.out _ _ ?_ | refine W.out _ ?_ | refine ⟨by kernel_rfl, W.out _ ?_⟩); clear Z W X Y; simp [hgo]); (try refine .n ?_)
      refine Jt.f hK ?_
      clear hK K
      with_reducible repeat first | refine Jt.i ?_ | refine .g (by decide) ?_
      by_cases h12 : k < 12
      · have h12i : (k : Int) < 12 := by omega
        refine AW.rc 430 fun K hK => ?_
        repeat (with_reducible refine .s fun X Y Z W => ?_; simp [h12, h12i]; (first | refine Z.out _ _ ?_ | refine W.out _ ?_ | refine ⟨by kernel_rfl, W.out _ ?_⟩); clear Z W X Y; simp [h12, h12i]); (try refine .n ?_)
        refine .s fun K1 K2 hK1 hK2 => ?_
        simp [h12, h12i]
        refine orr_l ⟨by kernel_rfl, .inl ⟨_, ch, ?_⟩⟩
        (try simp [h12, h12i])
        refine hK1.out _ _ ?_
        clear hK1 hK2 K1 K2
        (try simp [h12, h12i])
        repeat (with_reducible refine .s fun X Y Z W => ?_; simp [h12, h12i]; (first | refine Z.out _ _ ?_ | refine W.out _ ?_ | refine ⟨by kernel_rfl, W.out _ ?_⟩); clear Z W X Y; simp [h12, h12i]); (try refine .n ?_)
        refine .s fun K1 K2 hK1 hK2 => ?_
        simp [h12, h12i]
        refine orr_l ⟨by kernel_rfl, .inl ⟨_, cs, ?_⟩⟩
        (try simp [h12, h12i])
        refine hK1.out _ _ ?_
        clear hK1 hK2 K1 K2
        (try simp [h12, h12i])
        repeat (with_reducible refine .s fun X Y Z W => ?_; simp [h12, h12i]; (first | refine Z.out _ _ ?_ | refine W.out _ ?_ | refine ⟨by kernel_rfl, W.out _ ?_⟩); clear Z W X Y; simp [h12, h12i]); (try refine .n ?_)
        refine ⟨chk_drawn (by kernel_rfl) (by kernel_rfl), hK.out _ ?_⟩
        clear hK K
        with_reducible repeat first | refine Jt.i ?_ | refine .g (by decide) ?_
        refine AW.cf rfl ?_
        with_reducible repeat first | refine Jt.i ?_ | refine .g (by decide) ?_
        refine AW.rc 480 fun K hK => ?_
        repeat (with_reducible refine .s fun X Y Z W => ?_; simp [w5]; (first | refine Z.out _ _ ?_ | refine W.out _ ?_ | refine ⟨by kernel_rfl, W.out _ ?_⟩); clear Z W X Y; simp [w5]); (try refine .n ?_)
        refine Jt.f hK ?_
        clear hK K
        with_reducible repeat first | refine Jt.i ?_ | refine .g (by decide) ?_
        exact NX.round ⟨k + 1, hgo⟩ (by show qs.length - (k + 1) < qs.length - k; omega) (view_of (vw [] [] [] []) (by simp [tlE0, tlB]))
      · have h12i : ¬ (k : Int) < 12 := by omega
        refine AW.rc 430 fun K hK => ?_
        repeat (with_reducible refine .s fun X Y Z W => ?_; simp [h12, h12i]; (first | refine Z.out _ _ ?_ | refine W.out _ ?_ | refine ⟨by kernel_rfl, W.out _ ?_⟩); clear Z W X Y; simp [h12, h12i]); (try refine .n ?_)
        refine ⟨chk_drawn (by kernel_rfl) (by kernel_rfl), hK.out _ ?_⟩
        clear hK K
        with_reducible repeat first | refine Jt.i ?_ | refine .g (by decide) ?_
        refine AW.cf rfl ?_
        with_reducible repeat first | refine Jt.i ?_ | refine .g (by decide) ?_
        refine AW.rc 480 fun K hK => ?_
        repeat (with_reducible refine .s fun X Y Z W => ?_; simp [w5]; (first | refine Z.out _ _ ?_ | refine W.out _ ?_ | refine ⟨by kernel_rfl, W.out _ ?_⟩); clear Z W X Y; simp [w5]); (try refine .n ?_)
        refine Jt.f hK ?_
        clear hK K
        with_reducible repeat first | refine Jt.i ?_ | refine .g (by decide) ?_
        exact NX.round ⟨k + 1, hgo⟩ (by show qs.length - (k + 1) < qs.length - k; omega) (view_of (vw [] [] [] []) (by simp [tlE0, tlB]))
    · obtain rfl : k = qs.length := by omega
      refine AW.rc 500 fun K hK => ?_
      repeat (with_reducible refine .s fun X Y Z W => ?_; simp; (first | refine Z.out _ _ ?_ | refine W.out _ ?_ | refine ⟨by kernel_rfl, W.out _ ?_⟩); clear Z W X Y; simp); (try refine .n ?_)
      refine Jt.f hK ?_
      clear hK K
      with_reducible repeat first | refine Jt.i ?_ | refine .g (by decide) ?_
      refine AW.cf rfl ?_
      with_reducible repeat first | refine Jt.i ?_ | refine .g (by decide) ?_
      refine AW.rc 510 fun K hK => ?_
      repeat (with_reducible refine .s fun X Y Z W => ?_; simp; (first | refine Z.out _ _ ?_ | refine W.out _ ?_ | refine ⟨by kernel_rfl, W.out _ ?_⟩); clear Z W X Y; simp); (try refine .n ?_)
      refine .s fun K1 K2 hK1 hK2 => ?_
      simp
      refine orr_l ⟨by kernel_rfl, .inr (.inr (.inr (.inl ⟨k0, ?_⟩)))⟩
      (try simp)
      refine hK1.out _ _ ?_
      clear hK1 hK2 K1 K2
      (try simp)
      repeat (with_reducible refine .s fun X Y Z W => ?_; simp; (first | refine Z.out _ _ ?_ | refine W.out _ ?_ | refine ⟨by kernel_rfl, W.out _ ?_⟩); clear Z W X Y; simp); (try refine .n ?_)
      refine Jt.f hK ?_
      clear hK K
      with_reducible repeat first | refine Jt.i ?_ | refine .g (by decide) ?_
      refine AW.rc 530 fun K hK => ?_
      repeat (with_reducible refine .s fun X Y Z W => ?_; simp; (first | refine Z.out _ _ ?_ | refine W.out _ ?_ | refine ⟨by kernel_rfl, W.out _ ?_⟩); clear Z W X Y; simp); (try refine .n ?_)
      refine .s fun K1 K2 hK1 hK2 => ?_
      simp
      refine orr_l ⟨by kernel_rfl, .inr (.inl ⟨_, _, _, cox, ?_⟩)⟩
      (try simp)
      refine hK1.out _ _ ?_
      clear hK1 hK2 K1 K2
      (try simp)
      repeat (with_reducible refine .s fun X Y Z W => ?_; simp; (first | refine Z.out _ _ ?_ | refine W.out _ ?_ | refine ⟨by kernel_rfl, W.out _ ?_⟩); clear Z W X Y; simp); (try refine .n ?_)
      refine .s fun K1 K2 hK1 hK2 => ?_
      simp
      refine orr_l ⟨by kernel_rfl, .inl ⟨_, csA, ?_⟩⟩
      (try simp)
      refine hK1.out _ _ ?_
      clear hK1 hK2 K1 K2
      (try simp)
      repeat (with_reducible refine .s fun X Y Z W => ?_; simp; (first | refine Z.out _ _ ?_ | refine W.out _ ?_ | refine ⟨by kernel_rfl, W.out _ ?_⟩); clear Z W X Y; simp); (try refine .n ?_)
      refine Jt.f hK ?_
      clear hK K
      with_reducible repeat first | refine Jt.i ?_ | refine .g (by decide) ?_
      refine nx_ret (T := ty) (rs := [.tmp 6]) (zs := []) (ds := [dB true]) (rr := []) (.inr rfl) rfl (by kernel_rfl) (by kernel_rfl) (by simp) rfl
  | true =>
    rw [hts] at crr ck
    have hwL : ∀ t ∈ A, wfT t := fun t ht => (hF t ht).2.2
    have pL : pairsN A ≤ 832 := by
      have := pairsN_bound (l := A) (c := 32) (fun t ht => by have := hF t ht; unfold pairsT; omega)
      omega
    have cn := content_ct A hts hs hwL (by omega)
    have rc := rcontent11_ct A (by omega) (fun t ht => by have := hF t ht; omega) (by omega)
    have hhas' := fun p => thas_ok A p (fun t ht => by have := hF t ht; omega) hts
    have hsays' := fun p => says_ct A p
    have hone := fun p => says_one A p
    obtain ⟨C, hC⟩ : ∃ C, C = whichL A 1 := ⟨_, rfl⟩
    have hCl : C.length ≤ 832 := by rw [hC]; exact Nat.le_trans (whichL_len A 1) pL
    have cln : C = [] → Ct Try.prog 94 [.c (TsD A)] none (.tup [.c (.v (.slice none 0 0)), dI 0]) := fun h => least_nil A hs hwL (by omega) hts (by rw [← hC]; exact h)
    have cl1 : C ≠ [] → Ct Try.prog 94 [.c (TsD A)] none (.tup [.c (TsD [(C, [])]), dI 0]) := fun h => by
      have := least_one A hs hwL (by omega) hts (by rw [← hC]; exact h)
      rw [← hC] at this
      exact this
    rw [← hC] at cn rc
    have ceq := equal_ct C C
    rw [decide_eq_true rfl] at ceq
    have hhas : ∀ p, Ct Try.prog 95 [.c (TsD A), PV p] none (.one (dB (decide (saysL A p = 1)))) := fun p => by
      have := hhas' p
      rw [show decide (saidF A p = some 1) = decide (saysL A p = 1) by simp [hone]] at this
      exact this
    have hsays : ∀ p, Ct Try.prog 96 [.c (TsD A), PV p] none (.one (dI (saysL A p))) := hsays'
    clear hhas' hsays' hone
    by_cases h0 : C = []
    · have cl := cln h0
      subst h0
      clear cl1 cln hC
      refine ct_intro Try.func20 rfl Try.ntmps20 (by simp) (fun W0 Z => ?_)
      with_reducible repeat first | refine Jt.i ?_ | refine .g (by decide) ?_
      refine AW.at_ (fun L hL => ?_)
      simp at hL
      subst hL
      refine AW.rc 1 fun K hK => ?_
      repeat (with_reducible refine .s fun X Y Z W => ?_; simp; (first | refine Z.out _ _ ?_ | refine W.out _ ?_ | refine ⟨by kernel_rfl, W.out _ ?_⟩); clear Z W X Y; simp); (try refine .n ?_)
      refine Jt.f hK ?_
      clear hK K
      with_reducible repeat first | refine Jt.i ?_ | refine .g (by decide) ?_
      refine AW.rc 10 fun K hK => ?_
      repeat (with_reducible refine .s fun X Y Z W => ?_; simp; (first | refine Z.out _ _ ?_ | refine W.out _ ?_ | refine ⟨by kernel_rfl, W.out _ ?_⟩); clear Z W X Y; simp); (try refine .n ?_)
      refine .s fun K1 K2 hK1 hK2 => ?_
      simp
      refine orr_l ⟨by kernel_rfl, .inl ⟨_, cw, ?_⟩⟩
      (try simp)
      refine hK1.out _ _ ?_
      clear hK1 hK2 K1 K2
      (try simp)
      repeat (with_reducible refine .s fun X Y Z W => ?_; simp; (first | refine Z.out _ _ ?_ | refine W.out _ ?_ | refine ⟨by kernel_rfl, W.out _ ?_⟩); clear Z W X Y; simp); (try refine .n ?_)
      refine Jt.f hK ?_
      clear hK K
      with_reducible repeat first | refine Jt.i ?_ | refine .g (by decide) ?_
      refine AW.cf rfl ?_
      with_reducible repeat first | refine Jt.i ?_ | refine .g (by decide) ?_
      refine AW.rc 20 fun K hK => ?_
      repeat (with_reducible refine .s fun X Y Z W => ?_; simp; (first | refine Z.out _ _ ?_ | refine W.out _ ?_ | refine ⟨by kernel_rfl, W.out _ ?_⟩); clear Z W X Y; simp); (try refine .n ?_)
      refine .s fun K1 K2 hK1 hK2 => ?_
      simp
      refine orr_l ⟨by kernel_rfl, .inr (.inl ⟨_, _, _, cox, ?_⟩)⟩
      (try simp)
      refine hK1.out _ _ ?_
      clear hK1 hK2 K1 K2
      (try simp)
      repeat (with_reducible refine .s fun X Y Z W => ?_; simp; (first | refine Z.out _ _ ?_ | refine W.out _ ?_ | refine ⟨by kernel_rfl, W.out _ ?_⟩); clear Z W X Y; simp); (try refine .n ?_)
      refine .s fun K1 K2 hK1 hK2 => ?_
      simp
      refine orr_l ⟨by kernel_rfl, .inr (.inl ⟨_, _, _, coy, ?_⟩)⟩
      (try simp)
      refine hK1.out _ _ ?_
      clear hK1 hK2 K1 K2
      (try simp)
      repeat (with_reducible refine .s fun X Y Z W => ?_; simp; (first | refine Z.out _ _ ?_ | refine W.out _ ?_ | refine ⟨by kernel_rfl, W.out _ ?_⟩); clear Z W X Y; simp); (try refine .n ?_)
      refine Jt.f hK ?_
      clear hK K
      with_reducible repeat first | refine Jt.i ?_ | refine .g (by decide) ?_
      refine AW.rc 40 fun K hK => ?_
      repeat (with_reducible refine .s fun X Y Z W => ?_; simp; (first | refine Z.out _ _ ?_ | refine W.out _ ?_ | refine ⟨by kernel_rfl, W.out _ ?_⟩); clear Z W X Y; simp); (try refine .n ?_)
      refine .s fun K1 K2 hK1 hK2 => ?_
      simp
      refine orr_l ⟨by kernel_rfl, .inl ⟨_, crr, ?_⟩⟩
      (try simp)
      refine hK1.out _ _ ?_
      clear hK1 hK2 K1 K2
      (try simp)
      repeat (with_reducible refine .s fun X Y Z W => ?_; simp; (first | refine Z.out _ _ ?_ | refine W.out _ ?_ | refine ⟨by kernel_rfl, W.out _ ?_⟩); clear Z W X Y; simp); (try refine .n ?_)
      refine Jt.f hK ?_
      clear hK K
      with_reducible repeat first | refine Jt.i ?_ | refine .g (by decide) ?_
      refine AW.rc 50 fun K hK => ?_
      repeat (with_reducible refine .s fun X Y Z W => ?_; simp; (first | refine Z.out _ _ ?_ | refine W.out _ ?_ | refine ⟨by kernel_rfl, W.out _ ?_⟩); clear Z W X Y; simp); (try refine .n ?_)
      refine Jt.f hK ?_
      clear hK K
      with_reducible repeat first | refine Jt.i ?_ | refine .g (by decide) ?_
      refine AW.rc 60 fun K hK => ?_
      repeat (with_reducible refine .s fun X Y Z W => ?_; simp; (first | refine Z.out _ _ ?_ | refine W.out _ ?_ | refine ⟨by kernel_rfl, W.out _ ?_⟩); clear Z W X Y; simp); (try refine .n ?_)
      refine Jt.f hK ?_
      clear hK K
      with_reducible repeat first | refine Jt.i ?_ | refine .g (by decide) ?_
      refine AW.ct rfl ?_
      with_reducible repeat first | refine Jt.i ?_ | refine .g (by decide) ?_
      refine AW.rc 70 fun K hK => ?_
      repeat (with_reducible refine .s fun X Y Z W => ?_; simp; (first | refine Z.out _ _ ?_ | refine W.out _ ?_ | refine ⟨by kernel_rfl, W.out _ ?_⟩); clear Z W X Y; simp); (try refine .n ?_)
      refine Jt.f hK ?_
      clear hK K
      with_reducible repeat first | refine Jt.i ?_ | refine .g (by decide) ?_
      refine AW.rc 80 fun K hK => ?_
      repeat (with_reducible refine .s fun X Y Z W => ?_; simp; (first | refine Z.out _ _ ?_ | refine W.out _ ?_ | refine ⟨by kernel_rfl, W.out _ ?_⟩); clear Z W X Y; simp); (try refine .n ?_)
      refine .s fun K1 K2 hK1 hK2 => ?_
      simp
      refine orr_l ⟨by kernel_rfl, .inl ⟨_, ck, ?_⟩⟩
      (try simp)
      refine hK1.out _ _ ?_
      clear hK1 hK2 K1 K2
      (try simp)
      repeat (with_reducible refine .s fun X Y Z W => ?_; simp; (first | refine Z.out _ _ ?_ | refine W.out _ ?_ | refine ⟨by kernel_rfl, W.out _ ?_⟩); clear Z W X Y; simp); (try refine .n ?_)
      refine Jt.f hK ?_
      clear hK K
      with_reducible repeat first | refine Jt.i ?_ | refine .g (by decide) ?_
      refine AW.rc 100 fun K hK => ?_
      repeat (with_reducible refine .s fun X Y Z W => ?_; simp; (first | refine Z.out _ _ ?_ | refine W.out _ ?_ | refine ⟨by kernel_rfl, W.out _ ?_⟩); clear Z W X Y; simp); (try refine .n ?_)
      refine .s fun K1 K2 hK1 hK2 => ?_
      simp
      refine orr_l ⟨by kernel_rfl, .inl ⟨_, ps, ?_⟩⟩
      (try simp)
      refine hK1.out _ _ ?_
      clear hK1 hK2 K1 K2
      (try simp)
      repeat (with_reducible refine .s fun X Y Z W => ?_; simp; (first | refine Z.out _ _ ?_ | refine W.out _ ?_ | refine ⟨by kernel_rfl, W.out _ ?_⟩); clear Z W X Y; simp); (try refine .n ?_)
      refine .s fun K1 K2 hK1 hK2 => ?_
      simp
      refine orr_l ⟨by kernel_rfl, .inl ⟨_, ts, ?_⟩⟩
      (try simp)
      refine hK1.out _ _ ?_
      clear hK1 hK2 K1 K2
      (try simp)
      repeat (with_reducible refine .s fun X Y Z W => ?_; simp; (first | refine Z.out _ _ ?_ | refine W.out _ ?_ | refine ⟨by kernel_rfl, W.out _ ?_⟩); clear Z W X Y; simp); (try refine .n ?_)
      refine Jt.f hK ?_
      clear hK K
      with_reducible repeat first | refine Jt.i ?_ | refine .g (by decide) ?_
      refine AW.cf rfl ?_
      with_reducible repeat first | refine Jt.i ?_ | refine .g (by decide) ?_
      refine AW.rc 200 fun K hK => ?_
      repeat (with_reducible refine .s fun X Y Z W => ?_; simp; (first | refine Z.out _ _ ?_ | refine W.out _ ?_ | refine ⟨by kernel_rfl, W.out _ ?_⟩); clear Z W X Y; simp); (try refine .n ?_)
      refine .s fun K1 K2 hK1 hK2 => ?_
      simp
      refine orr_l ⟨by kernel_rfl, .inr (.inl ⟨_, _, _, cn, ?_⟩)⟩
      (try simp)
      refine hK1.out _ _ ?_
      clear hK1 hK2 K1 K2
      (try simp)
      repeat (with_reducible refine .s fun X Y Z W => ?_; simp; (first | refine Z.out _ _ ?_ | refine W.out _ ?_ | refine ⟨by kernel_rfl, W.out _ ?_⟩); clear Z W X Y; simp); (try refine .n ?_)
      refine Jt.f hK ?_
      clear hK K
      with_reducible repeat first | refine Jt.i ?_ | refine .g (by decide) ?_
      refine AW.rc 220 fun K hK => ?_
      repeat (with_reducible refine .s fun X Y Z W => ?_; simp; (first | refine Z.out _ _ ?_ | refine W.out _ ?_ | refine ⟨by kernel_rfl, W.out _ ?_⟩); clear Z W X Y; simp); (try refine .n ?_)
      refine .s fun K1 K2 hK1 hK2 => ?_
      simp
      refine orr_l ⟨by kernel_rfl, .inl ⟨_, cl, ?_⟩⟩
      (try simp)
      refine hK1.out _ _ ?_
      clear hK1 hK2 K1 K2
      (try simp)
      repeat (with_reducible refine .s fun X Y Z W => ?_; simp; (first | refine Z.out _ _ ?_ | refine W.out _ ?_ | refine ⟨by kernel_rfl, W.out _ ?_⟩); clear Z W X Y; simp); (try refine .n ?_)
      refine Jt.f hK ?_
      clear hK K
      with_reducible repeat first | refine Jt.i ?_ | refine .g (by decide) ?_
      refine AW.rc 240 fun K hK => ?_
      repeat (with_reducible refine .s fun X Y Z W => ?_; simp; (first | refine Z.out _ _ ?_ | refine W.out _ ?_ | refine ⟨by kernel_rfl, W.out _ ?_⟩); clear Z W X Y; simp); (try refine .n ?_)
      refine .s fun K1 K2 hK1 hK2 => ?_
      simp
      refine orr_l ⟨by kernel_rfl, .inr (.inl ⟨_, _, _, rc, ?_⟩)⟩
      (try simp)
      refine hK1.out _ _ ?_
      clear hK1 hK2 K1 K2
      (try simp)
      repeat (with_reducible refine .s fun X Y Z W => ?_; simp; (first | refine Z.out _ _ ?_ | refine W.out _ ?_ | refine ⟨by kernel_rfl, W.out _ ?_⟩); clear Z W X Y; simp); (try refine .n ?_)
      refine Jt.f hK ?_
      clear hK K
      with_reducible repeat first | refine Jt.i ?_ | refine .g (by decide) ?_
      refine AW.rc 260 fun K hK => ?_
      repeat (with_reducible refine .s fun X Y Z W => ?_; simp; (first | refine Z.out _ _ ?_ | refine W.out _ ?_ | refine ⟨by kernel_rfl, W.out _ ?_⟩); clear Z W X Y; simp); (try refine .n ?_)
      refine .s fun K1 K2 hK1 hK2 => ?_
      simp
      refine orr_l ⟨by kernel_rfl, .inl ⟨_, ceq, ?_⟩⟩
      (try simp)
      refine hK1.out _ _ ?_
      clear hK1 hK2 K1 K2
      (try simp)
      repeat (with_reducible refine .s fun X Y Z W => ?_; simp; (first | refine Z.out _ _ ?_ | refine W.out _ ?_ | refine ⟨by kernel_rfl, W.out _ ?_⟩); clear Z W X Y; simp); (try refine .n ?_)
      refine Jt.f hK ?_
      clear hK K
      with_reducible repeat first | refine Jt.i ?_ | refine .g (by decide) ?_
      refine AW.cf rfl ?_
      with_reducible repeat first | refine Jt.i ?_ | refine .g (by decide) ?_
      refine AW.rc 300 fun K hK => ?_
      repeat (with_reducible refine .s fun X Y Z W => ?_; simp; (first | refine Z.out _ _ ?_ | refine W.out _ ?_ | refine ⟨by kernel_rfl, W.out _ ?_⟩); clear Z W X Y; simp); (try refine .n ?_)
      refine Jt.f hK ?_
      clear hK K
      with_reducible repeat first | refine Jt.i ?_ | refine .g (by decide) ?_
      refine AW.cf rfl ?_
      with_reducible repeat first | refine Jt.i ?_ | refine .g (by decide) ?_
      refine AW.rc 320 fun K hK => ?_
      repeat (with_reducible refine .s fun X Y Z W => ?_; simp; (first | refine Z.out _ _ ?_ | refine W.out _ ?_ | refine ⟨by kernel_rfl, W.out _ ?_⟩); clear Z W X Y; simp); (try refine .n ?_)
      refine Jt.f hK ?_
      clear hK K
      with_reducible repeat first | refine Jt.i ?_ | refine .g (by decide) ?_
      refine AW.loop (X := { k : Nat // k ≤ qs.length }) (fun z => tlE1 x A qs z.1) (fun z => qs.length - z.1) ⟨0, by simp⟩ (view_of (vw [] [] [] []) (by simp [tlE1, tlB])) (fun z => ?_)
      obtain ⟨k, hk⟩ := z
      refine AW.at_ (fun L hL => ?_)
      simp [tlE1, tlB] at hL
      subst hL
      with_reducible repeat first | refine Jt.i ?_ | refine .g (by decide) ?_
      by_cases hgo : k < qs.length
      · have w5 : IntKind.i64.wrap ((k : Int) + 1) = ((k + 1 : Nat) : Int) := by rw [i64_ok _ (by omega) (by unfold maxI at hq; omega)]; omega
        obtain ⟨p, hpk⟩ : ∃ p, qs[k] = p := ⟨_, rfl⟩
        have ch := hhas p
        have cs := hsays p
        refine AW.rc 400 fun K hK => ?_
        repeat (with_reducible refine .s fun X Y Z W => ?_; simp [hgo]; (first | refine Z.out _ _ ?_ | refine W.out _ ?_ | refine ⟨by kernel_rfl, W.out _ ?_⟩); clear Z W X Y; simp [hgo]); (try refine .n ?_)
        refine Jt.f hK ?_
        clear hK K
        with_reducible repeat first | refine Jt.i ?_ | refine .g (by decide) ?_
        refine AW.ct rfl ?_
        with_reducible repeat first | refine Jt.i ?_ | refine .g (by decide) ?_
        refine AW.rc 410 fun K hK => ?_
        repeat (with_reducible refine .s fun X Y Z W => ?_; simp [hgo]; (first | refine Z.out _ _ ?_ | refine W.out _ ?_ | refine ⟨by kernel_rfl, W.out _ ?_⟩); clear Z W X Y; simp [hgo]); (try refine .n ?_)
        refine .s fun K1 K2 hK1 hK2 => ?_
        simp [hgo]
        refine ⟨k, PD p, rfl, by simp [hgo, hpk], ?_⟩
        refine hK1.out _ _ ?_
        clear hK1 hK2 K1 K2
        (try simp [hgo])
        repeat (with_reducible refine .s fun X Y Z W => ?_; simp [hgo]; (first | refine Z.out _ _ ?_ | refine W.out _ ?_ | refine ⟨by kernel_rfl, W.out _ ?_⟩); clear Z W X Y; simp [hgo]); (try refine .n ?_)
        refine Jt.f hK ?_
        clear hK K
        with_reducible repeat first | refine Jt.i ?_ | refine .g (by decide) ?_
        by_cases h12 : k < 12
        · have h12i : (k : Int) < 12 := by omega
          refine AW.rc 430 fun K hK => ?_
          repeat (with_reducible refine .s fun X Y Z W => ?_; simp [h12, h12i]; (first | refine Z.out _ _ ?_ | refine W.out _ ?_ | refine ⟨by kernel_rfl, W.out _ ?_⟩); clear Z W X Y; simp [h12, h12i]); (try refine .n ?_)
          refine .s fun K1 K2 hK1 hK2 => ?_
          simp [h12, h12i]
          refine orr_l ⟨by kernel_rfl, .inl ⟨_, ch, ?_⟩⟩
          (try simp [h12, h12i])
          refine hK1.out _ _ ?_
          clear hK1 hK2 K1 K2
          (try simp [h12, h12i])
          repeat (with_reducible refine .s fun X Y Z W => ?_; simp [h12, h12i]; (first | refine Z.out _ _ ?_ | refine W.out _ ?_ | refine ⟨by kernel_rfl, W.out _ ?_⟩); clear Z W X Y; simp [h12, h12i]); (try refine .n ?_)
          refine .s fun K1 K2 hK1 hK2 => ?_
          simp [h12, h12i]
          refine orr_l ⟨by kernel_rfl, .inl ⟨_, cs, ?_⟩⟩
          (try simp [h12, h12i])
          refine hK1.out _ _ ?_
          clear hK1 hK2 K1 K2
          (try simp [h12, h12i])
          repeat (with_reducible refine .s fun X Y Z W => ?_; simp [h12, h12i]; (first | refine Z.out _ _ ?_ | refine W.out _ ?_ | refine ⟨by kernel_rfl, W.out _ ?_⟩); clear Z W X Y; simp [h12, h12i]); (try refine .n ?_)
          refine ⟨chk_drawn (by kernel_rfl) (by kernel_rfl), hK.out _ ?_⟩
          clear hK K
          with_reducible repeat first | refine Jt.i ?_ | refine .g (by decide) ?_
          refine AW.cf rfl ?_
          with_reducible repeat first | refine Jt.i ?_ | refine .g (by decide) ?_
          refine AW.rc 480 fun K hK => ?_
          repeat (with_reducible refine .s fun X Y Z W => ?_; simp [w5]; (first | refine Z.out _ _ ?_ | refine W.out _ ?_ | refine ⟨by kernel_rfl, W.out _ ?_⟩); clear Z W X Y; simp [w5]); (try refine .n ?_)
          refine Jt.f hK ?_
          clear hK K
          with_reducible repeat first | refine Jt.i ?_ | refine .g (by decide) ?_
          exact NX.round ⟨k + 1, hgo⟩ (by show qs.length - (k + 1) < qs.length - k; omega) (view_of (vw [] [] [] []) (by simp [tlE1, tlB]))
        · have h12i : ¬ (k : Int) < 12 := by omega
          refine AW.rc 430 fun K hK => ?_
          repeat (with_reducible refine .s fun X Y Z W => ?_; simp [h12, h12i]; (first | refine Z.out _ _ ?_ | refine W.out _ ?_ | refine ⟨by kernel_rfl, W.out _ ?_⟩); clear Z W X Y; simp [h12, h12i]); (try refine .n ?_)
          refine ⟨chk_drawn (by kernel_rfl) (by kernel_rfl), hK.out _ ?_⟩
          clear hK K
          with_reducible repeat first | refine Jt.i ?_ | refine .g (by decide) ?_
          refine AW.cf rfl ?_
          with_reducible repeat first | refine Jt.i ?_ | refine .g (by decide) ?_
          refine AW.rc 480 fun K hK => ?_
          repeat (with_reducible refine .s fun X Y Z W => ?_; simp [w5]; (first | refine Z.out _ _ ?_ | refine W.out _ ?_ | refine ⟨by kernel_rfl, W.out _ ?_⟩); clear Z W X Y; simp [w5]); (try refine .n ?_)
          refine Jt.f hK ?_
          clear hK K
          with_reducible repeat first | refine Jt.i ?_ | refine .g (by decide) ?_
          exact NX.round ⟨k + 1, hgo⟩ (by show qs.length - (k + 1) < qs.length - k; omega) (view_of (vw [] [] [] []) (by simp [tlE1, tlB]))
      · obtain rfl : k = qs.length := by omega
        refine AW.rc 500 fun K hK => ?_
        repeat (with_reducible refine .s fun X Y Z W => ?_; simp; (first | refine Z.out _ _ ?_ | refine W.out _ ?_ | refine ⟨by kernel_rfl, W.out _ ?_⟩); clear Z W X Y; simp); (try refine .n ?_)
        refine Jt.f hK ?_
        clear hK K
        with_reducible repeat first | refine Jt.i ?_ | refine .g (by decide) ?_
        refine AW.cf rfl ?_
        with_reducible repeat first | refine Jt.i ?_ | refine .g (by decide) ?_
        refine AW.rc 510 fun K hK => ?_
        repeat (with_reducible refine .s fun X Y Z W => ?_; simp; (first | refine Z.out _ _ ?_ | refine W.out _ ?_ | refine ⟨by kernel_rfl, W.out _ ?_⟩); clear Z W X Y; simp); (try refine .n ?_)
        refine .s fun K1 K2 hK1 hK2 => ?_
        simp
        refine orr_l ⟨by kernel_rfl, .inr (.inr (.inr (.inl ⟨k0, ?_⟩)))⟩
        (try simp)
        refine hK1.out _ _ ?_
        clear hK1 hK2 K1 K2
        (try simp)
        repeat (with_reducible refine .s fun X Y Z W => ?_; simp; (first | refine Z.out _ _ ?_ | refine W.out _ ?_ | refine ⟨by kernel_rfl, W.out _ ?_⟩); clear Z W X Y; simp); (try refine .n ?_)
        refine Jt.f hK ?_
        clear hK K
        with_reducible repeat first | refine Jt.i ?_ | refine .g (by decide) ?_
        refine AW.rc 530 fun K hK => ?_
        repeat (with_reducible refine .s fun X Y Z W => ?_; simp; (first | refine Z.out _ _ ?_ | refine W.out _ ?_ | refine ⟨by kernel_rfl, W.out _ ?_⟩); clear Z W X Y; simp); (try refine .n ?_)
        refine .s fun K1 K2 hK1 hK2 => ?_
        simp
        refine orr_l ⟨by kernel_rfl, .inr (.inl ⟨_, _, _, cox, ?_⟩)⟩
        (try simp)
        refine hK1.out _ _ ?_
        clear hK1 hK2 K1 K2
        (try simp)
        repeat (with_reducible refine .s fun X Y Z W => ?_; simp; (first | refine Z.out _ _ ?_ | refine W.out _ ?_ | refine ⟨by kernel_rfl, W.out _ ?_⟩); clear Z W X Y; simp); (try refine .n ?_)
        refine .s fun K1 K2 hK1 hK2 => ?_
        simp
        refine orr_l ⟨by kernel_rfl, .inl ⟨_, csA, ?_⟩⟩
        (try simp)
        refine hK1.out _ _ ?_
        clear hK1 hK2 K1 K2
        (try simp)
        repeat (with_reducible refine .s fun X Y Z W => ?_; simp; (first | refine Z.out _ _ ?_ | refine W.out _ ?_ | refine ⟨by kernel_rfl, W.out _ ?_⟩); clear Z W X Y; simp); (try refine .n ?_)
        refine Jt.f hK ?_
        clear hK K
        with_reducible repeat first | refine Jt.i ?_ | refine .g (by decide) ?_
        refine nx_ret (T := ty) (rs := [.tmp 6]) (zs := []) (ds := [dB true]) (rr := []) (.inr rfl) rfl (by kernel_rfl) (by kernel_rfl) (by simp) rfl
    · have cl := cl1 h0
      clear cl1 cln hC
      have hC0 : C.length ≠ 0 := fun e => h0 (List.eq_nil_of_length_eq_zero e)
      have hC1 : ¬ (C.length : Int) = 0 := by omega
      have hC2 : 0 < C.length := by omega
      have hC3 : (0 : Int) < (C.length : Int) := by omega
      have kk := spoil11_kt [(C, [])] (by simp) (fun t ht => by simp at ht; subst ht; exact ⟨by show C.length ≤ _; omega, by simp⟩)
      have cse := tsame_ct [(C, [])] [(C, [])]
      rw [decide_eq_true rfl] at cse
      refine ct_intro Try.func20 rfl Try.ntmps20 (by simp) (fun W0 Z => ?_)
      with_reducible repeat first | refine Jt.i ?_ | refine .g (by decide) ?_
      refine AW.at_ (fun L hL => ?_)
      simp at hL
      subst hL
      refine AW.rc 1 fun K hK => ?_
      repeat (with_reducible refine .s fun X Y Z W => ?_; simp; (first | refine Z.out _ _ ?_ | refine W.out _ ?_ | refine ⟨by kernel_rfl, W.out _ ?_⟩); clear Z W X Y; simp); (try refine .n ?_)
      refine Jt.f hK ?_
      clear hK K
      with_reducible repeat first | refine Jt.i ?_ | refine .g (by decide) ?_
      refine AW.rc 10 fun K hK => ?_
      repeat (with_reducible refine .s fun X Y Z W => ?_; simp; (first | refine Z.out _ _ ?_ | refine W.out _ ?_ | refine ⟨by kernel_rfl, W.out _ ?_⟩); clear Z W X Y; simp); (try refine .n ?_)
      refine .s fun K1 K2 hK1 hK2 => ?_
      simp
      refine orr_l ⟨by kernel_rfl, .inl ⟨_, cw, ?_⟩⟩
      (try simp)
      refine hK1.out _ _ ?_
      clear hK1 hK2 K1 K2
      (try simp)
      repeat (with_reducible refine .s fun X Y Z W => ?_; simp; (first | refine Z.out _ _ ?_ | refine W.out _ ?_ | refine ⟨by kernel_rfl, W.out _ ?_⟩); clear Z W X Y; simp); (try refine .n ?_)
      refine Jt.f hK ?_
      clear hK K
      with_reducible repeat first | refine Jt.i ?_ | refine .g (by decide) ?_
      refine AW.cf rfl ?_
      with_reducible repeat first | refine Jt.i ?_ | refine .g (by decide) ?_
      refine AW.rc 20 fun K hK => ?_
      repeat (with_reducible refine .s fun X Y Z W => ?_; simp; (first | refine Z.out _ _ ?_ | refine W.out _ ?_ | refine ⟨by kernel_rfl, W.out _ ?_⟩); clear Z W X Y; simp); (try refine .n ?_)
      refine .s fun K1 K2 hK1 hK2 => ?_
      simp
      refine orr_l ⟨by kernel_rfl, .inr (.inl ⟨_, _, _, cox, ?_⟩)⟩
      (try simp)
      refine hK1.out _ _ ?_
      clear hK1 hK2 K1 K2
      (try simp)
      repeat (with_reducible refine .s fun X Y Z W => ?_; simp; (first | refine Z.out _ _ ?_ | refine W.out _ ?_ | refine ⟨by kernel_rfl, W.out _ ?_⟩); clear Z W X Y; simp); (try refine .n ?_)
      refine .s fun K1 K2 hK1 hK2 => ?_
      simp
      refine orr_l ⟨by kernel_rfl, .inr (.inl ⟨_, _, _, coy, ?_⟩)⟩
      (try simp)
      refine hK1.out _ _ ?_
      clear hK1 hK2 K1 K2
      (try simp)
      repeat (with_reducible refine .s fun X Y Z W => ?_; simp; (first | refine Z.out _ _ ?_ | refine W.out _ ?_ | refine ⟨by kernel_rfl, W.out _ ?_⟩); clear Z W X Y; simp); (try refine .n ?_)
      refine Jt.f hK ?_
      clear hK K
      with_reducible repeat first | refine Jt.i ?_ | refine .g (by decide) ?_
      refine AW.rc 40 fun K hK => ?_
      repeat (with_reducible refine .s fun X Y Z W => ?_; simp; (first | refine Z.out _ _ ?_ | refine W.out _ ?_ | refine ⟨by kernel_rfl, W.out _ ?_⟩); clear Z W X Y; simp); (try refine .n ?_)
      refine .s fun K1 K2 hK1 hK2 => ?_
      simp
      refine orr_l ⟨by kernel_rfl, .inl ⟨_, crr, ?_⟩⟩
      (try simp)
      refine hK1.out _ _ ?_
      clear hK1 hK2 K1 K2
      (try simp)
      repeat (with_reducible refine .s fun X Y Z W => ?_; simp; (first | refine Z.out _ _ ?_ | refine W.out _ ?_ | refine ⟨by kernel_rfl, W.out _ ?_⟩); clear Z W X Y; simp); (try refine .n ?_)
      refine Jt.f hK ?_
      clear hK K
      with_reducible repeat first | refine Jt.i ?_ | refine .g (by decide) ?_
      refine AW.rc 50 fun K hK => ?_
      repeat (with_reducible refine .s fun X Y Z W => ?_; simp; (first | refine Z.out _ _ ?_ | refine W.out _ ?_ | refine ⟨by kernel_rfl, W.out _ ?_⟩); clear Z W X Y; simp); (try refine .n ?_)
      refine Jt.f hK ?_
      clear hK K
      with_reducible repeat first | refine Jt.i ?_ | refine .g (by decide) ?_
      refine AW.rc 60 fun K hK => ?_
      repeat (with_reducible refine .s fun X Y Z W => ?_; simp; (first | refine Z.out _ _ ?_ | refine W.out _ ?_ | refine ⟨by kernel_rfl, W.out _ ?_⟩); clear Z W X Y; simp); (try refine .n ?_)
      refine Jt.f hK ?_
      clear hK K
      with_reducible repeat first | refine Jt.i ?_ | refine .g (by decide) ?_
      refine AW.ct rfl ?_
      with_reducible repeat first | refine Jt.i ?_ | refine .g (by decide) ?_
      refine AW.rc 70 fun K hK => ?_
      repeat (with_reducible refine .s fun X Y Z W => ?_; simp; (first | refine Z.out _ _ ?_ | refine W.out _ ?_ | refine ⟨by kernel_rfl, W.out _ ?_⟩); clear Z W X Y; simp); (try refine .n ?_)
      refine Jt.f hK ?_
      clear hK K
      with_reducible repeat first | refine Jt.i ?_ | refine .g (by decide) ?_
      refine AW.rc 80 fun K hK => ?_
      repeat (with_reducible refine .s fun X Y Z W => ?_; simp; (first | refine Z.out _ _ ?_ | refine W.out _ ?_ | refine ⟨by kernel_rfl, W.out _ ?_⟩); clear Z W X Y; simp); (try refine .n ?_)
      refine .s fun K1 K2 hK1 hK2 => ?_
      simp
      refine orr_l ⟨by kernel_rfl, .inl ⟨_, ck, ?_⟩⟩
      (try simp)
      refine hK1.out _ _ ?_
      clear hK1 hK2 K1 K2
      (try simp)
      repeat (with_reducible refine .s fun X Y Z W => ?_; simp; (first | refine Z.out _ _ ?_ | refine W.out _ ?_ | refine ⟨by kernel_rfl, W.out _ ?_⟩); clear Z W X Y; simp); (try refine .n ?_)
      refine Jt.f hK ?_
      clear hK K
      with_reducible repeat first | refine Jt.i ?_ | refine .g (by decide) ?_
      refine AW.rc 100 fun K hK => ?_
      repeat (with_reducible refine .s fun X Y Z W => ?_; simp; (first | refine Z.out _ _ ?_ | refine W.out _ ?_ | refine ⟨by kernel_rfl, W.out _ ?_⟩); clear Z W X Y; simp); (try refine .n ?_)
      refine .s fun K1 K2 hK1 hK2 => ?_
      simp
      refine orr_l ⟨by kernel_rfl, .inl ⟨_, ps, ?_⟩⟩
      (try simp)
      refine hK1.out _ _ ?_
      clear hK1 hK2 K1 K2
      (try simp)
      repeat (with_reducible refine .s fun X Y Z W => ?_; simp; (first | refine Z.out _ _ ?_ | refine W.out _ ?_ | refine ⟨by kernel_rfl, W.out _ ?_⟩); clear Z W X Y; simp); (try refine .n ?_)
      refine .s fun K1 K2 hK1 hK2 => ?_
      simp
      refine orr_l ⟨by kernel_rfl, .inl ⟨_, ts, ?_⟩⟩
      (try simp)
      refine hK1.out _ _ ?_
      clear hK1 hK2 K1 K2
      (try simp)
      repeat (with_reducible refine .s fun X Y Z W => ?_; simp; (first | refine Z.out _ _ ?_ | refine W.out _ ?_ | refine ⟨by kernel_rfl, W.out _ ?_⟩); clear Z W X Y; simp); (try refine .n ?_)
      refine Jt.f hK ?_
      clear hK K
      with_reducible repeat first | refine Jt.i ?_ | refine .g (by decide) ?_
      refine AW.cf rfl ?_
      with_reducible repeat first | refine Jt.i ?_ | refine .g (by decide) ?_
      refine AW.rc 200 fun K hK => ?_
      repeat (with_reducible refine .s fun X Y Z W => ?_; simp; (first | refine Z.out _ _ ?_ | refine W.out _ ?_ | refine ⟨by kernel_rfl, W.out _ ?_⟩); clear Z W X Y; simp); (try refine .n ?_)
      refine .s fun K1 K2 hK1 hK2 => ?_
      simp
      refine orr_l ⟨by kernel_rfl, .inr (.inl ⟨_, _, _, cn, ?_⟩)⟩
      (try simp)
      refine hK1.out _ _ ?_
      clear hK1 hK2 K1 K2
      (try simp)
      repeat (with_reducible refine .s fun X Y Z W => ?_; simp; (first | refine Z.out _ _ ?_ | refine W.out _ ?_ | refine ⟨by kernel_rfl, W.out _ ?_⟩); clear Z W X Y; simp); (try refine .n ?_)
      refine Jt.f hK ?_
      clear hK K
      with_reducible repeat first | refine Jt.i ?_ | refine .g (by decide) ?_
      refine AW.rc 220 fun K hK => ?_
      repeat (with_reducible refine .s fun X Y Z W => ?_; simp; (first | refine Z.out _ _ ?_ | refine W.out _ ?_ | refine ⟨by kernel_rfl, W.out _ ?_⟩); clear Z W X Y; simp); (try refine .n ?_)
      refine .s fun K1 K2 hK1 hK2 => ?_
      simp
      refine orr_l ⟨by kernel_rfl, .inl ⟨_, cl, ?_⟩⟩
      (try simp)
      refine hK1.out _ _ ?_
      clear hK1 hK2 K1 K2
      (try simp)
      repeat (with_reducible refine .s fun X Y Z W => ?_; simp; (first | refine Z.out _ _ ?_ | refine W.out _ ?_ | refine ⟨by kernel_rfl, W.out _ ?_⟩); clear Z W X Y; simp); (try refine .n ?_)
      refine Jt.f hK ?_
      clear hK K
      with_reducible repeat first | refine Jt.i ?_ | refine .g (by decide) ?_
      refine AW.rc 240 fun K hK => ?_
      repeat (with_reducible refine .s fun X Y Z W => ?_; simp; (first | refine Z.out _ _ ?_ | refine W.out _ ?_ | refine ⟨by kernel_rfl, W.out _ ?_⟩); clear Z W X Y; simp); (try refine .n ?_)
      refine .s fun K1 K2 hK1 hK2 => ?_
      simp
      refine orr_l ⟨by kernel_rfl, .inr (.inl ⟨_, _, _, rc, ?_⟩)⟩
      (try simp)
      refine hK1.out _ _ ?_
      clear hK1 hK2 K1 K2
      (try simp)
      repeat (with_reducible refine .s fun X Y Z W => ?_; simp; (first | refine Z.out _ _ ?_ | refine W.out _ ?_ | refine ⟨by kernel_rfl, W.out _ ?_⟩); clear Z W X Y; simp); (try refine .n ?_)
      refine Jt.f hK ?_
      clear hK K
      with_reducible repeat first | refine Jt.i ?_ | refine .g (by decide) ?_
      refine AW.rc 260 fun K hK => ?_
      repeat (with_reducible refine .s fun X Y Z W => ?_; simp; (first | refine Z.out _ _ ?_ | refine W.out _ ?_ | refine ⟨by kernel_rfl, W.out _ ?_⟩); clear Z W X Y; simp); (try refine .n ?_)
      refine .s fun K1 K2 hK1 hK2 => ?_
      simp
      refine orr_l ⟨by kernel_rfl, .inl ⟨_, ceq, ?_⟩⟩
      (try simp)
      refine hK1.out _ _ ?_
      clear hK1 hK2 K1 K2
      (try simp)
      repeat (with_reducible refine .s fun X Y Z W => ?_; simp; (first | refine Z.out _ _ ?_ | refine W.out _ ?_ | refine ⟨by kernel_rfl, W.out _ ?_⟩); clear Z W X Y; simp); (try refine .n ?_)
      refine Jt.f hK ?_
      clear hK K
      with_reducible repeat first | refine Jt.i ?_ | refine .g (by decide) ?_
      refine AW.cf rfl ?_
      with_reducible repeat first | refine Jt.i ?_ | refine .g (by decide) ?_
      refine AW.rc 300 fun K hK => ?_
      repeat (with_reducible refine .s fun X Y Z W => ?_; simp [h0, hC0, hC1, hC2, hC3]; (first | refine Z.out _ _ ?_ | refine W.out _ ?_ | refine ⟨by kernel_rfl, W.out _ ?_⟩); clear Z W X Y; simp [h0, hC0, hC1, hC2, hC3]); (try refine .n ?_)
      refine .s fun K1 K2 hK1 hK2 => ?_
      simp [h0, hC0, hC1, hC2, hC3]
      refine orr_l ⟨by kernel_rfl, .inl ⟨_, cse, ?_⟩⟩
      (try simp [h0, hC0, hC1, hC2, hC3])
      refine hK1.out _ _ ?_
      clear hK1 hK2 K1 K2
      (try simp [h0, hC0, hC1, hC2, hC3])
      repeat (with_reducible refine .s fun X Y Z W => ?_; simp [h0, hC0, hC1, hC2, hC3]; (first | refine Z.out _ _ ?_ | refine W.out _ ?_ | refine ⟨by kernel_rfl, W.out _ ?_⟩); clear Z W X Y; simp [h0, hC0, hC1, hC2, hC3]); (try refine .n ?_)
      refine Jt.f hK ?_
      clear hK K
      with_reducible repeat first | refine Jt.i ?_ | refine .g (by decide) ?_
      refine AW.cf rfl ?_
      with_reducible repeat first | refine Jt.i ?_ | refine .g (by decide) ?_
      refine AW.rc 320 fun K hK => ?_
      repeat (with_reducible refine .s fun X Y Z W => ?_; simp; (first | refine Z.out _ _ ?_ | refine W.out _ ?_ | refine ⟨by kernel_rfl, W.out _ ?_⟩); clear Z W X Y; simp); (try refine .n ?_)
      refine Jt.f hK ?_
      clear hK K
      with_reducible repeat first | refine Jt.i ?_ | refine .g (by decide) ?_
      refine AW.loop (X := { k : Nat // k ≤ qs.length }) (fun z => (tlE2 C) x A qs z.1) (fun z => qs.length - z.1) ⟨0, by simp⟩ (view_of (vw [] [] [] []) (by simp [tlE2, tlB])) (fun z => ?_)
      obtain ⟨k, hk⟩ := z
      refine AW.at_ (fun L hL => ?_)
      simp [tlE2, tlB] at hL
      subst hL
      with_reducible repeat first | refine Jt.i ?_ | refine .g (by decide) ?_
      by_cases hgo : k < qs.length
      · have w5 : IntKind.i64.wrap ((k : Int) + 1) = ((k + 1 : Nat) : Int) := by rw [i64_ok _ (by omega) (by unfold maxI at hq; omega)]; omega
        obtain ⟨p, hpk⟩ : ∃ p, qs[k] = p := ⟨_, rfl⟩
        have ch := hhas p
        have cs := hsays p
        refine AW.rc 400 fun K hK => ?_
        repeat (with_reducible refine .s fun X Y Z W => ?_; simp [hgo]; (first | refine Z.out _ _ ?_ | refine W.out _ ?_ | refine ⟨by kernel_rfl, W.out _ ?_⟩); clear Z W X Y; simp [hgo]); (try refine .n ?_)
        refine Jt.f hK ?_
        clear hK K
        with_reducible repeat first | refine Jt.i ?_ | refine .g (by decide) ?_
        refine AW.ct rfl ?_
        with_reducible repeat first | refine Jt.i ?_ | refine .g (by decide) ?_
        refine AW.rc 410 fun K hK => ?_
        repeat (with_reducible refine .s fun X Y Z W => ?_; simp [hgo]; (first | refine Z.out _ _ ?_ | refine W.out _ ?_ | refine ⟨by kernel_rfl, W.out _ ?_⟩); clear Z W X Y; simp [hgo]); (try refine .n ?_)
        refine .s fun K1 K2 hK1 hK2 => ?_
        simp [hgo]
        refine ⟨k, PD p, rfl, by simp [hgo, hpk], ?_⟩
        refine hK1.out _ _ ?_
        clear hK1 hK2 K1 K2
        (try simp [hgo])
        repeat (with_reducible refine .s fun X Y Z W => ?_; simp [hgo]; (first | refine Z.out _ _ ?_ | refine W.out _ ?_ | refine ⟨by kernel_rfl, W.out _ ?_⟩); clear Z W X Y; simp [hgo]); (try refine .n ?_)
        refine Jt.f hK ?_
        clear hK K
        with_reducible repeat first | refine Jt.i ?_ | refine .g (by decide) ?_
        by_cases h12 : k < 12
        · have h12i : (k : Int) < 12 := by omega
          refine AW.rc 430 fun K hK => ?_
          repeat (with_reducible refine .s fun X Y Z W => ?_; simp [h12, h12i]; (first | refine Z.out _ _ ?_ | refine W.out _ ?_ | refine ⟨by kernel_rfl, W.out _ ?_⟩); clear Z W X Y; simp [h12, h12i]); (try refine .n ?_)
          refine .s fun K1 K2 hK1 hK2 => ?_
          simp [h12, h12i]
          refine orr_l ⟨by kernel_rfl, .inl ⟨_, ch, ?_⟩⟩
          (try simp [h12, h12i])
          refine hK1.out _ _ ?_
          clear hK1 hK2 K1 K2
          (try simp [h12, h12i])
          repeat (with_reducible refine .s fun X Y Z W => ?_; simp [h12, h12i]; (first | refine Z.out _ _ ?_ | refine W.out _ ?_ | refine ⟨by kernel_rfl, W.out _ ?_⟩); clear Z W X Y; simp [h12, h12i]); (try refine .n ?_)
          refine .s fun K1 K2 hK1 hK2 => ?_
          simp [h12, h12i]
          refine orr_l ⟨by kernel_rfl, .inl ⟨_, cs, ?_⟩⟩
          (try simp [h12, h12i])
          refine hK1.out _ _ ?_
          clear hK1 hK2 K1 K2
          (try simp [h12, h12i])
          repeat (with_reducible refine .s fun X Y Z W => ?_; simp [h12, h12i]; (first | refine Z.out _ _ ?_ | refine W.out _ ?_ | refine ⟨by kernel_rfl, W.out _ ?_⟩); clear Z W X Y; simp [h12, h12i]); (try refine .n ?_)
          refine ⟨chk_drawn (by kernel_rfl) (by kernel_rfl), hK.out _ ?_⟩
          clear hK K
          with_reducible repeat first | refine Jt.i ?_ | refine .g (by decide) ?_
          refine AW.cf rfl ?_
          with_reducible repeat first | refine Jt.i ?_ | refine .g (by decide) ?_
          refine AW.rc 480 fun K hK => ?_
          repeat (with_reducible refine .s fun X Y Z W => ?_; simp [w5]; (first | refine Z.out _ _ ?_ | refine W.out _ ?_ | refine ⟨by kernel_rfl, W.out _ ?_⟩); clear Z W X Y; simp [w5]); (try refine .n ?_)
          refine Jt.f hK ?_
          clear hK K
          with_reducible repeat first | refine Jt.i ?_ | refine .g (by decide) ?_
          exact NX.round ⟨k + 1, hgo⟩ (by show qs.length - (k + 1) < qs.length - k; omega) (view_of (vw [] [] [] []) (by simp [tlE2, tlB]))
        · have h12i : ¬ (k : Int) < 12 := by omega
          refine AW.rc 430 fun K hK => ?_
          repeat (with_reducible refine .s fun X Y Z W => ?_; simp [h12, h12i]; (first | refine Z.out _ _ ?_ | refine W.out _ ?_ | refine ⟨by kernel_rfl, W.out _ ?_⟩); clear Z W X Y; simp [h12, h12i]); (try refine .n ?_)
          refine ⟨chk_drawn (by kernel_rfl) (by kernel_rfl), hK.out _ ?_⟩
          clear hK K
          with_reducible repeat first | refine Jt.i ?_ | refine .g (by decide) ?_
          refine AW.cf rfl ?_
          with_reducible repeat first | refine Jt.i ?_ | refine .g (by decide) ?_
          refine AW.rc 480 fun K hK => ?_
          repeat (with_reducible refine .s fun X Y Z W => ?_; simp [w5]; (first | refine Z.out _ _ ?_ | refine W.out _ ?_ | refine ⟨by kernel_rfl, W.out _ ?_⟩); clear Z W X Y; simp [w5]); (try refine .n ?_)
          refine Jt.f hK ?_
          clear hK K
          with_reducible repeat first | refine Jt.i ?_ | refine .g (by decide) ?_
          exact NX.round ⟨k + 1, hgo⟩ (by show qs.length - (k + 1) < qs.length - k; omega) (view_of (vw [] [] [] []) (by simp [tlE2, tlB]))
      · obtain rfl : k = qs.length := by omega
        refine AW.rc 500 fun K hK => ?_
        repeat (with_reducible refine .s fun X Y Z W => ?_; simp; (first | refine Z.out _ _ ?_ | refine W.out _ ?_ | refine ⟨by kernel_rfl, W.out _ ?_⟩); clear Z W X Y; simp); (try refine .n ?_)
        refine Jt.f hK ?_
        clear hK K
        with_reducible repeat first | refine Jt.i ?_ | refine .g (by decide) ?_
        refine AW.cf rfl ?_
        with_reducible repeat first | refine Jt.i ?_ | refine .g (by decide) ?_
        refine AW.rc 510 fun K hK => ?_
        repeat (with_reducible refine .s fun X Y Z W => ?_; simp; (first | refine Z.out _ _ ?_ | refine W.out _ ?_ | refine ⟨by kernel_rfl, W.out _ ?_⟩); clear Z W X Y; simp); (try refine .n ?_)
        refine .s fun K1 K2 hK1 hK2 => ?_
        simp
        refine orr_l ⟨by kernel_rfl, .inr (.inr (.inr (.inl ⟨kk, ?_⟩)))⟩
        (try simp)
        refine hK1.out _ _ ?_
        clear hK1 hK2 K1 K2
        (try simp)
        repeat (with_reducible refine .s fun X Y Z W => ?_; simp; (first | refine Z.out _ _ ?_ | refine W.out _ ?_ | refine ⟨by kernel_rfl, W.out _ ?_⟩); clear Z W X Y; simp); (try refine .n ?_)
        refine Jt.f hK ?_
        clear hK K
        with_reducible repeat first | refine Jt.i ?_ | refine .g (by decide) ?_
        refine AW.rc 530 fun K hK => ?_
        repeat (with_reducible refine .s fun X Y Z W => ?_; simp; (first | refine Z.out _ _ ?_ | refine W.out _ ?_ | refine ⟨by kernel_rfl, W.out _ ?_⟩); clear Z W X Y; simp); (try refine .n ?_)
        refine .s fun K1 K2 hK1 hK2 => ?_
        simp
        refine orr_l ⟨by kernel_rfl, .inr (.inl ⟨_, _, _, cox, ?_⟩)⟩
        (try simp)
        refine hK1.out _ _ ?_
        clear hK1 hK2 K1 K2
        (try simp)
        repeat (with_reducible refine .s fun X Y Z W => ?_; simp; (first | refine Z.out _ _ ?_ | refine W.out _ ?_ | refine ⟨by kernel_rfl, W.out _ ?_⟩); clear Z W X Y; simp); (try refine .n ?_)
        refine .s fun K1 K2 hK1 hK2 => ?_
        simp
        refine orr_l ⟨by kernel_rfl, .inl ⟨_, csA, ?_⟩⟩
        (try simp)
        refine hK1.out _ _ ?_
        clear hK1 hK2 K1 K2
        (try simp)
        repeat (with_reducible refine .s fun X Y Z W => ?_; simp; (first | refine Z.out _ _ ?_ | refine W.out _ ?_ | refine ⟨by kernel_rfl, W.out _ ?_⟩); clear Z W X Y; simp); (try refine .n ?_)
        refine Jt.f hK ?_
        clear hK K
        with_reducible repeat first | refine Jt.i ?_ | refine .g (by decide) ?_
        refine nx_ret (T := ty) (rs := [.tmp 6]) (zs := []) (ds := [dB true]) (rr := []) (.inr rfl) rfl (by kernel_rfl) (by kernel_rfl) (by simp) rfl
end Go.Proofs.Ytlkdkhmdmgchbaa
