/- The second logic: chapter 11: the law TiersSquash. -/
import Derived.Test.YtlkdkhmdmgchbaaTF
import Derived.Test.YtlkdkhmdmgchbaaTD
namespace Go.Proofs.Ytlkdkhmdmgchbaa
set_option linter.unusedSimpArgs false
set_option linter.unusedVariables false
open Go.RowKit
attribute [local simp ↓] gav_bool gav_undef arun_nil ob_some kva_av kfree_free khfree_free khown_own klive_live knm_false chk_true ya_true gsel_tt gsel_ff gsel_tf gsel_ft vb_bool vi_int vstr_string avps_ptr avps_seg avp_ptr avagg_agg avtup_tup avb_bool avown_own shs_struct shsa_struct shsa_arr sharr_arr shl_slice shla_slice shla_arr shls_slice shls_str shi_int bc_true bc_false hd1_cons opc_some opc_none opn_some opn_none unc_not unc_neg gd_none gd_some as_move as_assign as_pick as_bin as_un as_conv as_load as_faddr as_field as_extract as_iaddr as_slice as_alloc as_box as_store as_build as_rows as_call as_append as_lookup as_mapUpdate as_makeMap as_range as_next as_entry as_index as_fn as_len as_min as_max stMove stPick stBin stUn stConv stLoad stFaddr stField stExtract stIaddr stSlice stAlloc stBox stStore stBuild stIndex stRows stCall stAppend stFn stLen stMin stMax opd_tmp opd_const opd_func rawL_nil rawL_cons raw_c raw_st raw_a opr_e zr_nil zr_cons lvd_live hod_own obd_some obd_none kvd_av chd_true vid_int lk_cons lk_nil ins_nil ins_cons cells_zero cells_succ spread1_c spread1_own spread1_ptr spread1_fn spread1_seg spreadL_nil spreadL_cons spread_agg spread_c spread_own spread_seg spread_ptr spread_fn ex_zero ex_succ ops_e opb_none opb_int spreadD_agg spreadD_c spreadD_own spreadD_seg fillO_nil fillO_cons argsOf_nil argsOf_cons dvOf_c dvOf_seg dvOf_own dvOf_agg zrL_nil zrL_cons hdd_c hdd_seg hdd_own clz_e clv_raw clv_f callD_e dst0_n dst0_nil dst0_own goneH_e capc_ptr capc_seg capc_c capN_nil capN_cons capD_nil capD_cons deadZ_nil deadZ_cons
attribute [local simp] dok_some dok_none dflt_tmp dflt_vt dflt_cell dflt_zn dflt_nm dflt_hd dflt_df puts_nil puts_cons wr_some wr_none cst_agg cst_int cst_bool cst_string cst_slice cst_tuple cst_nilFunc cst_pointer cst_func bin_add bin_sub bin_mul bin_quo bin_rem bin_eql bin_neq bin_lss bin_leq bin_gtr bin_geq bin_bool bin_aggs binT_bool binT_aggs shbd_bool eqb_eql eqb_neq bin_slice bin_str_eql bin_str_neq bin_str_lss bin_str_add nz_v nz_n nz_s nz_p nz_f nz_st atz_v atz_n atz_s atz_p atz_f atz_st atz_agg atR_one atR_tup crow_nil crow_cons slc_c slc_n slc_own slc_nil raws setR placesT_nil placesT_cons zc chunk zsAll ocD_v ocD_n ocD_s ocD_p ocD_f ocD_st nrm_v nrm_n nrm_s nrm_p nrm_f nrm_st isV_one isV_tup isV_c isV_agg isV_v isV_n isV_s isV_p isV_f isV_st argRows Sh.agg zds_nil zds_e zds_v zds_s vcells_agg vcells_int vcells_bool vcells_string vcells_slice vcells_pointer toList_lit map_nilL map_consL nzr_e rowsOc_nil rowsOc_cons rowsOc_RD nzr_RD foks_nil foks_cons fok_tmp fok_vt fok_cell fok_nm fok_zn fok_hd fok_df Fv_c Fv_seg Fv_tup Fv_agg Fv_ptr Fv_ptrs Fv_fn Fv_fnd Fv_own Fv_ownd Fv_nown Fv_vown FvL_nil FvL_cons kvp_av hdp_some subz frz Uz Nm Uh vw_nb vw_zo vw_zf vw_hb tb_nil tb_cons fzc_nil fzc_cons fzcaps_nil fzcaps_cons ty2 ty3 ty4 ty5 ty6 ty7 ty8 ty9 ty10 ty11 ty12 ty13 ty14 ty15 ty16 ty17 ty18 ty19 ty20 ty21 ty22 ty23 ty24 ty25 ty26 ty27 ty30 ty40 ty48 ty50 ty51 ty52 ty55 ty57 ty62 ty63 ty85 ty94 ty101 ty121 ty122 ty123 ty124 ty125 ty126 ty128 ty148 ty149 ty151 ty164 ty165 ty179 ty182 ty196 ty203 ty205 ty209 ty211 ty215 ty216 ty217 ty218 ty219 ty220 ty221 ty223 ty224 ty225 ty226 ty227 Value.oneCell'
set_option maxRecDepth 100000
set_option maxHeartbeats 8000000 in
theorem rsquash11_co (l : List Tr) (i j : Nat) (hij : i < j) (hj : j ≤ l.length) (hl : l.length ≤ 1000) (hs : ∀ t ∈ l, t.1.length ≤ 100000 ∧ t.2.length ≤ 100000) (hn : pairsN l ≤ 400000) :
    Co Try.prog 89 [.c (TsD l), dI i, dI j] 24 2 ((sqL l i j).map fun t => [RD t.1, RD t.2]) := by
  have hmem : ∀ t ∈ (l.take j).drop i, t ∈ l := fun t ht => mid_mem ht
  have hml : ((l.take j).drop i).length ≤ 1000 := by rw [List.length_drop, List.length_take]; omega
  have cj := rjoined11_ct ((l.take j).drop i) (decide (i = 0)) (by omega) (fun t ht => hs t (hmem t ht)) (by have := sub_pairs l i j; omega)
  rw [sqL_is]
  have e1 : (l.map fun t => [RD t.1, RD t.2]).take i = (l.take i).map fun t => [RD t.1, RD t.2] := by rw [List.map_take]
  have e2 : (l.map fun t => [RD t.1, RD t.2]).drop j = (l.drop j).map fun t => [RD t.1, RD t.2] := by rw [List.map_drop]
  have e3 : ((l.map fun t => [RD t.1, RD t.2]).take j).drop i = ((l.take j).drop i).map fun t => [RD t.1, RD t.2] := by rw [List.map_drop, List.map_take]
  have l1 : (l.take i).length ≤ 1000 := by rw [List.length_take]; omega
  have l2 : (l.drop j).length ≤ 1000 := by rw [List.length_drop]; omega
  obtain ⟨P1, hP1⟩ : ∃ P1, l.take i = P1 := ⟨_, rfl⟩
  obtain ⟨P2, hP2⟩ : ∃ P2, l.drop j = P2 := ⟨_, rfl⟩
  rw [hP1] at e1 l1
  rw [hP2] at e2 l2
  rw [hP1, hP2]
  generalize (l.take j).drop i = Q at *
  generalize jnL Q (decide (i = 0)) = J at *
  have hil : i ≤ l.length := by omega
  have er : ((P1 ++ ([J] ++ P2)).map fun t => [RD t.1, RD t.2]) = (P1.map fun t => [RD t.1, RD t.2]) ++ [RD J.1, RD J.2] :: P2.map fun t => [RD t.1, RD t.2] := by simp
  rw [er]
  have o1 : rowsOc (P1.map fun t => [RD t.1, RD t.2]) := by have := rowsOc_TsD P1; simpa using this
  have o2 : rowsOc (P2.map fun t => [RD t.1, RD t.2]) := by have := rowsOc_TsD P2; simpa using this
  have l1' : (P1.map fun t => [RD t.1, RD t.2]).length ≤ 1000 := by simpa using l1
  have l2' : (P2.map fun t => [RD t.1, RD t.2]).length ≤ 1000 := by simpa using l2
  obtain ⟨R1, hR1⟩ : ∃ R1, (P1.map fun t => [RD t.1, RD t.2]) = R1 := ⟨_, rfl⟩
  obtain ⟨R2, hR2⟩ : ∃ R2, (P2.map fun t => [RD t.1, RD t.2]) = R2 := ⟨_, rfl⟩
  rw [hR1] at e1 o1 l1' ⊢
  rw [hR2] at e2 o2 l2' ⊢
  clear hR1 hR2 er l1 l2 hP1 hP2
  have vv : ∀ R : List (List D), (∀ (x : List D), x ∈ R → ∀ (y : D), y ∈ x → y.isV = true) ∨ ¬ ∀ (x : List D), x ∈ R → ∀ (y : D), y ∈ x → y.isV = true := fun R => Classical.em _
  rcases vv R1 with v1 | v1
  · rcases vv R2 with v2 | v2
    · refine co_intro Try.func89 rfl Try.ntmps89 (by simp) (fun W0 Z => ?_)
      with_reducible repeat first | refine Jt.i ?_ | refine .g (by decide) ?_
      refine AW.at_ (fun L hL => ?_)
      simp at hL
      subst hL
      refine AW.rc 1 fun K hK => ?_
      repeat (with_reducible refine .s fun X Y Z W => ?_; simp; (first | refine Z.out _ _ ?_ | refine W.out _ ?_ | refine ⟨by kernel_rfl, W.out _ ?_⟩); clear Z W X Y; simp); (try refine .n ?_)
      refine Jt.f hK ?_
      clear hK K
      with_reducible repeat first | refine Jt.i ?_ | refine .g (by decide) ?_
      refine AW.rc 10 fun K hK => ?_
      repeat (with_reducible refine .s fun X Y Z W => ?_; simp; (first | refine Z.out _ _ ?_ | refine W.out _ ?_ | refine ⟨by kernel_rfl, W.out _ ?_⟩); clear Z W X Y; simp); (try refine .n ?_)
      refine .s fun K1 K2 hK1 hK2 => ?_
      simp
      refine slice_take (by simpa using hil) ?_
      refine hK1.out _ _ ?_
      clear hK1 hK2 K1 K2
      (try simp)
      repeat (with_reducible refine .s fun X Y Z W => ?_; simp; (first | refine Z.out _ _ ?_ | refine W.out _ ?_ | refine ⟨by kernel_rfl, W.out _ ?_⟩); clear Z W X Y; simp); (try refine .n ?_)
      rw [e1]
      refine .s fun K1 K2 hK1 hK2 => ?_
      simp [o1, if_pos v1]
      refine ya_mk (by (simp [maxI]; omega)) ?_
      (try simp [o1, if_pos v1])
      refine hK1.out _ _ ?_
      clear hK1 hK2 K1 K2
      (try simp [o1, if_pos v1])
      repeat (with_reducible refine .s fun X Y Z W => ?_; simp [o1, if_pos v1]; (first | refine Z.out _ _ ?_ | refine W.out _ ?_ | refine ⟨by kernel_rfl, W.out _ ?_⟩); clear Z W X Y; simp [o1, if_pos v1]); (try refine .n ?_)
      refine Jt.f hK ?_
      clear hK K
      with_reducible repeat first | refine Jt.i ?_ | refine .g (by decide) ?_
      refine AW.rc 30 fun K hK => ?_
      repeat (with_reducible refine .s fun X Y Z W => ?_; simp; (first | refine Z.out _ _ ?_ | refine W.out _ ?_ | refine ⟨by kernel_rfl, W.out _ ?_⟩); clear Z W X Y; simp); (try refine .n ?_)
      refine .s fun K1 K2 hK1 hK2 => ?_
      simp
      refine slice_mid (Nat.le_of_lt hij) (by simpa using hj) ?_
      refine hK1.out _ _ ?_
      clear hK1 hK2 K1 K2
      (try simp)
      repeat (with_reducible refine .s fun X Y Z W => ?_; simp; (first | refine Z.out _ _ ?_ | refine W.out _ ?_ | refine ⟨by kernel_rfl, W.out _ ?_⟩); clear Z W X Y; simp); (try refine .n ?_)
      rw [e3]
      refine .s fun K1 K2 hK1 hK2 => ?_
      simp
      refine orr_l ⟨by kernel_rfl, .inl ⟨_, cj, ?_⟩⟩
      (try simp)
      refine hK1.out _ _ ?_
      clear hK1 hK2 K1 K2
      (try simp)
      repeat (with_reducible refine .s fun X Y Z W => ?_; simp; (first | refine Z.out _ _ ?_ | refine W.out _ ?_ | refine ⟨by kernel_rfl, W.out _ ?_⟩); clear Z W X Y; simp); (try refine .n ?_)
      refine .s fun K1 K2 hK1 hK2 => ?_
      simp
      refine ya_mk (by (simp [maxI]; omega)) ?_
      (try simp)
      refine hK1.out _ _ ?_
      clear hK1 hK2 K1 K2
      (try simp)
      repeat (with_reducible refine .s fun X Y Z W => ?_; simp; (first | refine Z.out _ _ ?_ | refine W.out _ ?_ | refine ⟨by kernel_rfl, W.out _ ?_⟩); clear Z W X Y; simp); (try refine .n ?_)
      refine Jt.f hK ?_
      clear hK K
      with_reducible repeat first | refine Jt.i ?_ | refine .g (by decide) ?_
      refine AW.rc 50 fun K hK => ?_
      repeat (with_reducible refine .s fun X Y Z W => ?_; simp; (first | refine Z.out _ _ ?_ | refine W.out _ ?_ | refine ⟨by kernel_rfl, W.out _ ?_⟩); clear Z W X Y; simp); (try refine .n ?_)
      refine .s fun K1 K2 hK1 hK2 => ?_
      simp
      refine slice_from (by simpa using hj) ?_
      refine hK1.out _ _ ?_
      clear hK1 hK2 K1 K2
      (try simp)
      repeat (with_reducible refine .s fun X Y Z W => ?_; simp; (first | refine Z.out _ _ ?_ | refine W.out _ ?_ | refine ⟨by kernel_rfl, W.out _ ?_⟩); clear Z W X Y; simp); (try refine .n ?_)
      rw [e2]
      refine .s fun K1 K2 hK1 hK2 => ?_
      simp [o2, if_pos v2]
      refine ya_mk (by (simp [maxI]; omega)) ?_
      (try simp [o2, if_pos v2])
      refine hK1.out _ _ ?_
      clear hK1 hK2 K1 K2
      (try simp [o2, if_pos v2])
      repeat (with_reducible refine .s fun X Y Z W => ?_; simp [o2, if_pos v2]; (first | refine Z.out _ _ ?_ | refine W.out _ ?_ | refine ⟨by kernel_rfl, W.out _ ?_⟩); clear Z W X Y; simp [o2, if_pos v2]); (try refine .n ?_)
      refine Jt.f hK ?_
      clear hK K
      with_reducible repeat first | refine Jt.i ?_ | refine .g (by decide) ?_
      exact nx_retw (t := 6) (n := 54) (y := 54) (zs := [38, 37, 37]) (rr := [(.zn 54, .zn .live), (.zn 38, .zn .live), (.zn 37, .zn .live), (.zn 37, .zn .live)]) (.inr rfl) rfl (by kernel_rfl) (by kernel_rfl) (by kernel_rfl) (by decide) rfl
    · refine co_intro Try.func89 rfl Try.ntmps89 (by simp) (fun W0 Z => ?_)
      with_reducible repeat first | refine Jt.i ?_ | refine .g (by decide) ?_
      refine AW.at_ (fun L hL => ?_)
      simp at hL
      subst hL
      refine AW.rc 1 fun K hK => ?_
      repeat (with_reducible refine .s fun X Y Z W => ?_; simp [o2, if_pos v2]; (first | refine Z.out _ _ ?_ | refine W.out _ ?_ | refine ⟨by kernel_rfl, W.out _ ?_⟩); clear Z W X Y; simp [o2, if_pos v2]); (try refine .n ?_)
      refine Jt.f hK ?_
      clear hK K
      with_reducible repeat first | refine Jt.i ?_ | refine .g (by decide) ?_
      refine AW.rc 10 fun K hK => ?_
      repeat (with_reducible refine .s fun X Y Z W => ?_; simp [o2, if_pos v2]; (first | refine Z.out _ _ ?_ | refine W.out _ ?_ | refine ⟨by kernel_rfl, W.out _ ?_⟩); clear Z W X Y; simp [o2, if_pos v2]); (try refine .n ?_)
      refine .s fun K1 K2 hK1 hK2 => ?_
      simp [o2, if_pos v2]
      refine slice_take (by simpa using hil) ?_
      refine hK1.out _ _ ?_
      clear hK1 hK2 K1 K2
      (try simp [o2, if_pos v2])
      repeat (with_reducible refine .s fun X Y Z W => ?_; simp [o2, if_pos v2]; (first | refine Z.out _ _ ?_ | refine W.out _ ?_ | refine ⟨by kernel_rfl, W.out _ ?_⟩); clear Z W X Y; simp [o2, if_pos v2]); (try refine .n ?_)
      rw [e1]
      refine .s fun K1 K2 hK1 hK2 => ?_
      simp [o1, if_pos v1]
      refine ya_mk (by (simp [maxI]; omega)) ?_
      (try simp [o1, if_pos v1])
      refine hK1.out _ _ ?_
      clear hK1 hK2 K1 K2
      (try simp [o1, if_pos v1])
      repeat (with_reducible refine .s fun X Y Z W => ?_; simp [o1, if_pos v1]; (first | refine Z.out _ _ ?_ | refine W.out _ ?_ | refine ⟨by kernel_rfl, W.out _ ?_⟩); clear Z W X Y; simp [o1, if_pos v1]); (try refine .n ?_)
      refine Jt.f hK ?_
      clear hK K
      with_reducible repeat first | refine Jt.i ?_ | refine .g (by decide) ?_
      refine AW.rc 30 fun K hK => ?_
      repeat (with_reducible refine .s fun X Y Z W => ?_; simp; (first | refine Z.out _ _ ?_ | refine W.out _ ?_ | refine ⟨by kernel_rfl, W.out _ ?_⟩); clear Z W X Y; simp); (try refine .n ?_)
      refine .s fun K1 K2 hK1 hK2 => ?_
      simp
      refine slice_mid (Nat.le_of_lt hij) (by simpa using hj) ?_
      refine hK1.out _ _ ?_
      clear hK1 hK2 K1 K2
      (try simp)
      repeat (with_reducible refine .s fun X Y Z W => ?_; simp; (first | refine Z.out _ _ ?_ | refine W.out _ ?_ | refine ⟨by kernel_rfl, W.out _ ?_⟩); clear Z W X Y; simp); (try refine .n ?_)
      rw [e3]
      refine .s fun K1 K2 hK1 hK2 => ?_
      simp
      refine orr_l ⟨by kernel_rfl, .inl ⟨_, cj, ?_⟩⟩
      (try simp)
      refine hK1.out _ _ ?_
      clear hK1 hK2 K1 K2
      (try simp)
      repeat (with_reducible refine .s fun X Y Z W => ?_; simp; (first | refine Z.out _ _ ?_ | refine W.out _ ?_ | refine ⟨by kernel_rfl, W.out _ ?_⟩); clear Z W X Y; simp); (try refine .n ?_)
      refine .s fun K1 K2 hK1 hK2 => ?_
      simp
      refine ya_mk (by (simp [maxI]; omega)) ?_
      (try simp)
      refine hK1.out _ _ ?_
      clear hK1 hK2 K1 K2
      (try simp)
      repeat (with_reducible refine .s fun X Y Z W => ?_; simp; (first | refine Z.out _ _ ?_ | refine W.out _ ?_ | refine ⟨by kernel_rfl, W.out _ ?_⟩); clear Z W X Y; simp); (try refine .n ?_)
      refine Jt.f hK ?_
      clear hK K
      with_reducible repeat first | refine Jt.i ?_ | refine .g (by decide) ?_
      refine AW.rc 50 fun K hK => ?_
      repeat (with_reducible refine .s fun X Y Z W => ?_; simp; (first | refine Z.out _ _ ?_ | refine W.out _ ?_ | refine ⟨by kernel_rfl, W.out _ ?_⟩); clear Z W X Y; simp); (try refine .n ?_)
      refine .s fun K1 K2 hK1 hK2 => ?_
      simp
      refine slice_from (by simpa using hj) ?_
      refine hK1.out _ _ ?_
      clear hK1 hK2 K1 K2
      (try simp)
      repeat (with_reducible refine .s fun X Y Z W => ?_; simp; (first | refine Z.out _ _ ?_ | refine W.out _ ?_ | refine ⟨by kernel_rfl, W.out _ ?_⟩); clear Z W X Y; simp); (try refine .n ?_)
      rw [e2]
      refine .s fun K1 K2 hK1 hK2 => ?_
      simp [o2, v2]
      refine ya_mk (by (simp [maxI]; omega)) ?_
      (try simp [o2, v2])
      refine hK1.out _ _ ?_
      clear hK1 hK2 K1 K2
      (try simp [o2, v2])
      repeat (with_reducible refine .s fun X Y Z W => ?_; simp [o2, v2]; (first | refine Z.out _ _ ?_ | refine W.out _ ?_ | refine ⟨by kernel_rfl, W.out _ ?_⟩); clear Z W X Y; simp [o2, v2]); (try refine .n ?_)
      refine Jt.f hK ?_
      clear hK K
      with_reducible repeat first | refine Jt.i ?_ | refine .g (by decide) ?_
      exact nx_retw (t := 6) (n := 54) (y := 54) (zs := [38, 37, 37, 0]) (rr := [(.zn 54, .zn .live), (.zn 38, .zn .live), (.zn 37, .zn .live), (.zn 37, .zn .live), (.zn 0, .zn .live)]) (.inr rfl) rfl (by kernel_rfl) (by kernel_rfl) (by kernel_rfl) (by decide) rfl
  · rcases vv R2 with v2 | v2
    · refine co_intro Try.func89 rfl Try.ntmps89 (by simp) (fun W0 Z => ?_)
      with_reducible repeat first | refine Jt.i ?_ | refine .g (by decide) ?_
      refine AW.at_ (fun L hL => ?_)
      simp at hL
      subst hL
      refine AW.rc 1 fun K hK => ?_
      repeat (with_reducible refine .s fun X Y Z W => ?_; simp [o2, v2]; (first | refine Z.out _ _ ?_ | refine W.out _ ?_ | refine ⟨by kernel_rfl, W.out _ ?_⟩); clear Z W X Y; simp [o2, v2]); (try refine .n ?_)
      refine Jt.f hK ?_
      clear hK K
      with_reducible repeat first | refine Jt.i ?_ | refine .g (by decide) ?_
      refine AW.rc 10 fun K hK => ?_
      repeat (with_reducible refine .s fun X Y Z W => ?_; simp [o2, v2]; (first | refine Z.out _ _ ?_ | refine W.out _ ?_ | refine ⟨by kernel_rfl, W.out _ ?_⟩); clear Z W X Y; simp [o2, v2]); (try refine .n ?_)
      refine .s fun K1 K2 hK1 hK2 => ?_
      simp [o2, v2]
      refine slice_take (by simpa using hil) ?_
      refine hK1.out _ _ ?_
      clear hK1 hK2 K1 K2
      (try simp [o2, v2])
      repeat (with_reducible refine .s fun X Y Z W => ?_; simp [o2, v2]; (first | refine Z.out _ _ ?_ | refine W.out _ ?_ | refine ⟨by kernel_rfl, W.out _ ?_⟩); clear Z W X Y; simp [o2, v2]); (try refine .n ?_)
      rw [e1]
      refine .s fun K1 K2 hK1 hK2 => ?_
      simp [o1, v1]
      refine ya_mk (by (simp [maxI]; omega)) ?_
      (try simp [o1, v1])
      refine hK1.out _ _ ?_
      clear hK1 hK2 K1 K2
      (try simp [o1, v1])
      repeat (with_reducible refine .s fun X Y Z W => ?_; simp [o1, v1]; (first | refine Z.out _ _ ?_ | refine W.out _ ?_ | refine ⟨by kernel_rfl, W.out _ ?_⟩); clear Z W X Y; simp [o1, v1]); (try refine .n ?_)
      refine Jt.f hK ?_
      clear hK K
      with_reducible repeat first | refine Jt.i ?_ | refine .g (by decide) ?_
      refine AW.rc 30 fun K hK => ?_
      repeat (with_reducible refine .s fun X Y Z W => ?_; simp; (first | refine Z.out _ _ ?_ | refine W.out _ ?_ | refine ⟨by kernel_rfl, W.out _ ?_⟩); clear Z W X Y; simp); (try refine .n ?_)
      refine .s fun K1 K2 hK1 hK2 => ?_
      simp
      refine slice_mid (Nat.le_of_lt hij) (by simpa using hj) ?_
      refine hK1.out _ _ ?_
      clear hK1 hK2 K1 K2
      (try simp)
      repeat (with_reducible refine .s fun X Y Z W => ?_; simp; (first | refine Z.out _ _ ?_ | refine W.out _ ?_ | refine ⟨by kernel_rfl, W.out _ ?_⟩); clear Z W X Y; simp); (try refine .n ?_)
      rw [e3]
      refine .s fun K1 K2 hK1 hK2 => ?_
      simp
      refine orr_l ⟨by kernel_rfl, .inl ⟨_, cj, ?_⟩⟩
      (try simp)
      refine hK1.out _ _ ?_
      clear hK1 hK2 K1 K2
      (try simp)
      repeat (with_reducible refine .s fun X Y Z W => ?_; simp; (first | refine Z.out _ _ ?_ | refine W.out _ ?_ | refine ⟨by kernel_rfl, W.out _ ?_⟩); clear Z W X Y; simp); (try refine .n ?_)
      refine .s fun K1 K2 hK1 hK2 => ?_
      simp
      refine ya_mk (by (simp [maxI]; omega)) ?_
      (try simp)
      refine hK1.out _ _ ?_
      clear hK1 hK2 K1 K2
      (try simp)
      repeat (with_reducible refine .s fun X Y Z W => ?_; simp; (first | refine Z.out _ _ ?_ | refine W.out _ ?_ | refine ⟨by kernel_rfl, W.out _ ?_⟩); clear Z W X Y; simp); (try refine .n ?_)
      refine Jt.f hK ?_
      clear hK K
      with_reducible repeat first | refine Jt.i ?_ | refine .g (by decide) ?_
      refine AW.rc 50 fun K hK => ?_
      repeat (with_reducible refine .s fun X Y Z W => ?_; simp; (first | refine Z.out _ _ ?_ | refine W.out _ ?_ | refine ⟨by kernel_rfl, W.out _ ?_⟩); clear Z W X Y; simp); (try refine .n ?_)
      refine .s fun K1 K2 hK1 hK2 => ?_
      simp
      refine slice_from (by simpa using hj) ?_
      refine hK1.out _ _ ?_
      clear hK1 hK2 K1 K2
      (try simp)
      repeat (with_reducible refine .s fun X Y Z W => ?_; simp; (first | refine Z.out _ _ ?_ | refine W.out _ ?_ | refine ⟨by kernel_rfl, W.out _ ?_⟩); clear Z W X Y; simp); (try refine .n ?_)
      rw [e2]
      refine .s fun K1 K2 hK1 hK2 => ?_
      simp [o2, if_pos v2]
      refine ya_mk (by (simp [maxI]; omega)) ?_
      (try simp [o2, if_pos v2])
      refine hK1.out _ _ ?_
      clear hK1 hK2 K1 K2
      (try simp [o2, if_pos v2])
      repeat (with_reducible refine .s fun X Y Z W => ?_; simp [o2, if_pos v2]; (first | refine Z.out _ _ ?_ | refine W.out _ ?_ | refine ⟨by kernel_rfl, W.out _ ?_⟩); clear Z W X Y; simp [o2, if_pos v2]); (try refine .n ?_)
      refine Jt.f hK ?_
      clear hK K
      with_reducible repeat first | refine Jt.i ?_ | refine .g (by decide) ?_
      exact nx_retw (t := 6) (n := 54) (y := 54) (zs := [0, 38, 37, 37]) (rr := [(.zn 54, .zn .live), (.zn 0, .zn .live), (.zn 38, .zn .live), (.zn 37, .zn .live), (.zn 37, .zn .live)]) (.inr rfl) rfl (by kernel_rfl) (by kernel_rfl) (by kernel_rfl) (by decide) rfl
    · refine co_intro Try.func89 rfl Try.ntmps89 (by simp) (fun W0 Z => ?_)
      with_reducible repeat first | refine Jt.i ?_ | refine .g (by decide) ?_
      refine AW.at_ (fun L hL => ?_)
      simp at hL
      subst hL
      refine AW.rc 1 fun K hK => ?_
      repeat (with_reducible refine .s fun X Y Z W => ?_; simp [o2, if_pos v2]; (first | refine Z.out _ _ ?_ | refine W.out _ ?_ | refine ⟨by kernel_rfl, W.out _ ?_⟩); clear Z W X Y; simp [o2, if_pos v2]); (try refine .n ?_)
      refine Jt.f hK ?_
      clear hK K
      with_reducible repeat first | refine Jt.i ?_ | refine .g (by decide) ?_
      refine AW.rc 10 fun K hK => ?_
      repeat (with_reducible refine .s fun X Y Z W => ?_; simp [o2, if_pos v2]; (first | refine Z.out _ _ ?_ | refine W.out _ ?_ | refine ⟨by kernel_rfl, W.out _ ?_⟩); clear Z W X Y; simp [o2, if_pos v2]); (try refine .n ?_)
      refine .s fun K1 K2 hK1 hK2 => ?_
      simp [o2, if_pos v2]
      refine slice_take (by simpa using hil) ?_
      refine hK1.out _ _ ?_
      clear hK1 hK2 K1 K2
      (try simp [o2, if_pos v2])
      repeat (with_reducible refine .s fun X Y Z W => ?_; simp [o2, if_pos v2]; (first | refine Z.out _ _ ?_ | refine W.out _ ?_ | refine ⟨by kernel_rfl, W.out _ ?_⟩); clear Z W X Y; simp [o2, if_pos v2]); (try refine .n ?_)
      rw [e1]
      refine .s fun K1 K2 hK1 hK2 => ?_
      simp [o1, v1]
      refine ya_mk (by (simp [maxI]; omega)) ?_
      (try simp [o1, v1])
      refine hK1.out _ _ ?_
      clear hK1 hK2 K1 K2
      (try simp [o1, v1])
      repeat (with_reducible refine .s fun X Y Z W => ?_; simp [o1, v1]; (first | refine Z.out _ _ ?_ | refine W.out _ ?_ | refine ⟨by kernel_rfl, W.out _ ?_⟩); clear Z W X Y; simp [o1, v1]); (try refine .n ?_)
      refine Jt.f hK ?_
      clear hK K
      with_reducible repeat first | refine Jt.i ?_ | refine .g (by decide) ?_
      refine AW.rc 30 fun K hK => ?_
      repeat (with_reducible refine .s fun X Y Z W => ?_; simp; (first | refine Z.out _ _ ?_ | refine W.out _ ?_ | refine ⟨by kernel_rfl, W.out _ ?_⟩); clear Z W X Y; simp); (try refine .n ?_)
      refine .s fun K1 K2 hK1 hK2 => ?_
      simp
      refine slice_mid (Nat.le_of_lt hij) (by simpa using hj) ?_
      refine hK1.out _ _ ?_
      clear hK1 hK2 K1 K2
      (try simp)
      repeat (with_reducible refine .s fun X Y Z W => ?_; simp; (first | refine Z.out _ _ ?_ | refine W.out _ ?_ | refine ⟨by kernel_rfl, W.out _ ?_⟩); clear Z W X Y; simp); (try refine .n ?_)
      rw [e3]
      refine .s fun K1 K2 hK1 hK2 => ?_
      simp
      refine orr_l ⟨by kernel_rfl, .inl ⟨_, cj, ?_⟩⟩
      (try simp)
      refine hK1.out _ _ ?_
      clear hK1 hK2 K1 K2
      (try simp)
      repeat (with_reducible refine .s fun X Y Z W => ?_; simp; (first | refine Z.out _ _ ?_ | refine W.out _ ?_ | refine ⟨by kernel_rfl, W.out _ ?_⟩); clear Z W X Y; simp); (try refine .n ?_)
      refine .s fun K1 K2 hK1 hK2 => ?_
      simp
      refine ya_mk (by (simp [maxI]; omega)) ?_
      (try simp)
      refine hK1.out _ _ ?_
      clear hK1 hK2 K1 K2
      (try simp)
      repeat (with_reducible refine .s fun X Y Z W => ?_; simp; (first | refine Z.out _ _ ?_ | refine W.out _ ?_ | refine ⟨by kernel_rfl, W.out _ ?_⟩); clear Z W X Y; simp); (try refine .n ?_)
      refine Jt.f hK ?_
      clear hK K
      with_reducible repeat first | refine Jt.i ?_ | refine .g (by decide) ?_
      refine AW.rc 50 fun K hK => ?_
      repeat (with_reducible refine .s fun X Y Z W => ?_; simp; (first | refine Z.out _ _ ?_ | refine W.out _ ?_ | refine ⟨by kernel_rfl, W.out _ ?_⟩); clear Z W X Y; simp); (try refine .n ?_)
      refine .s fun K1 K2 hK1 hK2 => ?_
      simp
      refine slice_from (by simpa using hj) ?_
      refine hK1.out _ _ ?_
      clear hK1 hK2 K1 K2
      (try simp)
      repeat (with_reducible refine .s fun X Y Z W => ?_; simp; (first | refine Z.out _ _ ?_ | refine W.out _ ?_ | refine ⟨by kernel_rfl, W.out _ ?_⟩); clear Z W X Y; simp); (try refine .n ?_)
      rw [e2]
      refine .s fun K1 K2 hK1 hK2 => ?_
      simp [o2, v2]
      refine ya_mk (by (simp [maxI]; omega)) ?_
      (try simp [o2, v2])
      refine hK1.out _ _ ?_
      clear hK1 hK2 K1 K2
      (try simp [o2, v2])
      repeat (with_reducible refine .s fun X Y Z W => ?_; simp [o2, v2]; (first | refine Z.out _ _ ?_ | refine W.out _ ?_ | refine ⟨by kernel_rfl, W.out _ ?_⟩); clear Z W X Y; simp [o2, v2]); (try refine .n ?_)
      refine Jt.f hK ?_
      clear hK K
      with_reducible repeat first | refine Jt.i ?_ | refine .g (by decide) ?_
      exact nx_retw (t := 6) (n := 54) (y := 54) (zs := [0, 38, 37, 37, 0]) (rr := [(.zn 54, .zn .live), (.zn 0, .zn .live), (.zn 38, .zn .live), (.zn 37, .zn .live), (.zn 37, .zn .live), (.zn 0, .zn .live)]) (.inr rfl) rfl (by kernel_rfl) (by kernel_rfl) (by kernel_rfl) (by decide) rfl
end Go.Proofs.Ytlkdkhmdmgchbaa
namespace Go.Proofs.Ytlkdkhmdmgchbaa
set_option linter.unusedSimpArgs false
set_option linter.unusedVariables false
open Go.RowKit
/-- code behind which the ways meet. -/
theorem AW.join {P : Program} {C : Cx} {r : Option Nat} {Q : Exit → Act → World → Prop} {L : Row} {x y : Code} (Lc : Row) (rest : AW P C r y Q Lc) (h : ∀ K : Exit → Act → World → Prop, Hid (∀ L', (∀ a w, AS C (lk L') a w → AS C (lk Lc) a w) → NX C K .normal L') → AW P C r x K L) : AW P C r (.seq x y) Q L :=
  AW.seq (h _ fun L' hv a w hA => rest a w (hv a w hA))
theorem Ct.resnil {P : Program} {f : FuncId} {args : List DV} {sz : Nat} {d : DV} (h : Ct P f args none (.tup [.c (.v (.slice none 0 0)), d])) : Ct P f args none (.tup [.c (.s sz []), d]) := fun Z w vs hr => by
  refine (h Z w vs hr).mono ?_
  rintro e w' ⟨v, Zn, k1, k2, k3, k4⟩
  refine ⟨v, Zn, k1, k2, k3, ?_⟩
  obtain ⟨us, q1, q2, q3⟩ := k4
  refine ⟨us, q1, by simpa using q2, fun i x hx => ?_⟩
  match i, hx with
  | 0, hx =>
    cases hx
    have := q3 0 _ rfl
    have := RepD.raw this
    show RepD _ _ _ _
    rw [this]
    exact .nil _
  | 1, hx => exact q3 1 _ hx
def sqBad (L : List Tr) (a b : Int) : Prop := a < 0 ∨ (L.length : Int) < b ∨ b ≤ a
open Classical in
noncomputable def sqE (L : List Tr) (a b : Int) : Int := if tsR L = false then 210 else if sqBad L a b then 2 else 0
open Classical in
noncomputable def sqR (L : List Tr) (a b : Int) : List Tr := if tsR L = false then [] else if sqBad L a b then [] else sqL L a.toNat b.toNat
theorem squash_any (L : List Tr) (a b : Int) (hs : ∀ t ∈ L, t.1.length + t.2.length ≤ 1048576) (hw : ∀ t ∈ L, wfT t) (hn : pairsN L ≤ 1000000) : Ct Try.prog 88 [.c (TsD L), dI a, dI b] none (.tup [.c (TsD (sqR L a b)), dI (sqE L a b)]) := by
  unfold sqR sqE
  cases h : tsR L with
  | false => simp only [if_true]; exact Ct.resnil (squash_no L a b hs h)
  | true =>
    simp only [Bool.true_eq_false, if_false]
    by_cases hb : sqBad L a b
    · rw [if_pos hb, if_pos hb]; exact Ct.resnil (squash_arg L a b hs h hb)
    · rw [if_neg hb, if_neg hb]
      unfold sqBad at hb
      have := squash_ok L a.toNat b.toNat hs hw hn h (by omega) (by omega)
      rw [show ((a.toNat : Nat) : Int) = a by omega, show ((b.toNat : Nat) : Int) = b by omega] at this
      exact this
theorem sqR_ok (L : List Tr) (a b : Int) (hL : L.length ≤ 26) (hF : ∀ t ∈ L, t.1.length ≤ 16 ∧ t.2.length ≤ 16 ∧ wfT t) : (sqR L a b).length ≤ 1000 ∧ ∀ t ∈ sqR L a b, t.1.length ≤ 1000 ∧ t.2.length ≤ 1000 := by
  have pL : pairsN L ≤ 832 := by
    have := pairsN_bound (l := L) (c := 32) (fun t ht => by have := hF t ht; unfold pairsT; omega)
    omega
  unfold sqR
  split
  · exact ⟨by simp, fun t ht => by simp at ht⟩
  · split
    · exact ⟨by simp, fun t ht => by simp at ht⟩
    · rename_i hb
      unfold sqBad at hb
      have hij : a.toNat < b.toNat := by omega
      have hj : b.toNat ≤ L.length := by omega
      refine ⟨by rw [sq_len L hij hj]; omega, sq_mem L (fun t ht => by have := hF t ht; omega) ?_⟩
      have h1 := jnL_len ((L.take b.toNat).drop a.toNat) (decide (a.toNat = 0))
      have h2 := sub_pairs L a.toNat b.toNat
      omega
theorem mid_two {L : List Tr} {m k k2 : Nat} {a b : Tr} (hm : m + 1 = k) (h2 : k2 = k + 1) (ha : L[m]? = some a) (hb : L[k]? = some b) : ((L.map fun t => [RD t.1, RD t.2]).take k2).drop m = [[RD a.1, RD a.2], [RD b.1, RD b.2]] := by
  rw [← List.map_take, ← List.map_drop]
  have : (L.take k2).drop m = [a, b] := by
    subst h2; subst hm
    obtain ⟨h1, e1⟩ := List.getElem?_eq_some_iff.1 ha
    obtain ⟨h2, e2⟩ := List.getElem?_eq_some_iff.1 hb
    have e3 : L.take (m + 1 + 1) = L.take m ++ [a, b] := by
      rw [List.take_succ_eq_append_getElem h2, List.take_succ_eq_append_getElem h1, e1, e2, List.append_assoc]
      rfl
    rw [e3, List.drop_left' (by rw [List.length_take]; omega)]
  rw [this]
  rfl
attribute [local simp ↓] gav_bool gav_undef arun_nil ob_some kva_av kfree_free khfree_free khown_own klive_live knm_false chk_true ya_true gsel_tt gsel_ff gsel_tf gsel_ft vb_bool vi_int vstr_string avps_ptr avps_seg avp_ptr avagg_agg avtup_tup avb_bool avown_own shs_struct shsa_struct shsa_arr sharr_arr shl_slice shla_slice shla_arr shls_slice shls_str shi_int bc_true bc_false hd1_cons opc_some opc_none opn_some opn_none unc_not unc_neg gd_none gd_some as_move as_assign as_pick as_bin as_un as_conv as_load as_faddr as_field as_extract as_iaddr as_slice as_alloc as_box as_store as_build as_rows as_call as_append as_lookup as_mapUpdate as_makeMap as_range as_next as_entry as_index as_fn as_len as_min as_max stMove stPick stBin stUn stConv stLoad stFaddr stField stExtract stIaddr stSlice stAlloc stBox stStore stBuild stIndex stRows stCall stAppend stFn stLen stMin stMax opd_tmp opd_const opd_func rawL_nil rawL_cons raw_c raw_st raw_a opr_e zr_nil zr_cons lvd_live hod_own obd_some obd_none kvd_av chd_true vid_int lk_cons lk_nil ins_nil ins_cons cells_zero cells_succ spread1_c spread1_own spread1_ptr spread1_fn spread1_seg spreadL_nil spreadL_cons spread_agg spread_c spread_own spread_seg spread_ptr spread_fn ex_zero ex_succ ops_e opb_none opb_int spreadD_agg spreadD_c spreadD_own spreadD_seg fillO_nil fillO_cons argsOf_nil argsOf_cons dvOf_c dvOf_seg dvOf_own dvOf_agg zrL_nil zrL_cons hdd_c hdd_seg hdd_own clz_e clv_raw clv_f callD_e dst0_n dst0_nil dst0_own goneH_e capc_ptr capc_seg capc_c capN_nil capN_cons capD_nil capD_cons deadZ_nil deadZ_cons
attribute [local simp] dok_some dok_none dflt_tmp dflt_vt dflt_cell dflt_zn dflt_nm dflt_hd dflt_df puts_nil puts_cons wr_some wr_none cst_agg cst_int cst_bool cst_string cst_slice cst_tuple cst_nilFunc cst_pointer cst_func bin_add bin_sub bin_mul bin_quo bin_rem bin_eql bin_neq bin_lss bin_leq bin_gtr bin_geq bin_bool bin_aggs binT_bool binT_aggs shbd_bool eqb_eql eqb_neq bin_slice bin_str_eql bin_str_neq bin_str_lss bin_str_add nz_v nz_n nz_s nz_p nz_f nz_st atz_v atz_n atz_s atz_p atz_f atz_st atz_agg atR_one atR_tup crow_nil crow_cons slc_c slc_n slc_own slc_nil raws setR placesT_nil placesT_cons zc chunk zsAll ocD_v ocD_n ocD_s ocD_p ocD_f ocD_st nrm_v nrm_n nrm_s nrm_p nrm_f nrm_st isV_one isV_tup isV_c isV_agg isV_v isV_n isV_s isV_p isV_f isV_st argRows Sh.agg zds_nil zds_e zds_v zds_s vcells_agg vcells_int vcells_bool vcells_string vcells_slice vcells_pointer toList_lit map_nilL map_consL nzr_e rowsOc_nil rowsOc_cons rowsOc_RD nzr_RD foks_nil foks_cons fok_tmp fok_vt fok_cell fok_nm fok_zn fok_hd fok_df Fv_c Fv_seg Fv_tup Fv_agg Fv_ptr Fv_ptrs Fv_fn Fv_fnd Fv_own Fv_ownd Fv_nown Fv_vown FvL_nil FvL_cons kvp_av hdp_some subz frz Uz Nm Uh vw_nb vw_zo vw_zf vw_hb tb_nil tb_cons fzc_nil fzc_cons fzcaps_nil fzcaps_cons ty2 ty3 ty4 ty5 ty6 ty7 ty8 ty9 ty10 ty11 ty12 ty13 ty14 ty15 ty16 ty17 ty18 ty19 ty20 ty21 ty22 ty23 ty24 ty25 ty26 ty27 ty30 ty40 ty48 ty50 ty51 ty52 ty55 ty57 ty62 ty63 ty85 ty94 ty101 ty121 ty122 ty123 ty124 ty125 ty126 ty128 ty148 ty149 ty151 ty164 ty165 ty179 ty182 ty196 ty203 ty205 ty209 ty211 ty215 ty216 ty217 ty218 ty219 ty220 ty221 ty223 ty224 ty225 ty226 ty227 Value.oneCell'
set_option maxRecDepth 100000
def sqB (x L : List Tr) (ob : Bool) : Row := [(.zn 0, .zn .live), (.tmp 0, .av (.c [0] (TsD x))), (.tmp 2, .av (.c [] (.v (.bool ob)))), (.zn 21, .zn .live), (.zn 100021, .zn .live), (.hd 21, .hd (.own 24 2 21 [100021] (L.map fun t => [RD t.1, RD t.2]))), (.tmp 7, .av (.own 21))]
def sqC (x L S : List Tr) (ob : Bool) (E : Int) : Row := [(.zn 55, .zn .live), (.tmp 8, .av (.c [55] (TsD S))), (.tmp 9, .av (.c [] (.v (.int .i64 E)))), (.zn 900, .zn .live), (.tmp 10, .av (.c [900] (TsD S))), (.tmp 11, .av (.c [] (.v (.int .i64 E))))] ++ sqB x L ob
def sqS (x L : List Tr) (ob : Bool) (k : Nat) : Row := [(.tmp 70, .av (.own 21)), (.tmp 71, .av (.c [] (.v (.int .i64 L.length)))), (.tmp 72, .av (.c [] (.v (.int .i64 k))))] ++ sqB x L ob
set_option maxHeartbeats 16000000 in
theorem squash11_ct (x : List Tr) (a b : Int) (ob : Bool) (hN : x.length ≤ maxI) (hw : ∀ t ∈ x, wfT t) : Ct Try.prog 17 [.c (TsD x), .agg [.v (.int .i64 a), .v (.int .i64 b)], dB ob] none (.one (dB true)) := by
  have cw := wakes11_ct
  have cox := own26_ct x hN
  obtain ⟨hL, hF⟩ := own26_fact hw
  generalize own26 x = L at *
  have hs : ∀ t ∈ L, t.1.length + t.2.length ≤ 1048576 := fun t ht => by have := hF t ht; omega
  have hwL : ∀ t ∈ L, wfT t := fun t ht => (hF t ht).2.2
  have pL : pairsN L ≤ 832 := by
    have := pairsN_bound (l := L) (c := 32) (fun t ht => by have := hF t ht; unfold pairsT; omega)
    omega
  have cq := squash_any L a b hs hwL (by omega)
  have hSR := sqR_ok L a b hL hF
  obtain ⟨S, hS⟩ : ∃ S, sqR L a b = S := ⟨_, rfl⟩
  obtain ⟨E, hE⟩ : ∃ E, sqE L a b = E := ⟨_, rfl⟩
  rw [hS, hE] at cq
  rw [hS] at hSR
  have crr := rright11_ct L (by omega) (fun t ht => by have := hF t ht; omega)
  have csS := tsame_ct S S
  rw [decide_eq_true rfl] at csS
  have csL := tsame_ct L L
  rw [decide_eq_true rfl] at csL
  have kS := spoil11_kt S (by omega) (fun t ht => by have := hSR.2 t ht; omega)
  refine ct_intro Try.func17 rfl Try.ntmps17 (by simp) (fun W0 Z => ?_)
  with_reducible repeat first | refine Jt.i ?_ | refine .g (by decide) ?_
  refine AW.at_ (fun L hL => ?_)
  simp at hL
  subst hL
  refine AW.rc 1 fun K hK => ?_
  repeat (with_reducible refine .s fun X Y Z W => ?_; simp; (first | refine Z.out _ _ ?_ | refine W.out _ ?_ | refine ⟨by kernel_rfl, W.out _ ?_⟩); clear Z W X Y; simp); (try refine .n ?_)
  refine Jt.f hK ?_
  clear hK K
  with_reducible repeat first | refine Jt.i ?_ | refine .g (by decide) ?_
  refine AW.rc 10 fun K hK => ?_
  repeat (with_reducible refine .s fun X Y Z W => ?_; simp; (first | refine Z.out _ _ ?_ | refine W.out _ ?_ | refine ⟨by kernel_rfl, W.out _ ?_⟩); clear Z W X Y; simp); (try refine .n ?_)
  refine .s fun K1 K2 hK1 hK2 => ?_
  simp
  refine orr_l ⟨by kernel_rfl, .inl ⟨_, cw, ?_⟩⟩
  (try simp)
  refine hK1.out _ _ ?_
  clear hK1 hK2 K1 K2
  (try simp)
  repeat (with_reducible refine .s fun X Y Z W => ?_; simp; (first | refine Z.out _ _ ?_ | refine W.out _ ?_ | refine ⟨by kernel_rfl, W.out _ ?_⟩); clear Z W X Y; simp); (try refine .n ?_)
  refine Jt.f hK ?_
  clear hK K
  with_reducible repeat first | refine Jt.i ?_ | refine .g (by decide) ?_
  refine AW.cf rfl ?_
  with_reducible repeat first | refine Jt.i ?_ | refine .g (by decide) ?_
  refine AW.rc 20 fun K hK => ?_
  repeat (with_reducible refine .s fun X Y Z W => ?_; simp; (first | refine Z.out _ _ ?_ | refine W.out _ ?_ | refine ⟨by kernel_rfl, W.out _ ?_⟩); clear Z W X Y; simp); (try refine .n ?_)
  refine .s fun K1 K2 hK1 hK2 => ?_
  simp
  refine orr_l ⟨by kernel_rfl, .inr (.inl ⟨_, _, _, cox, ?_⟩)⟩
  (try simp)
  refine hK1.out _ _ ?_
  clear hK1 hK2 K1 K2
  (try simp)
  repeat (with_reducible refine .s fun X Y Z W => ?_; simp; (first | refine Z.out _ _ ?_ | refine W.out _ ?_ | refine ⟨by kernel_rfl, W.out _ ?_⟩); clear Z W X Y; simp); (try refine .n ?_)
  refine Jt.f hK ?_
  clear hK K
  with_reducible repeat first | refine Jt.i ?_ | refine .g (by decide) ?_
  refine AW.rc 50 fun K hK => ?_
  repeat (with_reducible refine .s fun X Y Z W => ?_; simp; (first | refine Z.out _ _ ?_ | refine W.out _ ?_ | refine ⟨by kernel_rfl, W.out _ ?_⟩); clear Z W X Y; simp); (try refine .n ?_)
  refine .s fun K1 K2 hK1 hK2 => ?_
  simp
  refine ⟨0, rfl, by decide, ?_⟩
  refine hK1.out _ _ ?_
  clear hK1 hK2 K1 K2
  (try simp)
  repeat (with_reducible refine .s fun X Y Z W => ?_; simp; (first | refine Z.out _ _ ?_ | refine W.out _ ?_ | refine ⟨by kernel_rfl, W.out _ ?_⟩); clear Z W X Y; simp); (try refine .n ?_)
  refine .s fun K1 K2 hK1 hK2 => ?_
  simp
  refine ⟨1, rfl, by decide, ?_⟩
  refine hK1.out _ _ ?_
  clear hK1 hK2 K1 K2
  (try simp)
  repeat (with_reducible refine .s fun X Y Z W => ?_; simp; (first | refine Z.out _ _ ?_ | refine W.out _ ?_ | refine ⟨by kernel_rfl, W.out _ ?_⟩); clear Z W X Y; simp); (try refine .n ?_)
  refine .s fun K1 K2 hK1 hK2 => ?_
  simp
  refine orr_l ⟨by kernel_rfl, .inl ⟨_, cq, ?_⟩⟩
  (try simp)
  refine hK1.out _ _ ?_
  clear hK1 hK2 K1 K2
  (try simp)
  repeat (with_reducible refine .s fun X Y Z W => ?_; simp; (first | refine Z.out _ _ ?_ | refine W.out _ ?_ | refine ⟨by kernel_rfl, W.out _ ?_⟩); clear Z W X Y; simp); (try refine .n ?_)
  refine Jt.f hK ?_
  clear hK K
  with_reducible repeat first | refine Jt.i ?_ | refine .g (by decide) ?_
  refine AW.rc 70 fun K hK => ?_
  repeat (with_reducible refine .s fun X Y Z W => ?_; simp; (first | refine Z.out _ _ ?_ | refine W.out _ ?_ | refine ⟨by kernel_rfl, W.out _ ?_⟩); clear Z W X Y; simp); (try refine .n ?_)
  refine Jt.f hK ?_
  clear hK K
  with_reducible repeat first | refine Jt.i ?_ | refine .g (by decide) ?_
  refine AW.rc 80 fun K hK => ?_
  repeat (with_reducible refine .s fun X Y Z W => ?_; simp; (first | refine Z.out _ _ ?_ | refine W.out _ ?_ | refine ⟨by kernel_rfl, W.out _ ?_⟩); clear Z W X Y; simp); (try refine .n ?_)
  refine ⟨chk_text _ _, hK.out _ ?_⟩
  clear hK K
  refine .a ?_
  refine AW.join (sqC x L S ob E) ?_ (fun K hN => ?_)
  · refine AW.at_ (fun L hL => ?_)
    simp [sqC, sqB] at hL
    subst hL
    with_reducible repeat first | refine Jt.i ?_ | refine .g (by decide) ?_
    refine AW.rc 130 fun K hK => ?_
    repeat (with_reducible refine .s fun X Y Z W => ?_; simp; (first | refine Z.out _ _ ?_ | refine W.out _ ?_ | refine ⟨by kernel_rfl, W.out _ ?_⟩); clear Z W X Y; simp); (try refine .n ?_)
    refine .s fun K1 K2 hK1 hK2 => ?_
    simp
    refine orr_l ⟨by kernel_rfl, .inl ⟨_, csS, ?_⟩⟩
    (try simp)
    refine hK1.out _ _ ?_
    clear hK1 hK2 K1 K2
    (try simp)
    repeat (with_reducible refine .s fun X Y Z W => ?_; simp; (first | refine Z.out _ _ ?_ | refine W.out _ ?_ | refine ⟨by kernel_rfl, W.out _ ?_⟩); clear Z W X Y; simp); (try refine .n ?_)
    refine Jt.f hK ?_
    clear hK K
    with_reducible repeat first | refine Jt.i ?_ | refine .g (by decide) ?_
    refine AW.cf rfl ?_
    with_reducible repeat first | refine Jt.i ?_ | refine .g (by decide) ?_
    refine AW.rc 160 fun K hK => ?_
    repeat (with_reducible refine .s fun X Y Z W => ?_; simp; (first | refine Z.out _ _ ?_ | refine W.out _ ?_ | refine ⟨by kernel_rfl, W.out _ ?_⟩); clear Z W X Y; simp); (try refine .n ?_)
    refine .s fun K1 K2 hK1 hK2 => ?_
    simp
    refine orr_l ⟨by kernel_rfl, .inr (.inr (.inr (.inl ⟨kS, ?_⟩)))⟩
    (try simp)
    refine hK1.out _ _ ?_
    clear hK1 hK2 K1 K2
    (try simp)
    repeat (with_reducible refine .s fun X Y Z W => ?_; simp; (first | refine Z.out _ _ ?_ | refine W.out _ ?_ | refine ⟨by kernel_rfl, W.out _ ?_⟩); clear Z W X Y; simp); (try refine .n ?_)
    refine Jt.f hK ?_
    clear hK K
    with_reducible repeat first | refine Jt.i ?_ | refine .g (by decide) ?_
    refine AW.rc 180 fun K hK => ?_
    repeat (with_reducible refine .s fun X Y Z W => ?_; simp; (first | refine Z.out _ _ ?_ | refine W.out _ ?_ | refine ⟨by kernel_rfl, W.out _ ?_⟩); clear Z W X Y; simp); (try refine .n ?_)
    refine Jt.f hK ?_
    clear hK K
    with_reducible repeat first | refine Jt.i ?_ | refine .g (by decide) ?_
    refine AW.loop (X := { k : Nat // k ≤ L.length }) (fun z => sqS x L ob z.1) (fun z => L.length - z.1) ⟨0, by simp⟩ (view_of (vw [] [] [] []) (by simp [sqS, sqB])) (fun z => ?_)
    obtain ⟨k, hk⟩ := z
    refine AW.at_ (fun L hL => ?_)
    simp [sqS, sqB] at hL
    subst hL
    with_reducible repeat first | refine Jt.i ?_ | refine .g (by decide) ?_
    by_cases hgo : k < L.length
    · have w5 : IntKind.i64.wrap ((k : Int) + 1) = ((k + 1 : Nat) : Int) := by rw [i64_ok _ (by omega) (by omega)]; omega
      by_cases h06 : k = 0 ∨ k = 6
      · rcases h06 with h06 | h06
        · have h06i : (k : Int) = 0 := by omega
          refine AW.rc 200 fun K hK => ?_
          repeat (with_reducible refine .s fun X Y Z W => ?_; simp [hgo]; (first | refine Z.out _ _ ?_ | refine W.out _ ?_ | refine ⟨by kernel_rfl, W.out _ ?_⟩); clear Z W X Y; simp [hgo]); (try refine .n ?_)
          refine Jt.f hK ?_
          clear hK K
          with_reducible repeat first | refine Jt.i ?_ | refine .g (by decide) ?_
          refine AW.ct rfl ?_
          with_reducible repeat first | refine Jt.i ?_ | refine .g (by decide) ?_
          refine AW.rc 210 fun K hK => ?_
          repeat (with_reducible refine .s fun X Y Z W => ?_; simp [hgo]; (first | refine Z.out _ _ ?_ | refine W.out _ ?_ | refine ⟨by kernel_rfl, W.out _ ?_⟩); clear Z W X Y; simp [hgo]); (try refine .n ?_)
          refine Jt.f hK ?_
          clear hK K
          with_reducible repeat first | refine Jt.i ?_ | refine .g (by decide) ?_
          refine AW.rc 220 fun K hK => ?_
          repeat (with_reducible refine .s fun X Y Z W => ?_; simp [eq_true h06, eq_true h06i]; (first | refine Z.out _ _ ?_ | refine W.out _ ?_ | refine ⟨by kernel_rfl, W.out _ ?_⟩); clear Z W X Y; simp [eq_true h06, eq_true h06i]); (try refine .n ?_)
          refine Jt.f hK ?_
          clear hK K
          with_reducible repeat first | refine Jt.i ?_ | refine .g (by decide) ?_
          refine AW.ct rfl ?_
          with_reducible repeat first | refine Jt.i ?_ | refine .g (by decide) ?_
          refine AW.rc 480 fun K hK => ?_
          repeat (with_reducible refine .s fun X Y Z W => ?_; simp [w5]; (first | refine Z.out _ _ ?_ | refine W.out _ ?_ | refine ⟨by kernel_rfl, W.out _ ?_⟩); clear Z W X Y; simp [w5]); (try refine .n ?_)
          refine Jt.f hK ?_
          clear hK K
          with_reducible repeat first | refine Jt.i ?_ | refine .g (by decide) ?_
          exact NX.round ⟨k + 1, hgo⟩ (by show L.length - (k + 1) < L.length - k; omega) (view_of (vw [] [] [] []) (by simp [sqS, sqB]))
        · have h06i : (k : Int) = 6 := by omega
          have hk0 : ¬ k = 0 := by omega
          have hk0i : ¬ (k : Int) = 0 := by omega
          refine AW.rc 200 fun K hK => ?_
          repeat (with_reducible refine .s fun X Y Z W => ?_; simp [hgo]; (first | refine Z.out _ _ ?_ | refine W.out _ ?_ | refine ⟨by kernel_rfl, W.out _ ?_⟩); clear Z W X Y; simp [hgo]); (try refine .n ?_)
          refine Jt.f hK ?_
          clear hK K
          with_reducible repeat first | refine Jt.i ?_ | refine .g (by decide) ?_
          refine AW.ct rfl ?_
          with_reducible repeat first | refine Jt.i ?_ | refine .g (by decide) ?_
          refine AW.rc 210 fun K hK => ?_
          repeat (with_reducible refine .s fun X Y Z W => ?_; simp [hgo]; (first | refine Z.out _ _ ?_ | refine W.out _ ?_ | refine ⟨by kernel_rfl, W.out _ ?_⟩); clear Z W X Y; simp [hgo]); (try refine .n ?_)
          refine Jt.f hK ?_
          clear hK K
          with_reducible repeat first | refine Jt.i ?_ | refine .g (by decide) ?_
          refine AW.rc 220 fun K hK => ?_
          repeat (with_reducible refine .s fun X Y Z W => ?_; simp [hk0, hk0i, eq_true h06, eq_true h06i]; (first | refine Z.out _ _ ?_ | refine W.out _ ?_ | refine ⟨by kernel_rfl, W.out _ ?_⟩); clear Z W X Y; simp [hk0, hk0i, eq_true h06, eq_true h06i]); (try refine .n ?_)
          refine Jt.f hK ?_
          clear hK K
          with_reducible repeat first | refine Jt.i ?_ | refine .g (by decide) ?_
          refine AW.ct rfl ?_
          with_reducible repeat first | refine Jt.i ?_ | refine .g (by decide) ?_
          refine AW.rc 480 fun K hK => ?_
          repeat (with_reducible refine .s fun X Y Z W => ?_; simp [w5]; (first | refine Z.out _ _ ?_ | refine W.out _ ?_ | refine ⟨by kernel_rfl, W.out _ ?_⟩); clear Z W X Y; simp [w5]); (try refine .n ?_)
          refine Jt.f hK ?_
          clear hK K
          with_reducible repeat first | refine Jt.i ?_ | refine .g (by decide) ?_
          exact NX.round ⟨k + 1, hgo⟩ (by show L.length - (k + 1) < L.length - k; omega) (view_of (vw [] [] [] []) (by simp [sqS, sqB]))
      · have hk0 : ¬ k = 0 := fun e => h06 (.inl e)
        have hk6 : ¬ k = 6 := fun e => h06 (.inr e)
        have hk0i : ¬ (k : Int) = 0 := by omega
        have hk6i : ¬ (k : Int) = 6 := by omega
        obtain ⟨m, hm⟩ : ∃ m, m + 1 = k := ⟨k - 1, by omega⟩
        obtain ⟨k2, hk2⟩ : ∃ k2, k2 = k + 1 := ⟨_, rfl⟩
        have hml : m < L.length := by omega
        obtain ⟨t, ht⟩ : ∃ t, L[m] = t := ⟨_, rfl⟩
        obtain ⟨u, hu⟩ : ∃ u, L[k] = u := ⟨_, rfl⟩
        have ht' : L[m]? = some t := by rw [List.getElem?_eq_getElem hml, ht]
        have hu' : L[k]? = some u := by rw [List.getElem?_eq_getElem hgo, hu]
        have ft := hF t (List.mem_of_getElem? ht')
        have fu := hF u (List.mem_of_getElem? hu')
        have pt : pairsT t ≤ 32 := by unfold pairsT; omega
        have pu : pairsT u ≤ 32 := by unfold pairsT; omega
        have e3 := mid_two hm hk2 ht' hu'
        have w1 : IntKind.i64.wrap ((k : Int) - 1) = (m : Int) := by rw [i64_ok _ (by omega) (by omega)]; omega
        have w2 : IntKind.i64.wrap ((k : Int) + 1) = (k2 : Int) := by rw [i64_ok _ (by omega) (by omega)]; omega
        have c1 := one_ct t (by omega)
        have c2 := one_ct u (by omega)
        have nn : ∀ {b : Bool}, (oneL t && oneL u) = b → (b = false → oneL t = false ∨ oneL u = false) := fun h hb => by
          rw [hb] at h
          cases h1 : oneL t
          · exact .inl rfl
          · rw [h1] at h; exact .inr (by simpa using h)
        cases h1 : oneL t with
        | false =>
          rw [h1] at c1
          have cj := join_ct' t u ob (.inl h1) (by omega) (by omega)
          have cz := tsame_ct [([], [])] [([], [])]
          rw [decide_eq_true rfl] at cz
          refine AW.rc 200 fun K hK => ?_
          repeat (with_reducible refine .s fun X Y Z W => ?_; simp [hgo]; (first | refine Z.out _ _ ?_ | refine W.out _ ?_ | refine ⟨by kernel_rfl, W.out _ ?_⟩); clear Z W X Y; simp [hgo]); (try refine .n ?_)
          refine Jt.f hK ?_
          clear hK K
          with_reducible repeat first | refine Jt.i ?_ | refine .g (by decide) ?_
          refine AW.ct rfl ?_
          with_reducible repeat first | refine Jt.i ?_ | refine .g (by decide) ?_
          refine AW.rc 210 fun K hK => ?_
          repeat (with_reducible refine .s fun X Y Z W => ?_; simp [hgo]; (first | refine Z.out _ _ ?_ | refine W.out _ ?_ | refine ⟨by kernel_rfl, W.out _ ?_⟩); clear Z W X Y; simp [hgo]); (try refine .n ?_)
          refine Jt.f hK ?_
          clear hK K
          with_reducible repeat first | refine Jt.i ?_ | refine .g (by decide) ?_
          refine AW.rc 220 fun K hK => ?_
          repeat (with_reducible refine .s fun X Y Z W => ?_; simp [hk0, hk0i, hk6, hk6i]; (first | refine Z.out _ _ ?_ | refine W.out _ ?_ | refine ⟨by kernel_rfl, W.out _ ?_⟩); clear Z W X Y; simp [hk0, hk0i, hk6, hk6i]); (try refine .n ?_)
          refine Jt.f hK ?_
          clear hK K
          with_reducible repeat first | refine Jt.i ?_ | refine .g (by decide) ?_
          refine AW.cf rfl ?_
          with_reducible repeat first | refine Jt.i ?_ | refine .g (by decide) ?_
          refine AW.rc 240 fun K hK => ?_
          repeat (with_reducible refine .s fun X Y Z W => ?_; simp [w1]; (first | refine Z.out _ _ ?_ | refine W.out _ ?_ | refine ⟨by kernel_rfl, W.out _ ?_⟩); clear Z W X Y; simp [w1]); (try refine .n ?_)
          refine .s fun K1 K2 hK1 hK2 => ?_
          simp [w1]
          refine ⟨m, [RD t.1, RD t.2], rfl, by simp [hml, ht], ?_⟩
          refine hK1.out _ _ ?_
          clear hK1 hK2 K1 K2
          (try simp [w1])
          repeat (with_reducible refine .s fun X Y Z W => ?_; simp [w1]; (first | refine Z.out _ _ ?_ | refine W.out _ ?_ | refine ⟨by kernel_rfl, W.out _ ?_⟩); clear Z W X Y; simp [w1]); (try refine .n ?_)
          refine .s fun K1 K2 hK1 hK2 => ?_
          simp [w1]
          refine ⟨k, [RD u.1, RD u.2], rfl, by simp [hgo, hu], ?_⟩
          refine hK1.out _ _ ?_
          clear hK1 hK2 K1 K2
          (try simp [w1])
          repeat (with_reducible refine .s fun X Y Z W => ?_; simp [w1]; (first | refine Z.out _ _ ?_ | refine W.out _ ?_ | refine ⟨by kernel_rfl, W.out _ ?_⟩); clear Z W X Y; simp [w1]); (try refine .n ?_)
          refine .s fun K1 K2 hK1 hK2 => ?_
          simp [w1]
          refine orr_l ⟨by kernel_rfl, .inl ⟨_, cj, ?_⟩⟩
          (try simp [w1])
          refine hK1.out _ _ ?_
          clear hK1 hK2 K1 K2
          (try simp [w1])
          repeat (with_reducible refine .s fun X Y Z W => ?_; simp [w1]; (first | refine Z.out _ _ ?_ | refine W.out _ ?_ | refine ⟨by kernel_rfl, W.out _ ?_⟩); clear Z W X Y; simp [w1]); (try refine .n ?_)
          refine ⟨chk_drawn (by kernel_rfl) (by kernel_rfl), hK.out _ ?_⟩
          clear hK K
          with_reducible repeat first | refine Jt.i ?_ | refine .g (by decide) ?_
          refine AW.rc 310 fun K hK => ?_
          repeat (with_reducible refine .s fun X Y Z W => ?_; simp [w1]; (first | refine Z.out _ _ ?_ | refine W.out _ ?_ | refine ⟨by kernel_rfl, W.out _ ?_⟩); clear Z W X Y; simp [w1]); (try refine .n ?_)
          refine Jt.f hK ?_
          clear hK K
          with_reducible repeat first | refine Jt.i ?_ | refine .g (by decide) ?_
          refine AW.rc 330 fun K hK => ?_
          repeat (with_reducible refine .s fun X Y Z W => ?_; simp [w1]; (first | refine Z.out _ _ ?_ | refine W.out _ ?_ | refine ⟨by kernel_rfl, W.out _ ?_⟩); clear Z W X Y; simp [w1]); (try refine .n ?_)
          refine .s fun K1 K2 hK1 hK2 => ?_
          simp [w1]
          refine ⟨m, [RD t.1, RD t.2], rfl, by simp [hml, ht], ?_⟩
          refine hK1.out _ _ ?_
          clear hK1 hK2 K1 K2
          (try simp [w1])
          repeat (with_reducible refine .s fun X Y Z W => ?_; simp [w1]; (first | refine Z.out _ _ ?_ | refine W.out _ ?_ | refine ⟨by kernel_rfl, W.out _ ?_⟩); clear Z W X Y; simp [w1]); (try refine .n ?_)
          refine .s fun K1 K2 hK1 hK2 => ?_
          simp [w1]
          refine orr_l ⟨by kernel_rfl, .inl ⟨_, c1, ?_⟩⟩
          (try simp [w1])
          refine hK1.out _ _ ?_
          clear hK1 hK2 K1 K2
          (try simp [w1])
          repeat (with_reducible refine .s fun X Y Z W => ?_; simp [w1]; (first | refine Z.out _ _ ?_ | refine W.out _ ?_ | refine ⟨by kernel_rfl, W.out _ ?_⟩); clear Z W X Y; simp [w1]); (try refine .n ?_)
          refine Jt.f hK ?_
          clear hK K
          with_reducible repeat first | refine Jt.i ?_ | refine .g (by decide) ?_
          refine AW.cf rfl ?_
          with_reducible repeat first | refine Jt.i ?_ | refine .g (by decide) ?_
          refine AW.rc 400 fun K hK => ?_
          repeat (with_reducible refine .s fun X Y Z W => ?_; simp; (first | refine Z.out _ _ ?_ | refine W.out _ ?_ | refine ⟨by kernel_rfl, W.out _ ?_⟩); clear Z W X Y; simp); (try refine .n ?_)
          refine .s fun K1 K2 hK1 hK2 => ?_
          simp
          refine orr_l ⟨by kernel_rfl, .inl ⟨_, cz, ?_⟩⟩
          (try simp)
          refine hK1.out _ _ ?_
          clear hK1 hK2 K1 K2
          (try simp)
          repeat (with_reducible refine .s fun X Y Z W => ?_; simp; (first | refine Z.out _ _ ?_ | refine W.out _ ?_ | refine ⟨by kernel_rfl, W.out _ ?_⟩); clear Z W X Y; simp); (try refine .n ?_)
          refine Jt.f hK ?_
          clear hK K
          with_reducible repeat first | refine Jt.i ?_ | refine .g (by decide) ?_
          refine AW.cf rfl ?_
          with_reducible repeat first | refine Jt.i ?_ | refine .g (by decide) ?_
          refine AW.rc 480 fun K hK => ?_
          repeat (with_reducible refine .s fun X Y Z W => ?_; simp [w5]; (first | refine Z.out _ _ ?_ | refine W.out _ ?_ | refine ⟨by kernel_rfl, W.out _ ?_⟩); clear Z W X Y; simp [w5]); (try refine .n ?_)
          refine Jt.f hK ?_
          clear hK K
          with_reducible repeat first | refine Jt.i ?_ | refine .g (by decide) ?_
          exact NX.round ⟨k + 1, hgo⟩ (by show L.length - (k + 1) < L.length - k; omega) (view_of (vw [] [] [] []) (by simp [sqS, sqB]))
        | true =>
          rw [h1] at c1
          cases h2 : oneL u with
          | false =>
            rw [h2] at c2
            have cj := join_ct' t u ob (.inr h2) (by omega) (by omega)
            have cz := tsame_ct [([], [])] [([], [])]
            rw [decide_eq_true rfl] at cz
            refine AW.rc 200 fun K hK => ?_
            repeat (with_reducible refine .s fun X Y Z W => ?_; simp [hgo]; (first | refine Z.out _ _ ?_ | refine W.out _ ?_ | refine ⟨by kernel_rfl, W.out _ ?_⟩); clear Z W X Y; simp [hgo]); (try refine .n ?_)
            refine Jt.f hK ?_
            clear hK K
            with_reducible repeat first | refine Jt.i ?_ | refine .g (by decide) ?_
            refine AW.ct rfl ?_
            with_reducible repeat first | refine Jt.i ?_ | refine .g (by decide) ?_
            refine AW.rc 210 fun K hK => ?_
            repeat (with_reducible refine .s fun X Y Z W => ?_; simp [hgo]; (first | refine Z.out _ _ ?_ | refine W.out _ ?_ | refine ⟨by kernel_rfl, W.out _ ?_⟩); clear Z W X Y; simp [hgo]); (try refine .n ?_)
            refine Jt.f hK ?_
            clear hK K
            with_reducible repeat first | refine Jt.i ?_ | refine .g (by decide) ?_
            refine AW.rc 220 fun K hK => ?_
            repeat (with_reducible refine .s fun X Y Z W => ?_; simp [hk0, hk0i, hk6, hk6i]; (first | refine Z.out _ _ ?_ | refine W.out _ ?_ | refine ⟨by kernel_rfl, W.out _ ?_⟩); clear Z W X Y; simp [hk0, hk0i, hk6, hk6i]); (try refine .n ?_)
            refine Jt.f hK ?_
            clear hK K
            with_reducible repeat first | refine Jt.i ?_ | refine .g (by decide) ?_
            refine AW.cf rfl ?_
            with_reducible repeat first | refine Jt.i ?_ | refine .g (by decide) ?_
            refine AW.rc 240 fun K hK => ?_
            repeat (with_reducible refine .s fun X Y Z W => ?_; simp [w1]; (first | refine Z.out _ _ ?_ | refine W.out _ ?_ | refine ⟨by kernel_rfl, W.out _ ?_⟩); clear Z W X Y; simp [w1]); (try refine .n ?_)
            refine .s fun K1 K2 hK1 hK2 => ?_
            simp [w1]
            refine ⟨m, [RD t.1, RD t.2], rfl, by simp [hml, ht], ?_⟩
            refine hK1.out _ _ ?_
            clear hK1 hK2 K1 K2
            (try simp [w1])
            repeat (with_reducible refine .s fun X Y Z W => ?_; simp [w1]; (first | refine Z.out _ _ ?_ | refine W.out _ ?_ | refine ⟨by kernel_rfl, W.out _ ?_⟩); clear Z W X Y; simp [w1]); (try refine .n ?_)
            refine .s fun K1 K2 hK1 hK2 => ?_
            simp [w1]
            refine ⟨k, [RD u.1, RD u.2], rfl, by simp [hgo, hu], ?_⟩
            refine hK1.out _ _ ?_
            clear hK1 hK2 K1 K2
            (try simp [w1])
            repeat (with_reducible refine .s fun X Y Z W => ?_; simp [w1]; (first | refine Z.out _ _ ?_ | refine W.out _ ?_ | refine ⟨by kernel_rfl, W.out _ ?_⟩); clear Z W X Y; simp [w1]); (try refine .n ?_)
            refine .s fun K1 K2 hK1 hK2 => ?_
            simp [w1]
            refine orr_l ⟨by kernel_rfl, .inl ⟨_, cj, ?_⟩⟩
            (try simp [w1])
            refine hK1.out _ _ ?_
            clear hK1 hK2 K1 K2
            (try simp [w1])
            repeat (with_reducible refine .s fun X Y Z W => ?_; simp [w1]; (first | refine Z.out _ _ ?_ | refine W.out _ ?_ | refine ⟨by kernel_rfl, W.out _ ?_⟩); clear Z W X Y; simp [w1]); (try refine .n ?_)
            refine ⟨chk_drawn (by kernel_rfl) (by kernel_rfl), hK.out _ ?_⟩
            clear hK K
            with_reducible repeat first | refine Jt.i ?_ | refine .g (by decide) ?_
            refine AW.rc 310 fun K hK => ?_
            repeat (with_reducible refine .s fun X Y Z W => ?_; simp [w1]; (first | refine Z.out _ _ ?_ | refine W.out _ ?_ | refine ⟨by kernel_rfl, W.out _ ?_⟩); clear Z W X Y; simp [w1]); (try refine .n ?_)
            refine Jt.f hK ?_
            clear hK K
            with_reducible repeat first | refine Jt.i ?_ | refine .g (by decide) ?_
            refine AW.rc 330 fun K hK => ?_
            repeat (with_reducible refine .s fun X Y Z W => ?_; simp [w1]; (first | refine Z.out _ _ ?_ | refine W.out _ ?_ | refine ⟨by kernel_rfl, W.out _ ?_⟩); clear Z W X Y; simp [w1]); (try refine .n ?_)
            refine .s fun K1 K2 hK1 hK2 => ?_
            simp [w1]
            refine ⟨m, [RD t.1, RD t.2], rfl, by simp [hml, ht], ?_⟩
            refine hK1.out _ _ ?_
            clear hK1 hK2 K1 K2
            (try simp [w1])
            repeat (with_reducible refine .s fun X Y Z W => ?_; simp [w1]; (first | refine Z.out _ _ ?_ | refine W.out _ ?_ | refine ⟨by kernel_rfl, W.out _ ?_⟩); clear Z W X Y; simp [w1]); (try refine .n ?_)
            refine .s fun K1 K2 hK1 hK2 => ?_
            simp [w1]
            refine orr_l ⟨by kernel_rfl, .inl ⟨_, c1, ?_⟩⟩
            (try simp [w1])
            refine hK1.out _ _ ?_
            clear hK1 hK2 K1 K2
            (try simp [w1])
            repeat (with_reducible refine .s fun X Y Z W => ?_; simp [w1]; (first | refine Z.out _ _ ?_ | refine W.out _ ?_ | refine ⟨by kernel_rfl, W.out _ ?_⟩); clear Z W X Y; simp [w1]); (try refine .n ?_)
            refine .s fun K1 K2 hK1 hK2 => ?_
            simp [w1]
            refine ⟨k, [RD u.1, RD u.2], rfl, by simp [hgo, hu], ?_⟩
            refine hK1.out _ _ ?_
            clear hK1 hK2 K1 K2
            (try simp [w1])
            repeat (with_reducible refine .s fun X Y Z W => ?_; simp [w1]; (first | refine Z.out _ _ ?_ | refine W.out _ ?_ | refine ⟨by kernel_rfl, W.out _ ?_⟩); clear Z W X Y; simp [w1]); (try refine .n ?_)
            refine .s fun K1 K2 hK1 hK2 => ?_
            simp [w1]
            refine orr_l ⟨by kernel_rfl, .inl ⟨_, c2, ?_⟩⟩
            (try simp [w1])
            refine hK1.out _ _ ?_
            clear hK1 hK2 K1 K2
            (try simp [w1])
            repeat (with_reducible refine .s fun X Y Z W => ?_; simp [w1]; (first | refine Z.out _ _ ?_ | refine W.out _ ?_ | refine ⟨by kernel_rfl, W.out _ ?_⟩); clear Z W X Y; simp [w1]); (try refine .n ?_)
            refine Jt.f hK ?_
            clear hK K
            with_reducible repeat first | refine Jt.i ?_ | refine .g (by decide) ?_
            refine AW.cf rfl ?_
            with_reducible repeat first | refine Jt.i ?_ | refine .g (by decide) ?_
            refine AW.rc 400 fun K hK => ?_
            repeat (with_reducible refine .s fun X Y Z W => ?_; simp; (first | refine Z.out _ _ ?_ | refine W.out _ ?_ | refine ⟨by kernel_rfl, W.out _ ?_⟩); clear Z W X Y; simp); (try refine .n ?_)
            refine .s fun K1 K2 hK1 hK2 => ?_
            simp
            refine orr_l ⟨by kernel_rfl, .inl ⟨_, cz, ?_⟩⟩
            (try simp)
            refine hK1.out _ _ ?_
            clear hK1 hK2 K1 K2
            (try simp)
            repeat (with_reducible refine .s fun X Y Z W => ?_; simp; (first | refine Z.out _ _ ?_ | refine W.out _ ?_ | refine ⟨by kernel_rfl, W.out _ ?_⟩); clear Z W X Y; simp); (try refine .n ?_)
            refine Jt.f hK ?_
            clear hK K
            with_reducible repeat first | refine Jt.i ?_ | refine .g (by decide) ?_
            refine AW.cf rfl ?_
            with_reducible repeat first | refine Jt.i ?_ | refine .g (by decide) ?_
            refine AW.rc 480 fun K hK => ?_
            repeat (with_reducible refine .s fun X Y Z W => ?_; simp [w5]; (first | refine Z.out _ _ ?_ | refine W.out _ ?_ | refine ⟨by kernel_rfl, W.out _ ?_⟩); clear Z W X Y; simp [w5]); (try refine .n ?_)
            refine Jt.f hK ?_
            clear hK K
            with_reducible repeat first | refine Jt.i ?_ | refine .g (by decide) ?_
            exact NX.round ⟨k + 1, hgo⟩ (by show L.length - (k + 1) < L.length - k; omega) (view_of (vw [] [] [] []) (by simp [sqS, sqB]))
          | true =>
            rw [h2] at c2
            have cj := join_ct t u ob h1 h2 ft.2.2 fu.2.2 (by omega) (by omega)
            have rj := rjoined11_ct [t, u] ob (by simp) (fun s hs => by simp at hs; rcases hs with rfl | rfl <;> omega) (by simp [pairsN]; omega)
            change Ct _ _ _ _ (.tup [TD (jnL [t, u] ob), dI 0]) at cj
            generalize jnL [t, u] ob = J at *
            have cz := tsame_ct [J] [J]
            rw [decide_eq_true rfl] at cz
            refine AW.rc 200 fun K hK => ?_
            repeat (with_reducible refine .s fun X Y Z W => ?_; simp [hgo]; (first | refine Z.out _ _ ?_ | refine W.out _ ?_ | refine ⟨by kernel_rfl, W.out _ ?_⟩); clear Z W X Y; simp [hgo]); (try refine .n ?_)
            refine Jt.f hK ?_
            clear hK K
            with_reducible repeat first | refine Jt.i ?_ | refine .g (by decide) ?_
            refine AW.ct rfl ?_
            with_reducible repeat first | refine Jt.i ?_ | refine .g (by decide) ?_
            refine AW.rc 210 fun K hK => ?_
            repeat (with_reducible refine .s fun X Y Z W => ?_; simp [hgo]; (first | refine Z.out _ _ ?_ | refine W.out _ ?_ | refine ⟨by kernel_rfl, W.out _ ?_⟩); clear Z W X Y; simp [hgo]); (try refine .n ?_)
            refine Jt.f hK ?_
            clear hK K
            with_reducible repeat first | refine Jt.i ?_ | refine .g (by decide) ?_
            refine AW.rc 220 fun K hK => ?_
            repeat (with_reducible refine .s fun X Y Z W => ?_; simp [hk0, hk0i, hk6, hk6i]; (first | refine Z.out _ _ ?_ | refine W.out _ ?_ | refine ⟨by kernel_rfl, W.out _ ?_⟩); clear Z W X Y; simp [hk0, hk0i, hk6, hk6i]); (try refine .n ?_)
            refine Jt.f hK ?_
            clear hK K
            with_reducible repeat first | refine Jt.i ?_ | refine .g (by decide) ?_
            refine AW.cf rfl ?_
            with_reducible repeat first | refine Jt.i ?_ | refine .g (by decide) ?_
            refine AW.rc 240 fun K hK => ?_
            repeat (with_reducible refine .s fun X Y Z W => ?_; simp [w1]; (first | refine Z.out _ _ ?_ | refine W.out _ ?_ | refine ⟨by kernel_rfl, W.out _ ?_⟩); clear Z W X Y; simp [w1]); (try refine .n ?_)
            refine .s fun K1 K2 hK1 hK2 => ?_
            simp [w1]
            refine ⟨m, [RD t.1, RD t.2], rfl, by simp [hml, ht], ?_⟩
            refine hK1.out _ _ ?_
            clear hK1 hK2 K1 K2
            (try simp [w1])
            repeat (with_reducible refine .s fun X Y Z W => ?_; simp [w1]; (first | refine Z.out _ _ ?_ | refine W.out _ ?_ | refine ⟨by kernel_rfl, W.out _ ?_⟩); clear Z W X Y; simp [w1]); (try refine .n ?_)
            refine .s fun K1 K2 hK1 hK2 => ?_
            simp [w1]
            refine ⟨k, [RD u.1, RD u.2], rfl, by simp [hgo, hu], ?_⟩
            refine hK1.out _ _ ?_
            clear hK1 hK2 K1 K2
            (try simp [w1])
            repeat (with_reducible refine .s fun X Y Z W => ?_; simp [w1]; (first | refine Z.out _ _ ?_ | refine W.out _ ?_ | refine ⟨by kernel_rfl, W.out _ ?_⟩); clear Z W X Y; simp [w1]); (try refine .n ?_)
            refine .s fun K1 K2 hK1 hK2 => ?_
            simp [w1]
            refine orr_l ⟨by kernel_rfl, .inl ⟨_, cj, ?_⟩⟩
            (try simp [w1])
            refine hK1.out _ _ ?_
            clear hK1 hK2 K1 K2
            (try simp [w1])
            repeat (with_reducible refine .s fun X Y Z W => ?_; simp [w1]; (first | refine Z.out _ _ ?_ | refine W.out _ ?_ | refine ⟨by kernel_rfl, W.out _ ?_⟩); clear Z W X Y; simp [w1]); (try refine .n ?_)
            refine ⟨chk_drawn (by kernel_rfl) (by kernel_rfl), hK.out _ ?_⟩
            clear hK K
            with_reducible repeat first | refine Jt.i ?_ | refine .g (by decide) ?_
            refine AW.rc 310 fun K hK => ?_
            repeat (with_reducible refine .s fun X Y Z W => ?_; simp [w1]; (first | refine Z.out _ _ ?_ | refine W.out _ ?_ | refine ⟨by kernel_rfl, W.out _ ?_⟩); clear Z W X Y; simp [w1]); (try refine .n ?_)
            refine Jt.f hK ?_
            clear hK K
            with_reducible repeat first | refine Jt.i ?_ | refine .g (by decide) ?_
            refine AW.rc 330 fun K hK => ?_
            repeat (with_reducible refine .s fun X Y Z W => ?_; simp [w1]; (first | refine Z.out _ _ ?_ | refine W.out _ ?_ | refine ⟨by kernel_rfl, W.out _ ?_⟩); clear Z W X Y; simp [w1]); (try refine .n ?_)
            refine .s fun K1 K2 hK1 hK2 => ?_
            simp [w1]
            refine ⟨m, [RD t.1, RD t.2], rfl, by simp [hml, ht], ?_⟩
            refine hK1.out _ _ ?_
            clear hK1 hK2 K1 K2
            (try simp [w1])
            repeat (with_reducible refine .s fun X Y Z W => ?_; simp [w1]; (first | refine Z.out _ _ ?_ | refine W.out _ ?_ | refine ⟨by kernel_rfl, W.out _ ?_⟩); clear Z W X Y; simp [w1]); (try refine .n ?_)
            refine .s fun K1 K2 hK1 hK2 => ?_
            simp [w1]
            refine orr_l ⟨by kernel_rfl, .inl ⟨_, c1, ?_⟩⟩
            (try simp [w1])
            refine hK1.out _ _ ?_
            clear hK1 hK2 K1 K2
            (try simp [w1])
            repeat (with_reducible refine .s fun X Y Z W => ?_; simp [w1]; (first | refine Z.out _ _ ?_ | refine W.out _ ?_ | refine ⟨by kernel_rfl, W.out _ ?_⟩); clear Z W X Y; simp [w1]); (try refine .n ?_)
            refine .s fun K1 K2 hK1 hK2 => ?_
            simp [w1]
            refine ⟨k, [RD u.1, RD u.2], rfl, by simp [hgo, hu], ?_⟩
            refine hK1.out _ _ ?_
            clear hK1 hK2 K1 K2
            (try simp [w1])
            repeat (with_reducible refine .s fun X Y Z W => ?_; simp [w1]; (first | refine Z.out _ _ ?_ | refine W.out _ ?_ | refine ⟨by kernel_rfl, W.out _ ?_⟩); clear Z W X Y; simp [w1]); (try refine .n ?_)
            refine .s fun K1 K2 hK1 hK2 => ?_
            simp [w1]
            refine orr_l ⟨by kernel_rfl, .inl ⟨_, c2, ?_⟩⟩
            (try simp [w1])
            refine hK1.out _ _ ?_
            clear hK1 hK2 K1 K2
            (try simp [w1])
            repeat (with_reducible refine .s fun X Y Z W => ?_; simp [w1]; (first | refine Z.out _ _ ?_ | refine W.out _ ?_ | refine ⟨by kernel_rfl, W.out _ ?_⟩); clear Z W X Y; simp [w1]); (try refine .n ?_)
            refine Jt.f hK ?_
            clear hK K
            with_reducible repeat first | refine Jt.i ?_ | refine .g (by decide) ?_
            refine AW.ct rfl ?_
            with_reducible repeat first | refine Jt.i ?_ | refine .g (by decide) ?_
            refine AW.rc 370 fun K hK => ?_
            repeat (with_reducible refine .s fun X Y Z W => ?_; simp [w1, w2]; (first | refine Z.out _ _ ?_ | refine W.out _ ?_ | refine ⟨by kernel_rfl, W.out _ ?_⟩); clear Z W X Y; simp [w1, w2]); (try refine .n ?_)
            refine .s fun K1 K2 hK1 hK2 => ?_
            simp [w1, w2]
            refine slice_mid (by omega) (by simp; omega) ?_
            refine hK1.out _ _ ?_
            clear hK1 hK2 K1 K2
            (try simp [w1, w2])
            repeat (with_reducible refine .s fun X Y Z W => ?_; simp [w1, w2]; (first | refine Z.out _ _ ?_ | refine W.out _ ?_ | refine ⟨by kernel_rfl, W.out _ ?_⟩); clear Z W X Y; simp [w1, w2]); (try refine .n ?_)
            rw [e3]
            refine .s fun K1 K2 hK1 hK2 => ?_
            simp [w1, w2]
            refine orr_l ⟨by kernel_rfl, .inl ⟨_, rj, ?_⟩⟩
            (try simp [w1, w2])
            refine hK1.out _ _ ?_
            clear hK1 hK2 K1 K2
            (try simp [w1, w2])
            repeat (with_reducible refine .s fun X Y Z W => ?_; simp [w1, w2]; (first | refine Z.out _ _ ?_ | refine W.out _ ?_ | refine ⟨by kernel_rfl, W.out _ ?_⟩); clear Z W X Y; simp [w1, w2]); (try refine .n ?_)
            refine Jt.f hK ?_
            clear hK K
            with_reducible repeat first | refine Jt.i ?_ | refine .g (by decide) ?_
            refine AW.rc 400 fun K hK => ?_
            repeat (with_reducible refine .s fun X Y Z W => ?_; simp; (first | refine Z.out _ _ ?_ | refine W.out _ ?_ | refine ⟨by kernel_rfl, W.out _ ?_⟩); clear Z W X Y; simp); (try refine .n ?_)
            refine .s fun K1 K2 hK1 hK2 => ?_
            simp
            refine orr_l ⟨by kernel_rfl, .inl ⟨_, cz, ?_⟩⟩
            (try simp)
            refine hK1.out _ _ ?_
            clear hK1 hK2 K1 K2
            (try simp)
            repeat (with_reducible refine .s fun X Y Z W => ?_; simp; (first | refine Z.out _ _ ?_ | refine W.out _ ?_ | refine ⟨by kernel_rfl, W.out _ ?_⟩); clear Z W X Y; simp); (try refine .n ?_)
            refine Jt.f hK ?_
            clear hK K
            with_reducible repeat first | refine Jt.i ?_ | refine .g (by decide) ?_
            refine AW.cf rfl ?_
            with_reducible repeat first | refine Jt.i ?_ | refine .g (by decide) ?_
            refine AW.rc 480 fun K hK => ?_
            repeat (with_reducible refine .s fun X Y Z W => ?_; simp [w5]; (first | refine Z.out _ _ ?_ | refine W.out _ ?_ | refine ⟨by kernel_rfl, W.out _ ?_⟩); clear Z W X Y; simp [w5]); (try refine .n ?_)
            refine Jt.f hK ?_
            clear hK K
            with_reducible repeat first | refine Jt.i ?_ | refine .g (by decide) ?_
            exact NX.round ⟨k + 1, hgo⟩ (by show L.length - (k + 1) < L.length - k; omega) (view_of (vw [] [] [] []) (by simp [sqS, sqB]))
    · obtain rfl : k = L.length := by omega
      refine AW.rc 500 fun K hK => ?_
      repeat (with_reducible refine .s fun X Y Z W => ?_; simp; (first | refine Z.out _ _ ?_ | refine W.out _ ?_ | refine ⟨by kernel_rfl, W.out _ ?_⟩); clear Z W X Y; simp); (try refine .n ?_)
      refine Jt.f hK ?_
      clear hK K
      with_reducible repeat first | refine Jt.i ?_ | refine .g (by decide) ?_
      refine AW.cf rfl ?_
      with_reducible repeat first | refine Jt.i ?_ | refine .g (by decide) ?_
      refine AW.rc 510 fun K hK => ?_
      repeat (with_reducible refine .s fun X Y Z W => ?_; simp; (first | refine Z.out _ _ ?_ | refine W.out _ ?_ | refine ⟨by kernel_rfl, W.out _ ?_⟩); clear Z W X Y; simp); (try refine .n ?_)
      refine .s fun K1 K2 hK1 hK2 => ?_
      simp
      refine orr_l ⟨by kernel_rfl, .inr (.inl ⟨_, _, _, cox, ?_⟩)⟩
      (try simp)
      refine hK1.out _ _ ?_
      clear hK1 hK2 K1 K2
      (try simp)
      repeat (with_reducible refine .s fun X Y Z W => ?_; simp; (first | refine Z.out _ _ ?_ | refine W.out _ ?_ | refine ⟨by kernel_rfl, W.out _ ?_⟩); clear Z W X Y; simp); (try refine .n ?_)
      refine .s fun K1 K2 hK1 hK2 => ?_
      simp
      refine orr_l ⟨by kernel_rfl, .inl ⟨_, csL, ?_⟩⟩
      (try simp)
      refine hK1.out _ _ ?_
      clear hK1 hK2 K1 K2
      (try simp)
      repeat (with_reducible refine .s fun X Y Z W => ?_; simp; (first | refine Z.out _ _ ?_ | refine W.out _ ?_ | refine ⟨by kernel_rfl, W.out _ ?_⟩); clear Z W X Y; simp); (try refine .n ?_)
      refine Jt.f hK ?_
      clear hK K
      with_reducible repeat first | refine Jt.i ?_ | refine .g (by decide) ?_
      refine nx_ret (T := ty) (rs := [.tmp 6]) (zs := []) (ds := [dB true]) (rr := []) (.inr rfl) rfl (by kernel_rfl) (by kernel_rfl) (by simp) rfl
  · have nilc : ∀ {L : Row}, lk L (.tmp 10) = .av (.c [] (.v (.slice none 0 0))) → ∀ a w, AS (cx W0 133 Z) (lk L) a w → AS (cx W0 133 Z) (lk ((.tmp 10, .av (.c [] (.s 2 []))) :: L)) a w := fun e a w h => AS.conv h e fun Z v hv => by
      have := hv.raw
      subst this
      exact .nil _
    with_reducible repeat first | refine Jt.i ?_ | refine .g (by decide) ?_
    cases hts : tsR L with
    | false =>
      have eE : E = 210 := by rw [← hE]; unfold sqE; rw [if_pos hts]
      have eS : S = [] := by rw [← hS]; unfold sqR; rw [if_pos hts]
      rw [hts] at crr
      refine AW.rc 90 fun K hK => ?_
      repeat (with_reducible refine .s fun X Y Z W => ?_; simp; (first | refine Z.out _ _ ?_ | refine W.out _ ?_ | refine ⟨by kernel_rfl, W.out _ ?_⟩); clear Z W X Y; simp); (try refine .n ?_)
      refine .s fun K1 K2 hK1 hK2 => ?_
      simp
      refine orr_l ⟨by kernel_rfl, .inl ⟨_, crr, ?_⟩⟩
      (try simp)
      refine hK1.out _ _ ?_
      clear hK1 hK2 K1 K2
      (try simp)
      repeat (with_reducible refine .s fun X Y Z W => ?_; simp; (first | refine Z.out _ _ ?_ | refine W.out _ ?_ | refine ⟨by kernel_rfl, W.out _ ?_⟩); clear Z W X Y; simp); (try refine .n ?_)
      refine Jt.f hK ?_
      clear hK K
      with_reducible repeat first | refine Jt.i ?_ | refine .g (by decide) ?_
      refine AW.ct rfl ?_
      with_reducible repeat first | refine Jt.i ?_ | refine .g (by decide) ?_
      refine AW.rc 95 fun K hK => ?_
      repeat (with_reducible refine .s fun X Y Z W => ?_; simp; (first | refine Z.out _ _ ?_ | refine W.out _ ?_ | refine ⟨by kernel_rfl, W.out _ ?_⟩); clear Z W X Y; simp); (try refine .n ?_)
      refine Jt.f hK ?_
      clear hK K
      with_reducible repeat first | refine Jt.i ?_ | refine .g (by decide) ?_
      exact hN.out _ fun a w h => (view_of (vw [] [(900, [])] [] []) (by simp [sqC, sqB, eE, eS])) a w (nilc rfl a w h)
    | true =>
      rw [hts] at crr
      by_cases hbad : sqBad L a b
      · have eE : E = 2 := by rw [← hE]; unfold sqE; rw [if_neg (by rw [hts]; simp), if_pos hbad]
        have eS : S = [] := by rw [← hS]; unfold sqR; rw [if_neg (by rw [hts]; simp), if_pos hbad]
        unfold sqBad at hbad
        by_cases g1 : a < 0
        · refine AW.rc 90 fun K hK => ?_
          repeat (with_reducible refine .s fun X Y Z W => ?_; simp; (first | refine Z.out _ _ ?_ | refine W.out _ ?_ | refine ⟨by kernel_rfl, W.out _ ?_⟩); clear Z W X Y; simp); (try refine .n ?_)
          refine .s fun K1 K2 hK1 hK2 => ?_
          simp
          refine orr_l ⟨by kernel_rfl, .inl ⟨_, crr, ?_⟩⟩
          (try simp)
          refine hK1.out _ _ ?_
          clear hK1 hK2 K1 K2
          (try simp)
          repeat (with_reducible refine .s fun X Y Z W => ?_; simp; (first | refine Z.out _ _ ?_ | refine W.out _ ?_ | refine ⟨by kernel_rfl, W.out _ ?_⟩); clear Z W X Y; simp); (try refine .n ?_)
          refine Jt.f hK ?_
          clear hK K
          with_reducible repeat first | refine Jt.i ?_ | refine .g (by decide) ?_
          refine AW.cf rfl ?_
          with_reducible repeat first | refine Jt.i ?_ | refine .g (by decide) ?_
          refine AW.rc 100 fun K hK => ?_
          repeat (with_reducible refine .s fun X Y Z W => ?_; simp [g1]; (first | refine Z.out _ _ ?_ | refine W.out _ ?_ | refine ⟨by kernel_rfl, W.out _ ?_⟩); clear Z W X Y; simp [g1]); (try refine .n ?_)
          refine .s fun K1 K2 hK1 hK2 => ?_
          simp [g1]
          refine ⟨0, rfl, by decide, ?_⟩
          refine hK1.out _ _ ?_
          clear hK1 hK2 K1 K2
          (try simp [g1])
          repeat (with_reducible refine .s fun X Y Z W => ?_; simp [g1]; (first | refine Z.out _ _ ?_ | refine W.out _ ?_ | refine ⟨by kernel_rfl, W.out _ ?_⟩); clear Z W X Y; simp [g1]); (try refine .n ?_)
          refine Jt.f hK ?_
          clear hK K
          with_reducible repeat first | refine Jt.i ?_ | refine .g (by decide) ?_
          refine AW.ct rfl ?_
          with_reducible repeat first | refine Jt.i ?_ | refine .g (by decide) ?_
          refine AW.rc 115 fun K hK => ?_
          repeat (with_reducible refine .s fun X Y Z W => ?_; simp; (first | refine Z.out _ _ ?_ | refine W.out _ ?_ | refine ⟨by kernel_rfl, W.out _ ?_⟩); clear Z W X Y; simp); (try refine .n ?_)
          refine Jt.f hK ?_
          clear hK K
          with_reducible repeat first | refine Jt.i ?_ | refine .g (by decide) ?_
          exact hN.out _ fun a w h => (view_of (vw [] [(900, [])] [] []) (by simp [sqC, sqB, eE, eS])) a w (nilc rfl a w h)
        · by_cases g2 : (L.length : Int) < b
          · refine AW.rc 90 fun K hK => ?_
            repeat (with_reducible refine .s fun X Y Z W => ?_; simp; (first | refine Z.out _ _ ?_ | refine W.out _ ?_ | refine ⟨by kernel_rfl, W.out _ ?_⟩); clear Z W X Y; simp); (try refine .n ?_)
            refine .s fun K1 K2 hK1 hK2 => ?_
            simp
            refine orr_l ⟨by kernel_rfl, .inl ⟨_, crr, ?_⟩⟩
            (try simp)
            refine hK1.out _ _ ?_
            clear hK1 hK2 K1 K2
            (try simp)
            repeat (with_reducible refine .s fun X Y Z W => ?_; simp; (first | refine Z.out _ _ ?_ | refine W.out _ ?_ | refine ⟨by kernel_rfl, W.out _ ?_⟩); clear Z W X Y; simp); (try refine .n ?_)
            refine Jt.f hK ?_
            clear hK K
            with_reducible repeat first | refine Jt.i ?_ | refine .g (by decide) ?_
            refine AW.cf rfl ?_
            with_reducible repeat first | refine Jt.i ?_ | refine .g (by decide) ?_
            refine AW.rc 100 fun K hK => ?_
            repeat (with_reducible refine .s fun X Y Z W => ?_; simp [g1, g2]; (first | refine Z.out _ _ ?_ | refine W.out _ ?_ | refine ⟨by kernel_rfl, W.out _ ?_⟩); clear Z W X Y; simp [g1, g2]); (try refine .n ?_)
            refine .s fun K1 K2 hK1 hK2 => ?_
            simp [g1, g2]
            refine ⟨0, rfl, by decide, ?_⟩
            refine hK1.out _ _ ?_
            clear hK1 hK2 K1 K2
            (try simp [g1, g2])
            repeat (with_reducible refine .s fun X Y Z W => ?_; simp [g1, g2]; (first | refine Z.out _ _ ?_ | refine W.out _ ?_ | refine ⟨by kernel_rfl, W.out _ ?_⟩); clear Z W X Y; simp [g1, g2]); (try refine .n ?_)
            refine .s fun K1 K2 hK1 hK2 => ?_
            simp [g1, g2]
            refine ⟨1, rfl, by decide, ?_⟩
            refine hK1.out _ _ ?_
            clear hK1 hK2 K1 K2
            (try simp [g1, g2])
            repeat (with_reducible refine .s fun X Y Z W => ?_; simp [g1, g2]; (first | refine Z.out _ _ ?_ | refine W.out _ ?_ | refine ⟨by kernel_rfl, W.out _ ?_⟩); clear Z W X Y; simp [g1, g2]); (try refine .n ?_)
            refine Jt.f hK ?_
            clear hK K
            with_reducible repeat first | refine Jt.i ?_ | refine .g (by decide) ?_
            refine AW.ct rfl ?_
            with_reducible repeat first | refine Jt.i ?_ | refine .g (by decide) ?_
            refine AW.rc 115 fun K hK => ?_
            repeat (with_reducible refine .s fun X Y Z W => ?_; simp; (first | refine Z.out _ _ ?_ | refine W.out _ ?_ | refine ⟨by kernel_rfl, W.out _ ?_⟩); clear Z W X Y; simp); (try refine .n ?_)
            refine Jt.f hK ?_
            clear hK K
            with_reducible repeat first | refine Jt.i ?_ | refine .g (by decide) ?_
            exact hN.out _ fun a w h => (view_of (vw [] [(900, [])] [] []) (by simp [sqC, sqB, eE, eS])) a w (nilc rfl a w h)
          · have g3 : b ≤ a := by omega
            refine AW.rc 90 fun K hK => ?_
            repeat (with_reducible refine .s fun X Y Z W => ?_; simp; (first | refine Z.out _ _ ?_ | refine W.out _ ?_ | refine ⟨by kernel_rfl, W.out _ ?_⟩); clear Z W X Y; simp); (try refine .n ?_)
            refine .s fun K1 K2 hK1 hK2 => ?_
            simp
            refine orr_l ⟨by kernel_rfl, .inl ⟨_, crr, ?_⟩⟩
            (try simp)
            refine hK1.out _ _ ?_
            clear hK1 hK2 K1 K2
            (try simp)
            repeat (with_reducible refine .s fun X Y Z W => ?_; simp; (first | refine Z.out _ _ ?_ | refine W.out _ ?_ | refine ⟨by kernel_rfl, W.out _ ?_⟩); clear Z W X Y; simp); (try refine .n ?_)
            refine Jt.f hK ?_
            clear hK K
            with_reducible repeat first | refine Jt.i ?_ | refine .g (by decide) ?_
            refine AW.cf rfl ?_
            with_reducible repeat first | refine Jt.i ?_ | refine .g (by decide) ?_
            refine AW.rc 100 fun K hK => ?_
            repeat (with_reducible refine .s fun X Y Z W => ?_; simp [g1, g2, g3]; (first | refine Z.out _ _ ?_ | refine W.out _ ?_ | refine ⟨by kernel_rfl, W.out _ ?_⟩); clear Z W X Y; simp [g1, g2, g3]); (try refine .n ?_)
            refine .s fun K1 K2 hK1 hK2 => ?_
            simp [g1, g2, g3]
            refine ⟨0, rfl, by decide, ?_⟩
            refine hK1.out _ _ ?_
            clear hK1 hK2 K1 K2
            (try simp [g1, g2, g3])
            repeat (with_reducible refine .s fun X Y Z W => ?_; simp [g1, g2, g3]; (first | refine Z.out _ _ ?_ | refine W.out _ ?_ | refine ⟨by kernel_rfl, W.out _ ?_⟩); clear Z W X Y; simp [g1, g2, g3]); (try refine .n ?_)
            refine .s fun K1 K2 hK1 hK2 => ?_
            simp [g1, g2, g3]
            refine ⟨1, rfl, by decide, ?_⟩
            refine hK1.out _ _ ?_
            clear hK1 hK2 K1 K2
            (try simp [g1, g2, g3])
            repeat (with_reducible refine .s fun X Y Z W => ?_; simp [g1, g2, g3]; (first | refine Z.out _ _ ?_ | refine W.out _ ?_ | refine ⟨by kernel_rfl, W.out _ ?_⟩); clear Z W X Y; simp [g1, g2, g3]); (try refine .n ?_)
            refine .s fun K1 K2 hK1 hK2 => ?_
            simp [g1, g2, g3]
            refine ⟨0, rfl, by decide, ?_⟩
            refine hK1.out _ _ ?_
            clear hK1 hK2 K1 K2
            (try simp [g1, g2, g3])
            repeat (with_reducible refine .s fun X Y Z W => ?_; simp [g1, g2, g3]; (first | refine Z.out _ _ ?_ | refine W.out _ ?_ | refine ⟨by kernel_rfl, W.out _ ?_⟩); clear Z W X Y; simp [g1, g2, g3]); (try refine .n ?_)
            refine .s fun K1 K2 hK1 hK2 => ?_
            simp [g1, g2, g3]
            refine ⟨1, rfl, by decide, ?_⟩
            refine hK1.out _ _ ?_
            clear hK1 hK2 K1 K2
            (try simp [g1, g2, g3])
            repeat (with_reducible refine .s fun X Y Z W => ?_; simp [g1, g2, g3]; (first | refine Z.out _ _ ?_ | refine W.out _ ?_ | refine ⟨by kernel_rfl, W.out _ ?_⟩); clear Z W X Y; simp [g1, g2, g3]); (try refine .n ?_)
            refine Jt.f hK ?_
            clear hK K
            with_reducible repeat first | refine Jt.i ?_ | refine .g (by decide) ?_
            refine AW.ct rfl ?_
            with_reducible repeat first | refine Jt.i ?_ | refine .g (by decide) ?_
            refine AW.rc 115 fun K hK => ?_
            repeat (with_reducible refine .s fun X Y Z W => ?_; simp; (first | refine Z.out _ _ ?_ | refine W.out _ ?_ | refine ⟨by kernel_rfl, W.out _ ?_⟩); clear Z W X Y; simp); (try refine .n ?_)
            refine Jt.f hK ?_
            clear hK K
            with_reducible repeat first | refine Jt.i ?_ | refine .g (by decide) ?_
            exact hN.out _ fun a w h => (view_of (vw [] [(900, [])] [] []) (by simp [sqC, sqB, eE, eS])) a w (nilc rfl a w h)
      · have eE : E = 0 := by rw [← hE]; unfold sqE; rw [if_neg (by rw [hts]; simp), if_neg hbad]
        have eS : S = sqL L a.toNat b.toNat := by rw [← hS]; unfold sqR; rw [if_neg (by rw [hts]; simp), if_neg hbad]
        unfold sqBad at hbad
        obtain ⟨i, rfl⟩ : ∃ i : Nat, a = (i : Int) := ⟨a.toNat, by omega⟩
        obtain ⟨j, rfl⟩ : ∃ j : Nat, b = (j : Int) := ⟨b.toNat, by omega⟩
        have rq := rsquash11_co L i j (by omega) (by omega) (by omega) (fun t ht => by have := hF t ht; omega) (by omega)
        rw [show sqL L i j = S by rw [eS]; rfl] at rq
        have g1 : ¬ (i : Int) < 0 := by omega
        have g2 : ¬ (L.length : Int) < (j : Int) := by omega
        have g3 : ¬ (j : Int) ≤ (i : Int) := by omega
        have g2' : ¬ L.length < j := by omega
        have g3' : ¬ j ≤ i := by omega
        refine AW.rc 90 fun K hK => ?_
        repeat (with_reducible refine .s fun X Y Z W => ?_; simp; (first | refine Z.out _ _ ?_ | refine W.out _ ?_ | refine ⟨by kernel_rfl, W.out _ ?_⟩); clear Z W X Y; simp); (try refine .n ?_)
        refine .s fun K1 K2 hK1 hK2 => ?_
        simp
        refine orr_l ⟨by kernel_rfl, .inl ⟨_, crr, ?_⟩⟩
        (try simp)
        refine hK1.out _ _ ?_
        clear hK1 hK2 K1 K2
        (try simp)
        repeat (with_reducible refine .s fun X Y Z W => ?_; simp; (first | refine Z.out _ _ ?_ | refine W.out _ ?_ | refine ⟨by kernel_rfl, W.out _ ?_⟩); clear Z W X Y; simp); (try refine .n ?_)
        refine Jt.f hK ?_
        clear hK K
        with_reducible repeat first | refine Jt.i ?_ | refine .g (by decide) ?_
        refine AW.cf rfl ?_
        with_reducible repeat first | refine Jt.i ?_ | refine .g (by decide) ?_
        refine AW.rc 100 fun K hK => ?_
        repeat (with_reducible refine .s fun X Y Z W => ?_; simp [g1, g2, g3, g2', g3']; (first | refine Z.out _ _ ?_ | refine W.out _ ?_ | refine ⟨by kernel_rfl, W.out _ ?_⟩); clear Z W X Y; simp [g1, g2, g3, g2', g3']); (try refine .n ?_)
        refine .s fun K1 K2 hK1 hK2 => ?_
        simp [g1, g2, g3, g2', g3']
        refine ⟨0, rfl, by decide, ?_⟩
        refine hK1.out _ _ ?_
        clear hK1 hK2 K1 K2
        (try simp [g1, g2, g3, g2', g3'])
        repeat (with_reducible refine .s fun X Y Z W => ?_; simp [g1, g2, g3, g2', g3']; (first | refine Z.out _ _ ?_ | refine W.out _ ?_ | refine ⟨by kernel_rfl, W.out _ ?_⟩); clear Z W X Y; simp [g1, g2, g3, g2', g3']); (try refine .n ?_)
        refine .s fun K1 K2 hK1 hK2 => ?_
        simp [g1, g2, g3, g2', g3']
        refine ⟨1, rfl, by decide, ?_⟩
        refine hK1.out _ _ ?_
        clear hK1 hK2 K1 K2
        (try simp [g1, g2, g3, g2', g3'])
        repeat (with_reducible refine .s fun X Y Z W => ?_; simp [g1, g2, g3, g2', g3']; (first | refine Z.out _ _ ?_ | refine W.out _ ?_ | refine ⟨by kernel_rfl, W.out _ ?_⟩); clear Z W X Y; simp [g1, g2, g3, g2', g3']); (try refine .n ?_)
        refine .s fun K1 K2 hK1 hK2 => ?_
        simp [g1, g2, g3, g2', g3']
        refine ⟨0, rfl, by decide, ?_⟩
        refine hK1.out _ _ ?_
        clear hK1 hK2 K1 K2
        (try simp [g1, g2, g3, g2', g3'])
        repeat (with_reducible refine .s fun X Y Z W => ?_; simp [g1, g2, g3, g2', g3']; (first | refine Z.out _ _ ?_ | refine W.out _ ?_ | refine ⟨by kernel_rfl, W.out _ ?_⟩); clear Z W X Y; simp [g1, g2, g3, g2', g3']); (try refine .n ?_)
        refine .s fun K1 K2 hK1 hK2 => ?_
        simp [g1, g2, g3, g2', g3']
        refine ⟨1, rfl, by decide, ?_⟩
        refine hK1.out _ _ ?_
        clear hK1 hK2 K1 K2
        (try simp [g1, g2, g3, g2', g3'])
        repeat (with_reducible refine .s fun X Y Z W => ?_; simp [g1, g2, g3, g2', g3']; (first | refine Z.out _ _ ?_ | refine W.out _ ?_ | refine ⟨by kernel_rfl, W.out _ ?_⟩); clear Z W X Y; simp [g1, g2, g3, g2', g3']); (try refine .n ?_)
        refine Jt.f hK ?_
        clear hK K
        with_reducible repeat first | refine Jt.i ?_ | refine .g (by decide) ?_
        refine AW.cf rfl ?_
        with_reducible repeat first | refine Jt.i ?_ | refine .g (by decide) ?_
        refine AW.rc 120 fun K hK => ?_
        repeat (with_reducible refine .s fun X Y Z W => ?_; simp; (first | refine Z.out _ _ ?_ | refine W.out _ ?_ | refine ⟨by kernel_rfl, W.out _ ?_⟩); clear Z W X Y; simp); (try refine .n ?_)
        refine .s fun K1 K2 hK1 hK2 => ?_
        simp
        refine orr_l ⟨by kernel_rfl, .inr (.inl ⟨_, _, _, cox, ?_⟩)⟩
        (try simp)
        refine hK1.out _ _ ?_
        clear hK1 hK2 K1 K2
        (try simp)
        repeat (with_reducible refine .s fun X Y Z W => ?_; simp; (first | refine Z.out _ _ ?_ | refine W.out _ ?_ | refine ⟨by kernel_rfl, W.out _ ?_⟩); clear Z W X Y; simp); (try refine .n ?_)
        refine .s fun K1 K2 hK1 hK2 => ?_
        simp
        refine ⟨0, rfl, by decide, ?_⟩
        refine hK1.out _ _ ?_
        clear hK1 hK2 K1 K2
        (try simp)
        repeat (with_reducible refine .s fun X Y Z W => ?_; simp; (first | refine Z.out _ _ ?_ | refine W.out _ ?_ | refine ⟨by kernel_rfl, W.out _ ?_⟩); clear Z W X Y; simp); (try refine .n ?_)
        refine .s fun K1 K2 hK1 hK2 => ?_
        simp
        refine ⟨1, rfl, by decide, ?_⟩
        refine hK1.out _ _ ?_
        clear hK1 hK2 K1 K2
        (try simp)
        repeat (with_reducible refine .s fun X Y Z W => ?_; simp; (first | refine Z.out _ _ ?_ | refine W.out _ ?_ | refine ⟨by kernel_rfl, W.out _ ?_⟩); clear Z W X Y; simp); (try refine .n ?_)
        refine .s fun K1 K2 hK1 hK2 => ?_
        simp
        refine orr_l ⟨by kernel_rfl, .inr (.inr (.inr (.inr ⟨_, _, _, rq, ?_⟩)))⟩
        (try simp)
        refine hK1.out _ _ ?_
        clear hK1 hK2 K1 K2
        (try simp)
        repeat (with_reducible refine .s fun X Y Z W => ?_; simp; (first | refine Z.out _ _ ?_ | refine W.out _ ?_ | refine ⟨by kernel_rfl, W.out _ ?_⟩); clear Z W X Y; simp); (try refine .n ?_)
        refine ⟨chk_drawn (by kernel_rfl) (by kernel_rfl), hK.out _ ?_⟩
        clear hK K
        with_reducible repeat first | refine Jt.i ?_ | refine .g (by decide) ?_
        exact hN.out _ (view_of (vw [] [(900, [126, 100126, 121, 100121])] [] []) (by simp [sqC, sqB, eE]))
end Go.Proofs.Ytlkdkhmdmgchbaa
