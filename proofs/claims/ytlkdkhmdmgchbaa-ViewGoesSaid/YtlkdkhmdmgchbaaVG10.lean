/- texts on which the statement stands, part 10. -/
import Derived.Test.YtlkdkhmdmgchbaaVG9
namespace Go.Proofs.Ytlkdkhmdmgchbaa
set_option linter.unusedSimpArgs false
set_option linter.unusedVariables false
open Go.RowKit
attribute [local simp ↓] raw_wp hdd_wp dst0_wp slc_wp gav_bool gav_undef avpo_ptr avpo_seg avpo_wp avpo_optr avtupw_tup avtupw_wp raw_optr hdd_optr arun_nil ob_some kva_av kfree_free khfree_free khown_own klive_live knm_false chk_true ya_true gsel_tt gsel_ff gsel_tf gsel_ft vb_bool vi_int vstr_string avps_ptr avps_seg avp_ptr avagg_agg avtup_tup avb_bool avown_own shs_struct shsa_struct shsa_arr sharr_arr shl_slice shla_slice shla_arr shls_slice shls_str shi_int bc_true bc_false hd1_cons opc_some opc_none opn_some opn_none unc_not unc_neg gd_none gd_some as_move as_assign as_pick as_bin as_un as_conv as_load as_faddr as_field as_extract as_iaddr as_slice as_alloc as_box as_store as_build as_rows as_call as_append as_invoke as_copy as_nilCheck as_makeIface as_assert as_makeSlice as_lookup as_mapUpdate as_makeMap as_range as_next as_entry as_index as_fn as_len as_min as_max stMove stPick stBin stUn stConv stLoad stFaddr stField stExtract stIaddr stSlice stAlloc stBox stStore stBuild stIndex stRows stCall stAppend stFn stLen stMin stMax opd_tmp opd_const opd_func rawL_nil rawL_cons raw_c raw_st raw_a opr_e zr_nil zr_cons lvd_live hod_own obd_some obd_none kvd_av chd_true vid_int lk_cons lk_nil ins_nil ins_cons cells_zero cells_succ spread1_c spread1_own spread1_ptr spread1_fn spread1_seg spreadL_nil spreadL_cons spread_agg spread_c spread_own spread_seg spread_ptr spread_fn ex_zero ex_succ ops_e opb_none opb_int spreadD_agg spreadD_c spreadD_own spreadD_seg fillO_nil fillO_cons argsOf_nil argsOf_cons dvOf_c dvOf_seg dvOf_own dvOf_agg zrL_nil zrL_cons hdd_c hdd_seg hdd_own clz_e clv_raw clv_f callD_e dst0_n dst0_nil dst0_own goneH_e capc_ptr capc_seg capc_c capN_nil capN_cons capD_nil capD_cons deadZ_nil deadZ_cons
attribute [local simp] dok_some dok_none dflt_tmp dflt_vt dflt_cell dflt_zn dflt_nm dflt_hd dflt_sz dflt_df puts_nil puts_cons wr_some wr_none cst_agg cst_int cst_bool cst_string cst_slice cst_tuple cst_nilFunc cst_pointer cst_func bin_add bin_sub bin_mul bin_quo bin_rem bin_eql bin_neq bin_lss bin_leq bin_gtr bin_geq bin_bool bin_aggs binT_bool binT_aggs shbd_bool eqb_eql eqb_neq bin_slice bin_str_eql bin_str_neq bin_str_lss bin_str_add nz_v nz_n nz_s nz_p nz_f nz_st atz_v atz_n atz_s atz_p atz_f atz_st atz_agg atR_one atR_tup crow_nil crow_cons slc_c slc_n slc_own slc_nil raws setR placesT_nil placesT_cons zc chunk zsAll setD ocD_v ocD_n ocD_s ocD_p ocD_f ocD_st nrm_v nrm_n nrm_s nrm_p nrm_f nrm_st isV_one isV_tup isV_c isV_agg isV_v isV_n isV_s isV_p isV_f isV_st argRows Sh.agg zds_nil zds_e zds_v zds_s vcells_agg vcells_int vcells_bool vcells_string vcells_slice vcells_pointer toList_lit map_nilL map_consL nzr_e rowsOc_nil rowsOc_cons rowsOc_RD nzr_RD foks_nil foks_cons fok_tmp fok_vt fok_cell fok_nm fok_zn fok_hd fok_sz fok_df Fv_c Fv_seg Fv_tup Fv_agg Fv_ptr Fv_ptrs Fv_wp Fv_fn Fv_fnd Fv_own Fv_ownd Fv_nown Fv_vown FvL_nil FvL_cons kvp_av hdp_some subz frz Uz Nm Uh vw_nb vw_zo vw_zf vw_hb tb_nil tb_cons fzc_nil fzc_cons fzcaps_nil fzcaps_cons ty2 ty3 ty4 ty5 ty6 ty7 ty8 ty9 ty10 ty11 ty12 ty13 ty14 ty15 ty16 ty17 ty18 ty19 ty20 ty21 ty22 ty23 ty24 ty25 ty26 ty27 ty30 ty40 ty48 ty50 ty51 ty52 ty55 ty57 ty62 ty63 ty85 ty94 ty101 ty121 ty122 ty123 ty124 ty125 ty126 ty128 ty148 ty149 ty151 ty164 ty165 ty179 ty182 ty196 ty203 ty205 ty209 ty211 ty215 ty216 ty217 ty218 ty219 ty220 ty221 ty223 ty224 ty225 ty226 ty227 Value.oneCell'
set_option maxRecDepth 100000
end Go.Proofs.Ytlkdkhmdmgchbaa
namespace Go.Proofs.Ytlkdkhmdmgchbaa
set_option linter.unusedSimpArgs false
set_option linter.unusedVariables false
open Go.RowKit
set_option maxRecDepth 100000
end Go.Proofs.Ytlkdkhmdmgchbaa
namespace Go.Proofs.Ytlkdkhmdmgchbaa
set_option linter.unusedSimpArgs false
set_option linter.unusedVariables false
open Go.RowKit
attribute [local simp ↓] raw_wp hdd_wp dst0_wp slc_wp gav_bool gav_undef avpo_ptr avpo_seg avpo_wp avpo_optr avtupw_tup avtupw_wp raw_optr hdd_optr arun_nil ob_some kva_av kfree_free khfree_free khown_own klive_live knm_false chk_true ya_true gsel_tt gsel_ff gsel_tf gsel_ft vb_bool vi_int vstr_string avps_ptr avps_seg avp_ptr avagg_agg avtup_tup avb_bool avown_own shs_struct shsa_struct shsa_arr sharr_arr shl_slice shla_slice shla_arr shls_slice shls_str shi_int bc_true bc_false hd1_cons opc_some opc_none opn_some opn_none unc_not unc_neg gd_none gd_some as_move as_assign as_pick as_bin as_un as_conv as_load as_faddr as_field as_extract as_iaddr as_slice as_alloc as_box as_store as_build as_rows as_call as_append as_invoke as_copy as_nilCheck as_makeIface as_assert as_makeSlice as_lookup as_mapUpdate as_makeMap as_range as_next as_entry as_index as_fn as_len as_min as_max stMove stPick stBin stUn stConv stLoad stFaddr stField stExtract stIaddr stSlice stAlloc stBox stStore stBuild stIndex stRows stCall stAppend stFn stLen stMin stMax opd_tmp opd_const opd_func rawL_nil rawL_cons raw_c raw_st raw_a opr_e zr_nil zr_cons lvd_live hod_own obd_some obd_none kvd_av chd_true vid_int lk_cons lk_nil ins_nil ins_cons cells_zero cells_succ spread1_c spread1_own spread1_ptr spread1_fn spread1_seg spreadL_nil spreadL_cons spread_agg spread_c spread_own spread_seg spread_ptr spread_fn ex_zero ex_succ ops_e opb_none opb_int spreadD_agg spreadD_c spreadD_own spreadD_seg fillO_nil fillO_cons argsOf_nil argsOf_cons dvOf_c dvOf_seg dvOf_own dvOf_agg zrL_nil zrL_cons hdd_c hdd_seg hdd_own clz_e clv_raw clv_f callD_e dst0_n dst0_nil dst0_own goneH_e capc_ptr capc_seg capc_c capN_nil capN_cons capD_nil capD_cons deadZ_nil deadZ_cons
attribute [local simp] dok_some dok_none dflt_tmp dflt_vt dflt_cell dflt_zn dflt_nm dflt_hd dflt_sz dflt_df puts_nil puts_cons wr_some wr_none cst_agg cst_int cst_bool cst_string cst_slice cst_tuple cst_nilFunc cst_pointer cst_func bin_add bin_sub bin_mul bin_quo bin_rem bin_eql bin_neq bin_lss bin_leq bin_gtr bin_geq bin_bool bin_aggs binT_bool binT_aggs shbd_bool eqb_eql eqb_neq bin_slice bin_str_eql bin_str_neq bin_str_lss bin_str_add nz_v nz_n nz_s nz_p nz_f nz_st atz_v atz_n atz_s atz_p atz_f atz_st atz_agg atR_one atR_tup crow_nil crow_cons slc_c slc_n slc_own slc_nil raws setR placesT_nil placesT_cons zc chunk zsAll setD ocD_v ocD_n ocD_s ocD_p ocD_f ocD_st nrm_v nrm_n nrm_s nrm_p nrm_f nrm_st isV_one isV_tup isV_c isV_agg isV_v isV_n isV_s isV_p isV_f isV_st argRows Sh.agg zds_nil zds_e zds_v zds_s vcells_agg vcells_int vcells_bool vcells_string vcells_slice vcells_pointer toList_lit map_nilL map_consL nzr_e rowsOc_nil rowsOc_cons rowsOc_RD nzr_RD foks_nil foks_cons fok_tmp fok_vt fok_cell fok_nm fok_zn fok_hd fok_sz fok_df Fv_c Fv_seg Fv_tup Fv_agg Fv_ptr Fv_ptrs Fv_wp Fv_fn Fv_fnd Fv_own Fv_ownd Fv_nown Fv_vown FvL_nil FvL_cons kvp_av hdp_some subz frz Uz Nm Uh vw_nb vw_zo vw_zf vw_hb tb_nil tb_cons fzc_nil fzc_cons fzcaps_nil fzcaps_cons ty2 ty3 ty4 ty5 ty6 ty7 ty8 ty9 ty10 ty11 ty12 ty13 ty14 ty15 ty16 ty17 ty18 ty19 ty20 ty21 ty22 ty23 ty24 ty25 ty26 ty27 ty30 ty40 ty48 ty50 ty51 ty52 ty55 ty57 ty62 ty63 ty85 ty94 ty101 ty121 ty122 ty123 ty124 ty125 ty126 ty128 ty148 ty149 ty151 ty164 ty165 ty179 ty182 ty196 ty203 ty205 ty209 ty211 ty215 ty216 ty217 ty218 ty219 ty220 ty221 ty223 ty224 ty225 ty226 ty227 Value.oneCell'
set_option maxRecDepth 100000
end Go.Proofs.Ytlkdkhmdmgchbaa
namespace Go.Proofs.Ytlkdkhmdmgchbaa
set_option linter.unusedSimpArgs false
set_option linter.unusedVariables false
open Go.RowKit
set_option maxRecDepth 100000
end Go.Proofs.Ytlkdkhmdmgchbaa
namespace Go.Proofs.Ytlkdkhmdmgchbaa
set_option linter.unusedSimpArgs false
set_option linter.unusedVariables false
open Go.RowKit
attribute [local simp ↓] raw_wp hdd_wp dst0_wp slc_wp gav_bool gav_undef avpo_ptr avpo_seg avpo_wp avpo_optr avtupw_tup avtupw_wp raw_optr hdd_optr arun_nil ob_some kva_av kfree_free khfree_free khown_own klive_live knm_false chk_true ya_true gsel_tt gsel_ff gsel_tf gsel_ft vb_bool vi_int vstr_string avps_ptr avps_seg avp_ptr avagg_agg avtup_tup avb_bool avown_own shs_struct shsa_struct shsa_arr sharr_arr shl_slice shla_slice shla_arr shls_slice shls_str shi_int bc_true bc_false hd1_cons opc_some opc_none opn_some opn_none unc_not unc_neg gd_none gd_some as_move as_assign as_pick as_bin as_un as_conv as_load as_faddr as_field as_extract as_iaddr as_slice as_alloc as_box as_store as_build as_rows as_call as_append as_invoke as_copy as_nilCheck as_makeIface as_assert as_makeSlice as_lookup as_mapUpdate as_makeMap as_range as_next as_entry as_index as_fn as_len as_min as_max stMove stPick stBin stUn stConv stLoad stFaddr stField stExtract stIaddr stSlice stAlloc stBox stStore stBuild stIndex stRows stCall stAppend stFn stLen stMin stMax opd_tmp opd_const opd_func rawL_nil rawL_cons raw_c raw_st raw_a opr_e zr_nil zr_cons lvd_live hod_own obd_some obd_none kvd_av chd_true vid_int lk_cons lk_nil ins_nil ins_cons cells_zero cells_succ spread1_c spread1_own spread1_ptr spread1_fn spread1_seg spreadL_nil spreadL_cons spread_agg spread_c spread_own spread_seg spread_ptr spread_fn ex_zero ex_succ ops_e opb_none opb_int spreadD_agg spreadD_c spreadD_own spreadD_seg fillO_nil fillO_cons argsOf_nil argsOf_cons dvOf_c dvOf_seg dvOf_own dvOf_agg zrL_nil zrL_cons hdd_c hdd_seg hdd_own clz_e clv_raw clv_f callD_e dst0_n dst0_nil dst0_own goneH_e capc_ptr capc_seg capc_c capN_nil capN_cons capD_nil capD_cons deadZ_nil deadZ_cons
attribute [local simp] dok_some dok_none dflt_tmp dflt_vt dflt_cell dflt_zn dflt_nm dflt_hd dflt_sz dflt_df puts_nil puts_cons wr_some wr_none cst_agg cst_int cst_bool cst_string cst_slice cst_tuple cst_nilFunc cst_pointer cst_func bin_add bin_sub bin_mul bin_quo bin_rem bin_eql bin_neq bin_lss bin_leq bin_gtr bin_geq bin_bool bin_aggs binT_bool binT_aggs shbd_bool eqb_eql eqb_neq bin_slice bin_str_eql bin_str_neq bin_str_lss bin_str_add nz_v nz_n nz_s nz_p nz_f nz_st atz_v atz_n atz_s atz_p atz_f atz_st atz_agg atR_one atR_tup crow_nil crow_cons slc_c slc_n slc_own slc_nil raws setR placesT_nil placesT_cons zc chunk zsAll setD ocD_v ocD_n ocD_s ocD_p ocD_f ocD_st nrm_v nrm_n nrm_s nrm_p nrm_f nrm_st isV_one isV_tup isV_c isV_agg isV_v isV_n isV_s isV_p isV_f isV_st argRows Sh.agg zds_nil zds_e zds_v zds_s vcells_agg vcells_int vcells_bool vcells_string vcells_slice vcells_pointer toList_lit map_nilL map_consL nzr_e rowsOc_nil rowsOc_cons rowsOc_RD nzr_RD foks_nil foks_cons fok_tmp fok_vt fok_cell fok_nm fok_zn fok_hd fok_sz fok_df Fv_c Fv_seg Fv_tup Fv_agg Fv_ptr Fv_ptrs Fv_wp Fv_fn Fv_fnd Fv_own Fv_ownd Fv_nown Fv_vown FvL_nil FvL_cons kvp_av hdp_some subz frz Uz Nm Uh vw_nb vw_zo vw_zf vw_hb tb_nil tb_cons fzc_nil fzc_cons fzcaps_nil fzcaps_cons ty2 ty3 ty4 ty5 ty6 ty7 ty8 ty9 ty10 ty11 ty12 ty13 ty14 ty15 ty16 ty17 ty18 ty19 ty20 ty21 ty22 ty23 ty24 ty25 ty26 ty27 ty30 ty40 ty48 ty50 ty51 ty52 ty55 ty57 ty62 ty63 ty85 ty94 ty101 ty121 ty122 ty123 ty124 ty125 ty126 ty128 ty148 ty149 ty151 ty164 ty165 ty179 ty182 ty196 ty203 ty205 ty209 ty211 ty215 ty216 ty217 ty218 ty219 ty220 ty221 ty223 ty224 ty225 ty226 ty227 Value.oneCell'
set_option maxRecDepth 100000
end Go.Proofs.Ytlkdkhmdmgchbaa
namespace Go.Proofs.Ytlkdkhmdmgchbaa
set_option linter.unusedSimpArgs false
set_option linter.unusedVariables false
open Go.RowKit
set_option maxRecDepth 100000
theorem says_snoc (l : List Tr) (t : Tr) (p : Pr) : saysL (l ++ [t]) p = if p ∈ t.2 then 2 else if p ∈ t.1 then 1 else saysL l p := by
  unfold saysL
  rw [List.foldl_append]
  rfl
def sayN (x : Option Int) : Int := match x with
  | none => 0
  | some 0 => 2
  | some _ => 1
theorem says_rev : ∀ (L : List Tr) (p : Pr), saysL L.reverse p = sayN (L.foldl sayT (fun _ => none) p)
  | [], p => rfl
  | t :: L, p => by
    rw [List.reverse_cons, says_snoc, List.foldl_cons, foldT_is, sayT_is, says_rev L p]
    by_cases h2 : p ∈ t.2
    · simp [h2, sayN]
    · by_cases h3 : p ∈ t.1
      · simp [h2, h3, sayN]
      · simp [h2, h3]
theorem says_is (l : List Tr) (p : Pr) : saysL l p = sayN (saidF l p) := by
  have := says_rev l.reverse p
  rw [List.reverse_reverse] at this
  exact this
theorem says_one (l : List Tr) (p : Pr) : saysL l p = 1 ↔ saidF l p = some 1 := by
  rw [says_is]
  cases h : saidF l p with
  | none => simp [sayN]
  | some x =>
    rcases (saidF_mem l p x h).1 with rfl | rfl
    · simp [sayN]
    · simp [sayN]
def allT (l : List Tr) : List Pr := l.foldl (fun a t => unionL (unionL a t.1) t.2) []
theorem allT_s {l : List Tr} {k : Nat} (h : k < l.length) : allT (l.take (k + 1)) = unionL (unionL (allT (l.take k)) l[k].1) l[k].2 := by
  unfold allT
  rw [List.take_succ_eq_append_getElem h, List.foldl_append]
  rfl
theorem allT_go : ∀ (l : List Tr) (a : List Pr), Rises a → Rises (l.foldl (fun a t => unionL (unionL a t.1) t.2) a) ∧ (∀ p, p ∈ l.foldl (fun a t => unionL (unionL a t.1) t.2) a ↔ p ∈ a ∨ ∃ t ∈ l, p ∈ t.1 ∨ p ∈ t.2) ∧ (l.foldl (fun a t => unionL (unionL a t.1) t.2) a).length ≤ a.length + pairsN l
  | [], a, h => ⟨h, fun p => by simp, by simp [pairsN]⟩
  | t :: l, a, h => by
    obtain ⟨h1, h2, h3⟩ := allT_go l (unionL (unionL a t.1) t.2) (unionL_rises _ _)
    refine ⟨h1, fun p => ?_, ?_⟩
    · rw [List.foldl_cons, h2, unionL_mem, unionL_mem]
      simp only [List.mem_cons, exists_eq_or_imp]
      constructor
      · rintro (((h | h) | h) | h)
        · exact .inl h
        · exact .inr (.inl (.inl h))
        · exact .inr (.inl (.inr h))
        · exact .inr (.inr h)
      · rintro (h | (h | h) | h)
        · exact .inl (.inl (.inl h))
        · exact .inl (.inl (.inr h))
        · exact .inl (.inr h)
        · exact .inr h
    · rw [List.foldl_cons]
      have g1 := unionL_len (unionL a t.1) t.2
      have g2 := unionL_len a t.1
      unfold pairsN pairsT at *
      simp only [List.map_cons, List.sum_cons]
      omega
theorem allT_rises (l : List Tr) : Rises (allT l) := (allT_go l [] Rises.nil).1
theorem allT_mem (l : List Tr) (p : Pr) : p ∈ allT l ↔ ∃ t ∈ l, p ∈ t.1 ∨ p ∈ t.2 := by
  have := (allT_go l [] Rises.nil).2.1 p
  simpa [allT] using this
theorem allT_len (l : List Tr) : (allT l).length ≤ pairsN l := by
  have := (allT_go l [] Rises.nil).2.2
  simpa [allT] using this
theorem those_one (l : List Tr) : (allT l).filter (fun p => decide (saysL l p = 1)) = whichL l 1 :=
  rises_ext (List.Pairwise.sublist List.filter_sublist (allT_rises l)) (whichL_rises l 1) fun p => by
    rw [List.mem_filter, decide_eq_true_eq, says_one, whichL_mem, allT_mem]
    exact ⟨fun h => h.2, fun h => ⟨(saidF_mem l p 1 h).2, h⟩⟩
end Go.Proofs.Ytlkdkhmdmgchbaa
namespace Go.Proofs.Ytlkdkhmdmgchbaa
set_option linter.unusedSimpArgs false
set_option linter.unusedVariables false
open Go.RowKit
attribute [local simp ↓] raw_wp hdd_wp dst0_wp slc_wp gav_bool gav_undef avpo_ptr avpo_seg avpo_wp avpo_optr avtupw_tup avtupw_wp raw_optr hdd_optr arun_nil ob_some kva_av kfree_free khfree_free khown_own klive_live knm_false chk_true ya_true gsel_tt gsel_ff gsel_tf gsel_ft vb_bool vi_int vstr_string avps_ptr avps_seg avp_ptr avagg_agg avtup_tup avb_bool avown_own shs_struct shsa_struct shsa_arr sharr_arr shl_slice shla_slice shla_arr shls_slice shls_str shi_int bc_true bc_false hd1_cons opc_some opc_none opn_some opn_none unc_not unc_neg gd_none gd_some as_move as_assign as_pick as_bin as_un as_conv as_load as_faddr as_field as_extract as_iaddr as_slice as_alloc as_box as_store as_build as_rows as_call as_append as_invoke as_copy as_nilCheck as_makeIface as_assert as_makeSlice as_lookup as_mapUpdate as_makeMap as_range as_next as_entry as_index as_fn as_len as_min as_max stMove stPick stBin stUn stConv stLoad stFaddr stField stExtract stIaddr stSlice stAlloc stBox stStore stBuild stIndex stRows stCall stAppend stFn stLen stMin stMax opd_tmp opd_const opd_func rawL_nil rawL_cons raw_c raw_st raw_a opr_e zr_nil zr_cons lvd_live hod_own obd_some obd_none kvd_av chd_true vid_int lk_cons lk_nil ins_nil ins_cons cells_zero cells_succ spread1_c spread1_own spread1_ptr spread1_fn spread1_seg spreadL_nil spreadL_cons spread_agg spread_c spread_own spread_seg spread_ptr spread_fn ex_zero ex_succ ops_e opb_none opb_int spreadD_agg spreadD_c spreadD_own spreadD_seg fillO_nil fillO_cons argsOf_nil argsOf_cons dvOf_c dvOf_seg dvOf_own dvOf_agg zrL_nil zrL_cons hdd_c hdd_seg hdd_own clz_e clv_raw clv_f callD_e dst0_n dst0_nil dst0_own goneH_e capc_ptr capc_seg capc_c capN_nil capN_cons capD_nil capD_cons deadZ_nil deadZ_cons
attribute [local simp] dok_some dok_none dflt_tmp dflt_vt dflt_cell dflt_zn dflt_nm dflt_hd dflt_sz dflt_df puts_nil puts_cons wr_some wr_none cst_agg cst_int cst_bool cst_string cst_slice cst_tuple cst_nilFunc cst_pointer cst_func bin_add bin_sub bin_mul bin_quo bin_rem bin_eql bin_neq bin_lss bin_leq bin_gtr bin_geq bin_bool bin_aggs binT_bool binT_aggs shbd_bool eqb_eql eqb_neq bin_slice bin_str_eql bin_str_neq bin_str_lss bin_str_add nz_v nz_n nz_s nz_p nz_f nz_st atz_v atz_n atz_s atz_p atz_f atz_st atz_agg atR_one atR_tup crow_nil crow_cons slc_c slc_n slc_own slc_nil raws setR placesT_nil placesT_cons zc chunk zsAll setD ocD_v ocD_n ocD_s ocD_p ocD_f ocD_st nrm_v nrm_n nrm_s nrm_p nrm_f nrm_st isV_one isV_tup isV_c isV_agg isV_v isV_n isV_s isV_p isV_f isV_st argRows Sh.agg zds_nil zds_e zds_v zds_s vcells_agg vcells_int vcells_bool vcells_string vcells_slice vcells_pointer toList_lit map_nilL map_consL nzr_e rowsOc_nil rowsOc_cons rowsOc_RD nzr_RD foks_nil foks_cons fok_tmp fok_vt fok_cell fok_nm fok_zn fok_hd fok_sz fok_df Fv_c Fv_seg Fv_tup Fv_agg Fv_ptr Fv_ptrs Fv_wp Fv_fn Fv_fnd Fv_own Fv_ownd Fv_nown Fv_vown FvL_nil FvL_cons kvp_av hdp_some subz frz Uz Nm Uh vw_nb vw_zo vw_zf vw_hb tb_nil tb_cons fzc_nil fzc_cons fzcaps_nil fzcaps_cons ty2 ty3 ty4 ty5 ty6 ty7 ty8 ty9 ty10 ty11 ty12 ty13 ty14 ty15 ty16 ty17 ty18 ty19 ty20 ty21 ty22 ty23 ty24 ty25 ty26 ty27 ty30 ty40 ty48 ty50 ty51 ty52 ty55 ty57 ty62 ty63 ty85 ty94 ty101 ty121 ty122 ty123 ty124 ty125 ty126 ty128 ty148 ty149 ty151 ty164 ty165 ty179 ty182 ty196 ty203 ty205 ty209 ty211 ty215 ty216 ty217 ty218 ty219 ty220 ty221 ty223 ty224 ty225 ty226 ty227 Value.oneCell'
set_option maxRecDepth 100000
def rrS (l : List Tr) (k : Nat) : Row := [(.zn 0, .zn .live), (.tmp 0, .av (.c [0] (TsD l))), (.tmp 5, .av (.c [0] (TsD l))), (.tmp 6, .av (.c [] (.v (.int .i64 l.length)))), (.tmp 7, .av (.c [] (.v (.int .i64 k))))]
set_option maxHeartbeats 4000000 in
theorem rright11_ct (l : List Tr) (hl : l.length ≤ 1000) (hs : ∀ t ∈ l, t.1.length ≤ 1000000) : Ct Try.prog 45 [.c (TsD l)] none (.one (dB (tsR l))) := by
  refine ct_intro Try.func45 rfl Try.ntmps45 (by simp) (fun W0 Z => ?_)
  with_reducible repeat first | refine Jt.i ?_ | refine .g (by decide) ?_
  refine AW.at_ (fun L hL => ?_)
  simp at hL
  subst hL
  refine AW.rc 1 fun K hK => ?_
  repeat (with_reducible refine .s fun X Y Z W => ?_; simp; (first | refine Z.out _ _ ?_ | refine W.out _ ?_ | refine ⟨by kernel_rfl, W.out _ ?_⟩); clear Z W X Y; simp); (try refine .n ?_)
  refine Jt.f hK ?_
  clear hK K
  with_reducible repeat first | refine Jt.i ?_ | refine .g (by decide) ?_
  refine AW.rc 10 fun K hK => ?_
  repeat (with_reducible refine .s fun X Y Z W => ?_; simp; (first | refine Z.out _ _ ?_ | refine W.out _ ?_ | refine ⟨by kernel_rfl, W.out _ ?_⟩); clear Z W X Y; simp); (try refine .n ?_)
  refine Jt.f hK ?_
  clear hK K
  with_reducible repeat first | refine Jt.i ?_ | refine .g (by decide) ?_
  refine AW.loop (X := { k : Nat // k ≤ l.length ∧ (l.take k).all oneL = true }) (fun x => rrS l x.1) (fun x => l.length - x.1) ⟨0, by simp⟩ (view_of (vw [] [] [] []) (by simp [rrS])) (fun x => ?_)
  obtain ⟨k, hk, hka⟩ := x
  refine AW.at_ (fun L hL => ?_)
  simp [rrS] at hL
  subst hL
  with_reducible repeat first | refine Jt.i ?_ | refine .g (by decide) ?_
  by_cases hgo : k < l.length
  · have w5 : IntKind.i64.wrap ((k : Int) + 1) = ((k + 1 : Nat) : Int) := by rw [i64_ok _ (by omega) (by omega)]; omega
    obtain ⟨t, ht⟩ : ∃ t, l[k] = t := ⟨_, rfl⟩
    have htm : t ∈ l := by rw [← ht]; exact List.getElem_mem hgo
    have c1 := one_ct t (hs t htm)
    refine AW.rc 100 fun K hK => ?_
    repeat (with_reducible refine .s fun X Y Z W => ?_; simp [hgo]; (first | refine Z.out _ _ ?_ | refine W.out _ ?_ | refine ⟨by kernel_rfl, W.out _ ?_⟩); clear Z W X Y; simp [hgo]); (try refine .n ?_)
    refine Jt.f hK ?_
    clear hK K
    with_reducible repeat first | refine Jt.i ?_ | refine .g (by decide) ?_
    refine AW.ct rfl ?_
    with_reducible repeat first | refine Jt.i ?_ | refine .g (by decide) ?_
    refine AW.rc 110 fun K hK => ?_
    repeat (with_reducible refine .s fun X Y Z W => ?_; simp [hgo]; (first | refine Z.out _ _ ?_ | refine W.out _ ?_ | refine ⟨by kernel_rfl, W.out _ ?_⟩); clear Z W X Y; simp [hgo]); (try refine .n ?_)
    refine .s fun K1 K2 hK1 hK2 => ?_
    simp [hgo]
    first | refine ⟨k, [RD t.1, RD t.2], rfl, by simp [hgo, ht], ?_⟩ | refine orr_l ⟨k, [RD t.1, RD t.2], rfl, by simp [hgo, ht], ?_⟩
    refine hK1.out _ _ ?_
    clear hK1 hK2 K1 K2
    (try simp [hgo])
    repeat (with_reducible refine .s fun X Y Z W => ?_; simp [hgo]; (first | refine Z.out _ _ ?_ | refine W.out _ ?_ | refine ⟨by kernel_rfl, W.out _ ?_⟩); clear Z W X Y; simp [hgo]); (try refine .n ?_)
    refine Jt.f hK ?_
    clear hK K
    with_reducible repeat first | refine Jt.i ?_ | refine .g (by decide) ?_
    cases h1 : oneL t with
    | true =>
      rw [h1] at c1
      have hk1 : (l.take (k + 1)).all oneL = true := by
        rw [List.take_succ_eq_append_getElem hgo, List.all_append, hka, ht]
        simp [h1]
      refine AW.rc 120 fun K hK => ?_
      repeat (with_reducible refine .s fun X Y Z W => ?_; simp; (first | refine Z.out _ _ ?_ | refine W.out _ ?_ | refine ⟨by kernel_rfl, W.out _ ?_⟩); clear Z W X Y; simp); (try refine .n ?_)
      refine .s fun K1 K2 hK1 hK2 => ?_
      simp
      refine orr_l ⟨by kernel_rfl, .inl ⟨_, c1, ?_⟩⟩
      (try simp)
      refine hK1.out _ _ ?_
      clear hK1 hK2 K1 K2
      (try simp)
      repeat (with_reducible refine .s fun X Y Z W => ?_; simp; (first | refine Z.out _ _ ?_ | refine W.out _ ?_ | refine ⟨by kernel_rfl, W.out _ ?_⟩); clear Z W X Y; simp); (try refine .n ?_)
      refine Jt.f hK ?_
      clear hK K
      with_reducible repeat first | refine Jt.i ?_ | refine .g (by decide) ?_
      refine AW.cf rfl ?_
      with_reducible repeat first | refine Jt.i ?_ | refine .g (by decide) ?_
      refine AW.rc 130 fun K hK => ?_
      repeat (with_reducible refine .s fun X Y Z W => ?_; simp [w5]; (first | refine Z.out _ _ ?_ | refine W.out _ ?_ | refine ⟨by kernel_rfl, W.out _ ?_⟩); clear Z W X Y; simp [w5]); (try refine .n ?_)
      refine Jt.f hK ?_
      clear hK K
      with_reducible repeat first | refine Jt.i ?_ | refine .g (by decide) ?_
      exact NX.round ⟨k + 1, hgo, hk1⟩ (by show l.length - (k + 1) < l.length - k; omega) (view_of (vw [] [] [] []) (by simp [rrS]))
    | false =>
      rw [h1] at c1
      have hf : tsR l = false := by
        unfold tsR
        rw [Bool.and_eq_false_iff]
        right
        rw [List.all_eq_false]
        exact ⟨t, htm, by rw [h1]; simp⟩
      rw [hf]
      refine AW.rc 120 fun K hK => ?_
      repeat (with_reducible refine .s fun X Y Z W => ?_; simp [w5]; (first | refine Z.out _ _ ?_ | refine W.out _ ?_ | refine ⟨by kernel_rfl, W.out _ ?_⟩); clear Z W X Y; simp [w5]); (try refine .n ?_)
      refine .s fun K1 K2 hK1 hK2 => ?_
      simp [w5]
      refine orr_l ⟨by kernel_rfl, .inl ⟨_, c1, ?_⟩⟩
      (try simp [w5])
      refine hK1.out _ _ ?_
      clear hK1 hK2 K1 K2
      (try simp [w5])
      repeat (with_reducible refine .s fun X Y Z W => ?_; simp [w5]; (first | refine Z.out _ _ ?_ | refine W.out _ ?_ | refine ⟨by kernel_rfl, W.out _ ?_⟩); clear Z W X Y; simp [w5]); (try refine .n ?_)
      refine Jt.f hK ?_
      clear hK K
      with_reducible repeat first | refine Jt.i ?_ | refine .g (by decide) ?_
      refine AW.ct rfl ?_
      with_reducible repeat first | refine Jt.i ?_ | refine .g (by decide) ?_
      refine AW.rc 140 fun K hK => ?_
      repeat (with_reducible refine .s fun X Y Z W => ?_; simp [w5]; (first | refine Z.out _ _ ?_ | refine W.out _ ?_ | refine ⟨by kernel_rfl, W.out _ ?_⟩); clear Z W X Y; simp [w5]); (try refine .n ?_)
      refine Jt.f hK ?_
      clear hK K
      with_reducible repeat first | refine Jt.i ?_ | refine .g (by decide) ?_
      refine nx_ret (T := ty) (rs := [.tmp 2]) (zs := []) (ds := [dB false]) (rr := []) (.inr rfl) rfl (by kernel_rfl) (by kernel_rfl) (by simp) rfl
  · obtain rfl : k = l.length := by omega
    rw [List.take_length] at hka
    have hf : tsR l = decide (l.length ≤ 24) := by unfold tsR; rw [hka, Bool.and_true]
    rw [hf]
    by_cases h24 : l.length ≤ 24
    · have h24i : (l.length : Int) ≤ 24 := by omega
      rw [decide_eq_true h24]
      refine AW.rc 200 fun K hK => ?_
      repeat (with_reducible refine .s fun X Y Z W => ?_; simp; (first | refine Z.out _ _ ?_ | refine W.out _ ?_ | refine ⟨by kernel_rfl, W.out _ ?_⟩); clear Z W X Y; simp); (try refine .n ?_)
      refine Jt.f hK ?_
      clear hK K
      with_reducible repeat first | refine Jt.i ?_ | refine .g (by decide) ?_
      refine AW.cf rfl ?_
      with_reducible repeat first | refine Jt.i ?_ | refine .g (by decide) ?_
      refine AW.rc 210 fun K hK => ?_
      repeat (with_reducible refine .s fun X Y Z W => ?_; simp [h24, h24i]; (first | refine Z.out _ _ ?_ | refine W.out _ ?_ | refine ⟨by kernel_rfl, W.out _ ?_⟩); clear Z W X Y; simp [h24, h24i]); (try refine .n ?_)
      refine Jt.f hK ?_
      clear hK K
      with_reducible repeat first | refine Jt.i ?_ | refine .g (by decide) ?_
      refine nx_ret (T := ty) (rs := [.tmp 2]) (zs := []) (ds := [dB true]) (rr := []) (.inr rfl) rfl (by kernel_rfl) (by kernel_rfl) (by simp) rfl
    · have h24i : ¬ (l.length : Int) ≤ 24 := by omega
      rw [decide_eq_false h24]
      refine AW.rc 200 fun K hK => ?_
      repeat (with_reducible refine .s fun X Y Z W => ?_; simp; (first | refine Z.out _ _ ?_ | refine W.out _ ?_ | refine ⟨by kernel_rfl, W.out _ ?_⟩); clear Z W X Y; simp); (try refine .n ?_)
      refine Jt.f hK ?_
      clear hK K
      with_reducible repeat first | refine Jt.i ?_ | refine .g (by decide) ?_
      refine AW.cf rfl ?_
      with_reducible repeat first | refine Jt.i ?_ | refine .g (by decide) ?_
      refine AW.rc 210 fun K hK => ?_
      repeat (with_reducible refine .s fun X Y Z W => ?_; simp [h24, h24i]; (first | refine Z.out _ _ ?_ | refine W.out _ ?_ | refine ⟨by kernel_rfl, W.out _ ?_⟩); clear Z W X Y; simp [h24, h24i]); (try refine .n ?_)
      refine Jt.f hK ?_
      clear hK K
      with_reducible repeat first | refine Jt.i ?_ | refine .g (by decide) ?_
      refine nx_ret (T := ty) (rs := [.tmp 2]) (zs := []) (ds := [dB false]) (rr := []) (.inr rfl) rfl (by kernel_rfl) (by kernel_rfl) (by simp) rfl
end Go.Proofs.Ytlkdkhmdmgchbaa
namespace Go.Proofs.Ytlkdkhmdmgchbaa
set_option linter.unusedSimpArgs false
set_option linter.unusedVariables false
open Go.RowKit
set_option maxRecDepth 100000
end Go.Proofs.Ytlkdkhmdmgchbaa
namespace Go.Proofs.Ytlkdkhmdmgchbaa
set_option linter.unusedSimpArgs false
set_option linter.unusedVariables false
open Go.RowKit
attribute [local simp ↓] raw_wp hdd_wp dst0_wp slc_wp gav_bool gav_undef avpo_ptr avpo_seg avpo_wp avpo_optr avtupw_tup avtupw_wp raw_optr hdd_optr arun_nil ob_some kva_av kfree_free khfree_free khown_own klive_live knm_false chk_true ya_true gsel_tt gsel_ff gsel_tf gsel_ft vb_bool vi_int vstr_string avps_ptr avps_seg avp_ptr avagg_agg avtup_tup avb_bool avown_own shs_struct shsa_struct shsa_arr sharr_arr shl_slice shla_slice shla_arr shls_slice shls_str shi_int bc_true bc_false hd1_cons opc_some opc_none opn_some opn_none unc_not unc_neg gd_none gd_some as_move as_assign as_pick as_bin as_un as_conv as_load as_faddr as_field as_extract as_iaddr as_slice as_alloc as_box as_store as_build as_rows as_call as_append as_invoke as_copy as_nilCheck as_makeIface as_assert as_makeSlice as_lookup as_mapUpdate as_makeMap as_range as_next as_entry as_index as_fn as_len as_min as_max stMove stPick stBin stUn stConv stLoad stFaddr stField stExtract stIaddr stSlice stAlloc stBox stStore stBuild stIndex stRows stCall stAppend stFn stLen stMin stMax opd_tmp opd_const opd_func rawL_nil rawL_cons raw_c raw_st raw_a opr_e zr_nil zr_cons lvd_live hod_own obd_some obd_none kvd_av chd_true vid_int lk_cons lk_nil ins_nil ins_cons cells_zero cells_succ spread1_c spread1_own spread1_ptr spread1_fn spread1_seg spreadL_nil spreadL_cons spread_agg spread_c spread_own spread_seg spread_ptr spread_fn ex_zero ex_succ ops_e opb_none opb_int spreadD_agg spreadD_c spreadD_own spreadD_seg fillO_nil fillO_cons argsOf_nil argsOf_cons dvOf_c dvOf_seg dvOf_own dvOf_agg zrL_nil zrL_cons hdd_c hdd_seg hdd_own clz_e clv_raw clv_f callD_e dst0_n dst0_nil dst0_own goneH_e capc_ptr capc_seg capc_c capN_nil capN_cons capD_nil capD_cons deadZ_nil deadZ_cons
attribute [local simp] dok_some dok_none dflt_tmp dflt_vt dflt_cell dflt_zn dflt_nm dflt_hd dflt_sz dflt_df puts_nil puts_cons wr_some wr_none cst_agg cst_int cst_bool cst_string cst_slice cst_tuple cst_nilFunc cst_pointer cst_func bin_add bin_sub bin_mul bin_quo bin_rem bin_eql bin_neq bin_lss bin_leq bin_gtr bin_geq bin_bool bin_aggs binT_bool binT_aggs shbd_bool eqb_eql eqb_neq bin_slice bin_str_eql bin_str_neq bin_str_lss bin_str_add nz_v nz_n nz_s nz_p nz_f nz_st atz_v atz_n atz_s atz_p atz_f atz_st atz_agg atR_one atR_tup crow_nil crow_cons slc_c slc_n slc_own slc_nil raws setR placesT_nil placesT_cons zc chunk zsAll setD ocD_v ocD_n ocD_s ocD_p ocD_f ocD_st nrm_v nrm_n nrm_s nrm_p nrm_f nrm_st isV_one isV_tup isV_c isV_agg isV_v isV_n isV_s isV_p isV_f isV_st argRows Sh.agg zds_nil zds_e zds_v zds_s vcells_agg vcells_int vcells_bool vcells_string vcells_slice vcells_pointer toList_lit map_nilL map_consL nzr_e rowsOc_nil rowsOc_cons rowsOc_RD nzr_RD foks_nil foks_cons fok_tmp fok_vt fok_cell fok_nm fok_zn fok_hd fok_sz fok_df Fv_c Fv_seg Fv_tup Fv_agg Fv_ptr Fv_ptrs Fv_wp Fv_fn Fv_fnd Fv_own Fv_ownd Fv_nown Fv_vown FvL_nil FvL_cons kvp_av hdp_some subz frz Uz Nm Uh vw_nb vw_zo vw_zf vw_hb tb_nil tb_cons fzc_nil fzc_cons fzcaps_nil fzcaps_cons ty2 ty3 ty4 ty5 ty6 ty7 ty8 ty9 ty10 ty11 ty12 ty13 ty14 ty15 ty16 ty17 ty18 ty19 ty20 ty21 ty22 ty23 ty24 ty25 ty26 ty27 ty30 ty40 ty48 ty50 ty51 ty52 ty55 ty57 ty62 ty63 ty85 ty94 ty101 ty121 ty122 ty123 ty124 ty125 ty126 ty128 ty148 ty149 ty151 ty164 ty165 ty179 ty182 ty196 ty203 ty205 ty209 ty211 ty215 ty216 ty217 ty218 ty219 ty220 ty221 ty223 ty224 ty225 ty226 ty227 Value.oneCell'
set_option maxRecDepth 100000
end Go.Proofs.Ytlkdkhmdmgchbaa
namespace Go.Proofs.Ytlkdkhmdmgchbaa
set_option linter.unusedSimpArgs false
set_option linter.unusedVariables false
open Go.RowKit
set_option maxRecDepth 100000
theorem own26_fact {l : List Tr} (hw : ∀ t ∈ l, wfT t) : (own26 l).length ≤ 26 ∧ ∀ t ∈ own26 l, t.1.length ≤ 16 ∧ t.2.length ≤ 16 ∧ wfT t := by
  unfold own26
  refine ⟨by rw [List.length_map, List.length_take]; omega, fun t ht => ?_⟩
  obtain ⟨s, hs, rfl⟩ := List.mem_map.1 ht
  have := hw s (List.mem_of_mem_take hs)
  exact ⟨by simp [o16, List.length_take]; omega, by simp [o16, List.length_take]; omega, fun p hp => this.1 p (List.mem_of_mem_take hp), fun p hp => this.2 p (List.mem_of_mem_take hp)⟩
theorem allT_nil : allT [] = [] := rfl
theorem rd_nil : ([] : List Pr).map PD = [] := rfl
theorem skip_len (p : Pr) (l : List Pr) : (skipR p l).length ≤ l.length := List.length_filter_le _ _
end Go.Proofs.Ytlkdkhmdmgchbaa
namespace Go.Proofs.Ytlkdkhmdmgchbaa
set_option linter.unusedSimpArgs false
set_option linter.unusedVariables false
open Go.RowKit
attribute [local simp ↓] raw_wp hdd_wp dst0_wp slc_wp gav_bool gav_undef avpo_ptr avpo_seg avpo_wp avpo_optr avtupw_tup avtupw_wp raw_optr hdd_optr arun_nil ob_some kva_av kfree_free khfree_free khown_own klive_live knm_false chk_true ya_true gsel_tt gsel_ff gsel_tf gsel_ft vb_bool vi_int vstr_string avps_ptr avps_seg avp_ptr avagg_agg avtup_tup avb_bool avown_own shs_struct shsa_struct shsa_arr sharr_arr shl_slice shla_slice shla_arr shls_slice shls_str shi_int bc_true bc_false hd1_cons opc_some opc_none opn_some opn_none unc_not unc_neg gd_none gd_some as_move as_assign as_pick as_bin as_un as_conv as_load as_faddr as_field as_extract as_iaddr as_slice as_alloc as_box as_store as_build as_rows as_call as_append as_invoke as_copy as_nilCheck as_makeIface as_assert as_makeSlice as_lookup as_mapUpdate as_makeMap as_range as_next as_entry as_index as_fn as_len as_min as_max stMove stPick stBin stUn stConv stLoad stFaddr stField stExtract stIaddr stSlice stAlloc stBox stStore stBuild stIndex stRows stCall stAppend stFn stLen stMin stMax opd_tmp opd_const opd_func rawL_nil rawL_cons raw_c raw_st raw_a opr_e zr_nil zr_cons lvd_live hod_own obd_some obd_none kvd_av chd_true vid_int lk_cons lk_nil ins_nil ins_cons cells_zero cells_succ spread1_c spread1_own spread1_ptr spread1_fn spread1_seg spreadL_nil spreadL_cons spread_agg spread_c spread_own spread_seg spread_ptr spread_fn ex_zero ex_succ ops_e opb_none opb_int spreadD_agg spreadD_c spreadD_own spreadD_seg fillO_nil fillO_cons argsOf_nil argsOf_cons dvOf_c dvOf_seg dvOf_own dvOf_agg zrL_nil zrL_cons hdd_c hdd_seg hdd_own clz_e clv_raw clv_f callD_e dst0_n dst0_nil dst0_own goneH_e capc_ptr capc_seg capc_c capN_nil capN_cons capD_nil capD_cons deadZ_nil deadZ_cons
attribute [local simp] dok_some dok_none dflt_tmp dflt_vt dflt_cell dflt_zn dflt_nm dflt_hd dflt_sz dflt_df puts_nil puts_cons wr_some wr_none cst_agg cst_int cst_bool cst_string cst_slice cst_tuple cst_nilFunc cst_pointer cst_func bin_add bin_sub bin_mul bin_quo bin_rem bin_eql bin_neq bin_lss bin_leq bin_gtr bin_geq bin_bool bin_aggs binT_bool binT_aggs shbd_bool eqb_eql eqb_neq bin_slice bin_str_eql bin_str_neq bin_str_lss bin_str_add nz_v nz_n nz_s nz_p nz_f nz_st atz_v atz_n atz_s atz_p atz_f atz_st atz_agg atR_one atR_tup crow_nil crow_cons slc_c slc_n slc_own slc_nil raws setR placesT_nil placesT_cons zc chunk zsAll setD ocD_v ocD_n ocD_s ocD_p ocD_f ocD_st nrm_v nrm_n nrm_s nrm_p nrm_f nrm_st isV_one isV_tup isV_c isV_agg isV_v isV_n isV_s isV_p isV_f isV_st argRows Sh.agg zds_nil zds_e zds_v zds_s vcells_agg vcells_int vcells_bool vcells_string vcells_slice vcells_pointer toList_lit map_nilL map_consL nzr_e rowsOc_nil rowsOc_cons rowsOc_RD nzr_RD foks_nil foks_cons fok_tmp fok_vt fok_cell fok_nm fok_zn fok_hd fok_sz fok_df Fv_c Fv_seg Fv_tup Fv_agg Fv_ptr Fv_ptrs Fv_wp Fv_fn Fv_fnd Fv_own Fv_ownd Fv_nown Fv_vown FvL_nil FvL_cons kvp_av hdp_some subz frz Uz Nm Uh vw_nb vw_zo vw_zf vw_hb tb_nil tb_cons fzc_nil fzc_cons fzcaps_nil fzcaps_cons ty2 ty3 ty4 ty5 ty6 ty7 ty8 ty9 ty10 ty11 ty12 ty13 ty14 ty15 ty16 ty17 ty18 ty19 ty20 ty21 ty22 ty23 ty24 ty25 ty26 ty27 ty30 ty40 ty48 ty50 ty51 ty52 ty55 ty57 ty62 ty63 ty85 ty94 ty101 ty121 ty122 ty123 ty124 ty125 ty126 ty128 ty148 ty149 ty151 ty164 ty165 ty179 ty182 ty196 ty203 ty205 ty209 ty211 ty215 ty216 ty217 ty218 ty219 ty220 ty221 ty223 ty224 ty225 ty226 ty227 Value.oneCell'
set_option maxRecDepth 100000
def thA (l : List Tr) (says : Int) (k : Nat) : Row := [(.zn 0, .zn .live), (.tmp 0, .av (.c [0] (TsD l))), (.tmp 1, .av (.c [] (.v (.int .i64 says)))), (.zn 900, .zn .live), (.zn 901, .zn .live), (.hd 900, .hd (.own 52 2 900 [901] ((allT (l.take k)).map PD))), (.tmp 5, .av (.own 900)),
  (.tmp 11, .av (.c [0] (TsD l))), (.tmp 12, .av (.c [] (.v (.int .i64 l.length)))), (.tmp 13, .av (.c [] (.v (.int .i64 k))))]
def thF (l : List Tr) (says : Int) (p : Pr) : Bool := decide (saysL l p = says)
def thB (l : List Tr) (says : Int) (A : List Pr) (k : Nat) : Row := [(.zn 0, .zn .live), (.tmp 0, .av (.c [0] (TsD l))), (.tmp 1, .av (.c [] (.v (.int .i64 says)))), (.zn 902, .zn .live), (.zn 903, .zn .live), (.hd 902, .hd (.own 52 2 902 [903] (((A.take k).filter (thF l says)).map PD))), (.tmp 8, .av (.own 902)),
  (.zn 900, .zn .live), (.zn 901, .zn .live), (.hd 900, .hd (.own 52 2 900 [901] (A.map PD))), (.tmp 25, .av (.own 900)), (.tmp 26, .av (.c [] (.v (.int .i64 A.length)))), (.tmp 27, .av (.c [] (.v (.int .i64 k))))]
set_option maxHeartbeats 8000000 in
theorem those11_ct (l : List Tr) (says : Int) (hl : l.length ≤ 1000000) (hs : ∀ t ∈ l, t.1.length ≤ 100000 ∧ t.2.length ≤ 100000) (hn : pairsN l ≤ 400000) : Ct Try.prog 110 [.c (TsD l), dI says] (some 52) (.one (.c (RD ((allT l).filter (thF l says))))) := by
  refine ct_intro Try.func110 rfl Try.ntmps110 (by simp) (fun W0 Z => ?_)
  with_reducible repeat first | refine Jt.i ?_ | refine .g (by decide) ?_
  refine AW.at_ (fun L hL => ?_)
  simp at hL
  subst hL
  refine AW.rc 1 fun K hK => ?_
  repeat (with_reducible refine .s fun X Y Z W => ?_; simp; (first | refine Z.out _ _ ?_ | refine W.out _ ?_ | refine ⟨by kernel_rfl, W.out _ ?_⟩); clear Z W X Y; simp); (try refine .n ?_)
  refine Jt.f hK ?_
  clear hK K
  with_reducible repeat first | refine Jt.i ?_ | refine .g (by decide) ?_
  refine AW.rc 10 fun K hK => ?_
  repeat (with_reducible refine .s fun X Y Z W => ?_; simp; (first | refine Z.out _ _ ?_ | refine W.out _ ?_ | refine ⟨by kernel_rfl, W.out _ ?_⟩); clear Z W X Y; simp); (try refine .n ?_)
  refine Jt.f hK ?_
  clear hK K
  with_reducible repeat first | refine Jt.i ?_ | refine .g (by decide) ?_
  refine AW.rc 20 fun K hK => ?_
  repeat (with_reducible refine .s fun X Y Z W => ?_; simp; (first | refine Z.out _ _ ?_ | refine W.out _ ?_ | refine ⟨by kernel_rfl, W.out _ ?_⟩); clear Z W X Y; simp); (try refine .n ?_)
  refine Jt.f hK ?_
  clear hK K
  with_reducible repeat first | refine Jt.i ?_ | refine .g (by decide) ?_
  refine AW.loop (X := { k : Nat // k ≤ l.length }) (fun x => thA l says x.1) (fun x => l.length - x.1) ⟨0, by simp⟩ (view_of (vw [] [(900, []), (901, [])] [] [(900, none)]) (by simp [thA, allT_nil, rd_nil])) (fun x => ?_)
  obtain ⟨k, hk⟩ := x
  refine AW.at_ (fun L hL => ?_)
  simp [thA] at hL
  subst hL
  with_reducible repeat first | refine Jt.i ?_ | refine .g (by decide) ?_
  by_cases hgo : k < l.length
  · have w5 : IntKind.i64.wrap ((k : Int) + 1) = ((k + 1 : Nat) : Int) := by rw [i64_ok _ (by omega) (by omega)]; omega
    obtain ⟨t, ht⟩ : ∃ t, l[k] = t := ⟨_, rfl⟩
    have hts := hs t (by rw [← ht]; exact List.getElem_mem hgo)
    have FA := allT_s hgo
    rw [ht] at FA
    have LA := Nat.le_trans (allT_len (l.take k)) (pairsN_le l k)
    have cu1 := runion_ct (allT (l.take k)) t.1 (by omega) (by omega)
    have LB := unionL_len (allT (l.take k)) t.1
    have cu2 := runion_ct (unionL (allT (l.take k)) t.1) t.2 (by omega) (by omega)
    rw [← FA] at cu2
    generalize unionL (allT (l.take k)) t.1 = B at *
    obtain ⟨C, hC⟩ : ∃ C, allT (l.take (k + 1)) = C := ⟨_, rfl⟩
    rw [hC] at cu2
    clear FA
    generalize allT (l.take k) = A at *
    refine AW.rc 100 fun K hK => ?_
    repeat (with_reducible refine .s fun X Y Z W => ?_; simp [hgo]; (first | refine Z.out _ _ ?_ | refine W.out _ ?_ | refine ⟨by kernel_rfl, W.out _ ?_⟩); clear Z W X Y; simp [hgo]); (try refine .n ?_)
    refine Jt.f hK ?_
    clear hK K
    with_reducible repeat first | refine Jt.i ?_ | refine .g (by decide) ?_
    refine AW.ct rfl ?_
    with_reducible repeat first | refine Jt.i ?_ | refine .g (by decide) ?_
    refine AW.rc 110 fun K hK => ?_
    repeat (with_reducible refine .s fun X Y Z W => ?_; simp [hgo]; (first | refine Z.out _ _ ?_ | refine W.out _ ?_ | refine ⟨by kernel_rfl, W.out _ ?_⟩); clear Z W X Y; simp [hgo]); (try refine .n ?_)
    refine .s fun K1 K2 hK1 hK2 => ?_
    simp [hgo]
    first | refine ⟨k, [RD t.1, RD t.2], rfl, by simp [hgo, ht], ?_⟩ | refine orr_l ⟨k, [RD t.1, RD t.2], rfl, by simp [hgo, ht], ?_⟩
    refine hK1.out _ _ ?_
    clear hK1 hK2 K1 K2
    (try simp [hgo])
    repeat (with_reducible refine .s fun X Y Z W => ?_; simp [hgo]; (first | refine Z.out _ _ ?_ | refine W.out _ ?_ | refine ⟨by kernel_rfl, W.out _ ?_⟩); clear Z W X Y; simp [hgo]); (try refine .n ?_)
    refine Jt.f hK ?_
    clear hK K
    with_reducible repeat first | refine Jt.i ?_ | refine .g (by decide) ?_
    refine AW.rc 120 fun K hK => ?_
    repeat (with_reducible refine .s fun X Y Z W => ?_; simp; (first | refine Z.out _ _ ?_ | refine W.out _ ?_ | refine ⟨by kernel_rfl, W.out _ ?_⟩); clear Z W X Y; simp); (try refine .n ?_)
    refine .s fun K1 K2 hK1 hK2 => ?_
    simp
    refine orr_l ⟨by kernel_rfl, .inr (.inl ⟨_, _, _, cu1, ?_⟩)⟩
    (try simp)
    refine hK1.out _ _ ?_
    clear hK1 hK2 K1 K2
    (try simp)
    repeat (with_reducible refine .s fun X Y Z W => ?_; simp; (first | refine Z.out _ _ ?_ | refine W.out _ ?_ | refine ⟨by kernel_rfl, W.out _ ?_⟩); clear Z W X Y; simp); (try refine .n ?_)
    refine .s fun K1 K2 hK1 hK2 => ?_
    simp
    refine orr_l ⟨by kernel_rfl, .inr (.inl ⟨_, _, _, cu2, ?_⟩)⟩
    (try simp)
    refine hK1.out _ _ ?_
    clear hK1 hK2 K1 K2
    (try simp)
    repeat (with_reducible refine .s fun X Y Z W => ?_; simp; (first | refine Z.out _ _ ?_ | refine W.out _ ?_ | refine ⟨by kernel_rfl, W.out _ ?_⟩); clear Z W X Y; simp); (try refine .n ?_)
    refine ⟨chk_drawn (by kernel_rfl) (by kernel_rfl), hK.out _ ?_⟩
    clear hK K
    with_reducible repeat first | refine Jt.i ?_ | refine .g (by decide) ?_
    refine AW.rc 140 fun K hK => ?_
    repeat (with_reducible refine .s fun X Y Z W => ?_; simp [w5]; (first | refine Z.out _ _ ?_ | refine W.out _ ?_ | refine ⟨by kernel_rfl, W.out _ ?_⟩); clear Z W X Y; simp [w5]); (try refine .n ?_)
    refine Jt.f hK ?_
    clear hK K
    with_reducible repeat first | refine Jt.i ?_ | refine .g (by decide) ?_
    exact NX.round ⟨k + 1, hgo⟩ (by show l.length - (k + 1) < l.length - k; omega) (view_of (vw [] [(900, [126]), (901, [100126])] [] [(900, some 126)]) (by simp [thA, hC]))
  · obtain rfl : k = l.length := by omega
    rw [List.take_length]
    have LA := allT_len l
    generalize allT l = A at *
    refine AW.rc 200 fun K hK => ?_
    repeat (with_reducible refine .s fun X Y Z W => ?_; simp; (first | refine Z.out _ _ ?_ | refine W.out _ ?_ | refine ⟨by kernel_rfl, W.out _ ?_⟩); clear Z W X Y; simp); (try refine .n ?_)
    refine Jt.f hK ?_
    clear hK K
    with_reducible repeat first | refine Jt.i ?_ | refine .g (by decide) ?_
    refine AW.cf rfl ?_
    with_reducible repeat first | refine Jt.i ?_ | refine .g (by decide) ?_
    refine AW.rc 210 fun K hK => ?_
    repeat (with_reducible refine .s fun X Y Z W => ?_; simp; (first | refine Z.out _ _ ?_ | refine W.out _ ?_ | refine ⟨by kernel_rfl, W.out _ ?_⟩); clear Z W X Y; simp); (try refine .n ?_)
    refine Jt.f hK ?_
    clear hK K
    with_reducible repeat first | refine Jt.i ?_ | refine .g (by decide) ?_
    refine AW.rc 220 fun K hK => ?_
    repeat (with_reducible refine .s fun X Y Z W => ?_; simp; (first | refine Z.out _ _ ?_ | refine W.out _ ?_ | refine ⟨by kernel_rfl, W.out _ ?_⟩); clear Z W X Y; simp); (try refine .n ?_)
    refine Jt.f hK ?_
    clear hK K
    with_reducible repeat first | refine Jt.i ?_ | refine .g (by decide) ?_
    refine AW.loop (X := { k : Nat // k ≤ A.length }) (fun x => thB l says A x.1) (fun x => A.length - x.1) ⟨0, by simp⟩ (view_of (vw [] [(902, []), (903, [])] [] [(902, none)]) (by simp [thB])) (fun x => ?_)
    obtain ⟨k, hk⟩ := x
    refine AW.at_ (fun L hL => ?_)
    simp [thB] at hL
    subst hL
    with_reducible repeat first | refine Jt.i ?_ | refine .g (by decide) ?_
    by_cases hgo : k < A.length
    · have w5 : IntKind.i64.wrap ((k : Int) + 1) = ((k + 1 : Nat) : Int) := by rw [i64_ok _ (by omega) (by omega)]; omega
      obtain ⟨p, hp⟩ : ∃ p, A[k] = p := ⟨_, rfl⟩
      have cs := says_ct l p
      have FT := filter_take_snoc (thF l says) hgo
      rw [hp] at FT
      have FL : ((A.take k).filter (thF l says)).length ≤ 1000000 := by
        have := List.length_filter_le (thF l says) (A.take k)
        rw [List.length_take] at this
        omega
      generalize (A.take k).filter (thF l says) = R at *
      by_cases hq : saysL l p = says
      · have hqf : thF l says p = true := by unfold thF; exact decide_eq_true hq
        rw [if_pos hqf] at FT
        generalize saysL l p = q at *
        subst hq
        refine AW.rc 300 fun K hK => ?_
        repeat (with_reducible refine .s fun X Y Z W => ?_; simp [hgo]; (first | refine Z.out _ _ ?_ | refine W.out _ ?_ | refine ⟨by kernel_rfl, W.out _ ?_⟩); clear Z W X Y; simp [hgo]); (try refine .n ?_)
        refine Jt.f hK ?_
        clear hK K
        with_reducible repeat first | refine Jt.i ?_ | refine .g (by decide) ?_
        refine AW.ct rfl ?_
        with_reducible repeat first | refine Jt.i ?_ | refine .g (by decide) ?_
        refine AW.rc 310 fun K hK => ?_
        repeat (with_reducible refine .s fun X Y Z W => ?_; simp [hgo]; (first | refine Z.out _ _ ?_ | refine W.out _ ?_ | refine ⟨by kernel_rfl, W.out _ ?_⟩); clear Z W X Y; simp [hgo]); (try refine .n ?_)
        refine .s fun K1 K2 hK1 hK2 => ?_
        simp [hgo]
        first | refine ⟨k, PD p, rfl, by simp [hgo, hp], ?_⟩ | refine orr_l ⟨k, PD p, rfl, by simp [hgo, hp], ?_⟩
        refine hK1.out _ _ ?_
        clear hK1 hK2 K1 K2
        (try simp [hgo])
        repeat (with_reducible refine .s fun X Y Z W => ?_; simp [hgo]; (first | refine Z.out _ _ ?_ | refine W.out _ ?_ | refine ⟨by kernel_rfl, W.out _ ?_⟩); clear Z W X Y; simp [hgo]); (try refine .n ?_)
        refine Jt.f hK ?_
        clear hK K
        with_reducible repeat first | refine Jt.i ?_ | refine .g (by decide) ?_
        refine AW.rc 320 fun K hK => ?_
        repeat (with_reducible refine .s fun X Y Z W => ?_; simp; (first | refine Z.out _ _ ?_ | refine W.out _ ?_ | refine ⟨by kernel_rfl, W.out _ ?_⟩); clear Z W X Y; simp); (try refine .n ?_)
        refine .s fun K1 K2 hK1 hK2 => ?_
        simp
        refine orr_l ⟨by kernel_rfl, .inl ⟨_, cs, ?_⟩⟩
        (try simp)
        refine hK1.out _ _ ?_
        clear hK1 hK2 K1 K2
        (try simp)
        repeat (with_reducible refine .s fun X Y Z W => ?_; simp; (first | refine Z.out _ _ ?_ | refine W.out _ ?_ | refine ⟨by kernel_rfl, W.out _ ?_⟩); clear Z W X Y; simp); (try refine .n ?_)
        refine Jt.f hK ?_
        clear hK K
        with_reducible repeat first | refine Jt.i ?_ | refine .g (by decide) ?_
        refine AW.ct rfl ?_
        with_reducible repeat first | refine Jt.i ?_ | refine .g (by decide) ?_
        refine AW.rc 330 fun K hK => ?_
        repeat (with_reducible refine .s fun X Y Z W => ?_; simp; (first | refine Z.out _ _ ?_ | refine W.out _ ?_ | refine ⟨by kernel_rfl, W.out _ ?_⟩); clear Z W X Y; simp); (try refine .n ?_)
        refine .s fun K1 K2 hK1 hK2 => ?_
        simp
        refine ya_mk (by (simp [maxI]; omega)) ?_
        (try simp)
        refine hK1.out _ _ ?_
        clear hK1 hK2 K1 K2
        (try simp)
        repeat (with_reducible refine .s fun X Y Z W => ?_; simp; (first | refine Z.out _ _ ?_ | refine W.out _ ?_ | refine ⟨by kernel_rfl, W.out _ ?_⟩); clear Z W X Y; simp); (try refine .n ?_)
        refine Jt.f hK ?_
        clear hK K
        with_reducible repeat first | refine Jt.i ?_ | refine .g (by decide) ?_
        refine AW.rc 340 fun K hK => ?_
        repeat (with_reducible refine .s fun X Y Z W => ?_; simp [w5]; (first | refine Z.out _ _ ?_ | refine W.out _ ?_ | refine ⟨by kernel_rfl, W.out _ ?_⟩); clear Z W X Y; simp [w5]); (try refine .n ?_)
        refine Jt.f hK ?_
        clear hK K
        with_reducible repeat first | refine Jt.i ?_ | refine .g (by decide) ?_
        exact NX.round ⟨k + 1, hgo⟩ (by show A.length - (k + 1) < A.length - k; omega) (view_of (vw [] [(902, [333]), (903, [903, 332])] [] [(902, some 333)]) (by simp [thB, FT]))
      · have hqf : thF l says p = false := by unfold thF; exact decide_eq_false hq
        rw [if_neg (by rw [hqf]; simp), List.append_nil] at FT
        generalize saysL l p = q at *
        refine AW.rc 300 fun K hK => ?_
        repeat (with_reducible refine .s fun X Y Z W => ?_; simp [hgo]; (first | refine Z.out _ _ ?_ | refine W.out _ ?_ | refine ⟨by kernel_rfl, W.out _ ?_⟩); clear Z W X Y; simp [hgo]); (try refine .n ?_)
        refine Jt.f hK ?_
        clear hK K
        with_reducible repeat first | refine Jt.i ?_ | refine .g (by decide) ?_
        refine AW.ct rfl ?_
        with_reducible repeat first | refine Jt.i ?_ | refine .g (by decide) ?_
        refine AW.rc 310 fun K hK => ?_
        repeat (with_reducible refine .s fun X Y Z W => ?_; simp [hgo]; (first | refine Z.out _ _ ?_ | refine W.out _ ?_ | refine ⟨by kernel_rfl, W.out _ ?_⟩); clear Z W X Y; simp [hgo]); (try refine .n ?_)
        refine .s fun K1 K2 hK1 hK2 => ?_
        simp [hgo]
        first | refine ⟨k, PD p, rfl, by simp [hgo, hp], ?_⟩ | refine orr_l ⟨k, PD p, rfl, by simp [hgo, hp], ?_⟩
        refine hK1.out _ _ ?_
        clear hK1 hK2 K1 K2
        (try simp [hgo])
        repeat (with_reducible refine .s fun X Y Z W => ?_; simp [hgo]; (first | refine Z.out _ _ ?_ | refine W.out _ ?_ | refine ⟨by kernel_rfl, W.out _ ?_⟩); clear Z W X Y; simp [hgo]); (try refine .n ?_)
        refine Jt.f hK ?_
        clear hK K
        with_reducible repeat first | refine Jt.i ?_ | refine .g (by decide) ?_
        refine AW.rc 320 fun K hK => ?_
        repeat (with_reducible refine .s fun X Y Z W => ?_; simp [hq]; (first | refine Z.out _ _ ?_ | refine W.out _ ?_ | refine ⟨by kernel_rfl, W.out _ ?_⟩); clear Z W X Y; simp [hq]); (try refine .n ?_)
        refine .s fun K1 K2 hK1 hK2 => ?_
        simp [hq]
        refine orr_l ⟨by kernel_rfl, .inl ⟨_, cs, ?_⟩⟩
        (try simp [hq])
        refine hK1.out _ _ ?_
        clear hK1 hK2 K1 K2
        (try simp [hq])
        repeat (with_reducible refine .s fun X Y Z W => ?_; simp [hq]; (first | refine Z.out _ _ ?_ | refine W.out _ ?_ | refine ⟨by kernel_rfl, W.out _ ?_⟩); clear Z W X Y; simp [hq]); (try refine .n ?_)
        refine Jt.f hK ?_
        clear hK K
        with_reducible repeat first | refine Jt.i ?_ | refine .g (by decide) ?_
        refine AW.cf rfl ?_
        with_reducible repeat first | refine Jt.i ?_ | refine .g (by decide) ?_
        refine AW.rc 340 fun K hK => ?_
        repeat (with_reducible refine .s fun X Y Z W => ?_; simp [w5]; (first | refine Z.out _ _ ?_ | refine W.out _ ?_ | refine ⟨by kernel_rfl, W.out _ ?_⟩); clear Z W X Y; simp [w5]); (try refine .n ?_)
        refine Jt.f hK ?_
        clear hK K
        with_reducible repeat first | refine Jt.i ?_ | refine .g (by decide) ?_
        exact NX.round ⟨k + 1, hgo⟩ (by show A.length - (k + 1) < A.length - k; omega) (view_of (vw [] [] [] []) (by simp [thB, FT]))
    · obtain rfl : k = A.length := by omega
      rw [List.take_length]
      generalize A.filter (thF l says) = R
      refine AW.rc 400 fun K hK => ?_
      repeat (with_reducible refine .s fun X Y Z W => ?_; simp; (first | refine Z.out _ _ ?_ | refine W.out _ ?_ | refine ⟨by kernel_rfl, W.out _ ?_⟩); clear Z W X Y; simp); (try refine .n ?_)
      refine Jt.f hK ?_
      clear hK K
      with_reducible repeat first | refine Jt.i ?_ | refine .g (by decide) ?_
      refine AW.cf rfl ?_
      with_reducible repeat first | refine Jt.i ?_ | refine .g (by decide) ?_
      refine AW.rc 410 fun K hK => ?_
      repeat (with_reducible refine .s fun X Y Z W => ?_; simp; (first | refine Z.out _ _ ?_ | refine W.out _ ?_ | refine ⟨by kernel_rfl, W.out _ ?_⟩); clear Z W X Y; simp); (try refine .n ?_)
      refine Jt.f hK ?_
      clear hK K
      with_reducible repeat first | refine Jt.i ?_ | refine .g (by decide) ?_
      exact nx_reto (t := 4) (n := 902) (y := 902) (zs := [903]) (rr := [(.zn 902, .zn .live), (.zn 903, .zn .live)]) (.inr rfl) rfl (by kernel_rfl) (by kernel_rfl) (by kernel_rfl) (by simp) rfl
theorem those1_ct (l : List Tr) (hl : l.length ≤ 1000000) (hs : ∀ t ∈ l, t.1.length ≤ 100000 ∧ t.2.length ≤ 100000) (hn : pairsN l ≤ 400000) : Ct Try.prog 110 [.c (TsD l), dI 1] (some 52) (.one (.c (RD (whichL l 1)))) := by
  have := those11_ct l 1 hl hs hn
  rw [show (allT l).filter (thF l 1) = whichL l 1 from those_one l] at this
  exact this
set_option maxHeartbeats 4000000 in
theorem rcontent11_ct (l : List Tr) (hl : l.length ≤ 1000000) (hs : ∀ t ∈ l, t.1.length ≤ 100000 ∧ t.2.length ≤ 100000) (hn : pairsN l ≤ 400000) : Ct Try.prog 46 [.c (TsD l)] (some 52) (.one (.c (RD (whichL l 1)))) := by
  have c1 := those1_ct l hl hs hn
  generalize whichL l 1 = A at *
  refine ct_intro Try.func46 rfl Try.ntmps46 (by simp) (fun W0 Z => ?_)
  with_reducible repeat first | refine Jt.i ?_ | refine .g (by decide) ?_
  refine AW.at_ (fun L hL => ?_)
  simp at hL
  subst hL
  refine AW.rc 1 fun K hK => ?_
  repeat (with_reducible refine .s fun X Y Z W => ?_; simp; (first | refine Z.out _ _ ?_ | refine W.out _ ?_ | refine ⟨by kernel_rfl, W.out _ ?_⟩); clear Z W X Y; simp); (try refine .n ?_)
  refine Jt.f hK ?_
  clear hK K
  with_reducible repeat first | refine Jt.i ?_ | refine .g (by decide) ?_
  refine AW.rc 10 fun K hK => ?_
  repeat (with_reducible refine .s fun X Y Z W => ?_; simp; (first | refine Z.out _ _ ?_ | refine W.out _ ?_ | refine ⟨by kernel_rfl, W.out _ ?_⟩); clear Z W X Y; simp); (try refine .n ?_)
  refine .s fun K1 K2 hK1 hK2 => ?_
  simp
  refine orr_l ⟨by kernel_rfl, .inr (.inl ⟨_, _, _, c1, ?_⟩)⟩
  (try simp)
  refine hK1.out _ _ ?_
  clear hK1 hK2 K1 K2
  (try simp)
  repeat (with_reducible refine .s fun X Y Z W => ?_; simp; (first | refine Z.out _ _ ?_ | refine W.out _ ?_ | refine ⟨by kernel_rfl, W.out _ ?_⟩); clear Z W X Y; simp); (try refine .n ?_)
  refine Jt.f hK ?_
  clear hK K
  with_reducible repeat first | refine Jt.i ?_ | refine .g (by decide) ?_
  exact nx_reto (t := 2) (n := 11) (y := 11) (zs := [100011]) (rr := [(.zn 11, .zn .live), (.zn 100011, .zn .live)]) (.inr rfl) rfl (by kernel_rfl) (by kernel_rfl) (by kernel_rfl) (by simp) rfl
end Go.Proofs.Ytlkdkhmdmgchbaa
namespace Go.Proofs.Ytlkdkhmdmgchbaa
set_option linter.unusedSimpArgs false
set_option linter.unusedVariables false
open Go.RowKit
attribute [local simp ↓] raw_wp hdd_wp dst0_wp slc_wp gav_bool gav_undef avpo_ptr avpo_seg avpo_wp avpo_optr avtupw_tup avtupw_wp raw_optr hdd_optr arun_nil ob_some kva_av kfree_free khfree_free khown_own klive_live knm_false chk_true ya_true gsel_tt gsel_ff gsel_tf gsel_ft vb_bool vi_int vstr_string avps_ptr avps_seg avp_ptr avagg_agg avtup_tup avb_bool avown_own shs_struct shsa_struct shsa_arr sharr_arr shl_slice shla_slice shla_arr shls_slice shls_str shi_int bc_true bc_false hd1_cons opc_some opc_none opn_some opn_none unc_not unc_neg gd_none gd_some as_move as_assign as_pick as_bin as_un as_conv as_load as_faddr as_field as_extract as_iaddr as_slice as_alloc as_box as_store as_build as_rows as_call as_append as_invoke as_copy as_nilCheck as_makeIface as_assert as_makeSlice as_lookup as_mapUpdate as_makeMap as_range as_next as_entry as_index as_fn as_len as_min as_max stMove stPick stBin stUn stConv stLoad stFaddr stField stExtract stIaddr stSlice stAlloc stBox stStore stBuild stIndex stRows stCall stAppend stFn stLen stMin stMax opd_tmp opd_const opd_func rawL_nil rawL_cons raw_c raw_st raw_a opr_e zr_nil zr_cons lvd_live hod_own obd_some obd_none kvd_av chd_true vid_int lk_cons lk_nil ins_nil ins_cons cells_zero cells_succ spread1_c spread1_own spread1_ptr spread1_fn spread1_seg spreadL_nil spreadL_cons spread_agg spread_c spread_own spread_seg spread_ptr spread_fn ex_zero ex_succ ops_e opb_none opb_int spreadD_agg spreadD_c spreadD_own spreadD_seg fillO_nil fillO_cons argsOf_nil argsOf_cons dvOf_c dvOf_seg dvOf_own dvOf_agg zrL_nil zrL_cons hdd_c hdd_seg hdd_own clz_e clv_raw clv_f callD_e dst0_n dst0_nil dst0_own goneH_e capc_ptr capc_seg capc_c capN_nil capN_cons capD_nil capD_cons deadZ_nil deadZ_cons
attribute [local simp] dok_some dok_none dflt_tmp dflt_vt dflt_cell dflt_zn dflt_nm dflt_hd dflt_sz dflt_df puts_nil puts_cons wr_some wr_none cst_agg cst_int cst_bool cst_string cst_slice cst_tuple cst_nilFunc cst_pointer cst_func bin_add bin_sub bin_mul bin_quo bin_rem bin_eql bin_neq bin_lss bin_leq bin_gtr bin_geq bin_bool bin_aggs binT_bool binT_aggs shbd_bool eqb_eql eqb_neq bin_slice bin_str_eql bin_str_neq bin_str_lss bin_str_add nz_v nz_n nz_s nz_p nz_f nz_st atz_v atz_n atz_s atz_p atz_f atz_st atz_agg atR_one atR_tup crow_nil crow_cons slc_c slc_n slc_own slc_nil raws setR placesT_nil placesT_cons zc chunk zsAll setD ocD_v ocD_n ocD_s ocD_p ocD_f ocD_st nrm_v nrm_n nrm_s nrm_p nrm_f nrm_st isV_one isV_tup isV_c isV_agg isV_v isV_n isV_s isV_p isV_f isV_st argRows Sh.agg zds_nil zds_e zds_v zds_s vcells_agg vcells_int vcells_bool vcells_string vcells_slice vcells_pointer toList_lit map_nilL map_consL nzr_e rowsOc_nil rowsOc_cons rowsOc_RD nzr_RD foks_nil foks_cons fok_tmp fok_vt fok_cell fok_nm fok_zn fok_hd fok_sz fok_df Fv_c Fv_seg Fv_tup Fv_agg Fv_ptr Fv_ptrs Fv_wp Fv_fn Fv_fnd Fv_own Fv_ownd Fv_nown Fv_vown FvL_nil FvL_cons kvp_av hdp_some subz frz Uz Nm Uh vw_nb vw_zo vw_zf vw_hb tb_nil tb_cons fzc_nil fzc_cons fzcaps_nil fzcaps_cons ty2 ty3 ty4 ty5 ty6 ty7 ty8 ty9 ty10 ty11 ty12 ty13 ty14 ty15 ty16 ty17 ty18 ty19 ty20 ty21 ty22 ty23 ty24 ty25 ty26 ty27 ty30 ty40 ty48 ty50 ty51 ty52 ty55 ty57 ty62 ty63 ty85 ty94 ty101 ty121 ty122 ty123 ty124 ty125 ty126 ty128 ty148 ty149 ty151 ty164 ty165 ty179 ty182 ty196 ty203 ty205 ty209 ty211 ty215 ty216 ty217 ty218 ty219 ty220 ty221 ty223 ty224 ty225 ty226 ty227 Value.oneCell'
attribute [local simp] kzRows oWr deadZ VK.av kzReads kzWrites oRead hdD cst_nilI
set_option maxRecDepth 100000
end Go.Proofs.Ytlkdkhmdmgchbaa
namespace Go.Proofs.Ytlkdkhmdmgchbaa
set_option linter.unusedSimpArgs false
set_option linter.unusedVariables false
open Go.RowKit
set_option maxRecDepth 100000
theorem Stands.rises {V : VO} {L : List Pr} (h : Stands V L) : Rises L := by
  cases h with
  | fin => exact .nil
  | «at» hs p L G hr ht => exact hr
theorem Stands.at_is {V : VO} {L : List Pr} (h : Stands V L) : V.at_ = L.headD (0, 0) ∧ V.fin = L.isEmpty := by
  cases h with
  | fin => exact ⟨rfl, rfl⟩
  | «at» hs p L G hr ht => exact ⟨rfl, rfl⟩
theorem Stands.nexts {V : VO} {L : List Pr} (h : Stands V L) : Stands (nextV V) L.tail := by
  cases h with
  | fin => exact .fin
  | «at» hs p L G hr ht =>
    have := Stands.next (.at hs p L G hr ht)
    exact this
abbrev Sp := Int × Pr
abbrev SpD (s : Sp) : List D := [.v (.int .i64 s.1), .v (.int .u64 s.2.1), .v (.int .u64 s.2.2)]
abbrev SD (l : List Sp) : D := .s 3 (l.map SpD)
theorem Ct.resn {P : Program} {f : FuncId} {args : List DV} {sz : Nat} {d : DV} (h : Ct P f args none (.tup [.c (.v (.slice none 0 0)), d])) : Ca P f args (.tup [.c (.s sz []), d]) := fun Z w vs hr => by
  refine (h Z w vs hr).mono ?_
  rintro e w' ⟨v, Zn, k1, k2, k3, k4⟩
  refine ⟨v, Zn, k1, k2, k3, ?_⟩
  obtain ⟨us, q1, q2, q3⟩ := k4
  refine ⟨us, q1, by simpa using q2, fun i x hx => ?_⟩
  match i, hx with
  | 0, hx =>
    cases hx
    have := q3 0 _ rfl
    have := RepD.raw this
    show RepD _ _ _ _
    rw [this]
    exact .nil _
  | 1, hx =>
    cases hx
    exact (q3 1 _ rfl).mono fun g hg => .inr hg
  | i + 2, hx => simp at hx
theorem rnext_ca (l : List Pr) : Ca Try.prog 47 [.c (RD l)] (.tup [.c (RD l.tail), dI (if l.isEmpty then 4 else 0)]) := by
  cases l with
  | nil => exact Ct.resn rnext_nil
  | cons p l => exact rnext_cons p l
theorem nzr_SpD (zs : List Nat) (l : List Sp) : nzr zs (l.map SpD) = [] := by
  unfold nzr
  rw [if_pos (all_map_isV (fun x => rfl) l)]
theorem rowsOc_SpD (l : List Sp) : rowsOc (l.map SpD) = True := eq_true (rowsOc_map (fun x d hd => by
  simp at hd
  rcases hd with rfl | rfl | rfl <;> rfl) l)
theorem AW.joinB {X : Type} {P : Program} {C : Cx} {r : Option Nat} {Q : Exit → Act → World → Prop} {L : Row} {x y : Code} {i : Nat} (Lc : X → Row) (rest : ∀ z, AW P C r y Q (Lc z)) (h : ∀ K : Exit → Act → World → Prop, Hid (∀ (z : X) L', (∀ a w, AS C (lk L') a w → AS C (lk (Lc z)) a w) → NX C K .normal L' ∧ NX C K (.exit i) L') → AW P C r x K L) : AW P C r x (Exit.inBlock i (Exit.then (y.wpIn (Fr r) 10 P Q) Q)) L :=
  (h _ fun z L' hv => ⟨fun a w hA => rest z a w (hv a w hA), fun a w hA => by
    show Exit.inBlock _ _ _ _ _
    simp only [Exit.inBlock, if_true]
    exact rest z a w (hv a w hA)⟩)
set_option maxRecDepth 100000 in
theorem sba_neq {x y : Operand} (p : Pr) {k : Value → Prop} (hk : k (.bool false)) : stBinAny Try.prog .neq 52 x y (.agg #[.int .u64 p.1, .int .u64 p.2]) (.agg #[.int .u64 p.1, .int .u64 p.2]) k := by
  refine ⟨_, fun w => ?_, hk⟩
  have h1 := eq_pair.2 .neq x y p p w
  have h2 := eq_pair.1 p p w
  simp only [encP] at h1 h2
  rw [Sem.run_bind, h1]
  show Sem.run _ (binOp .neq _ _ _) w = _
  rw [run_eql_struct] at h2
  rw [run_neq_struct]
  generalize Sem.run Try.prog (Op.equalIn 10000 _ _ _) w = r at h2 ⊢
  cases r with
  | ok a w' =>
    simp only [Result.andThen, Result.ok.injEq, Value.bool.injEq, decide_true] at h2 ⊢
    obtain ⟨rfl, rfl⟩ := h2
    exact ⟨rfl, rfl⟩
  | halt a w' => simp [Result.andThen] at h2
end Go.Proofs.Ytlkdkhmdmgchbaa
namespace Go.Proofs.Ytlkdkhmdmgchbaa
set_option linter.unusedSimpArgs false
set_option linter.unusedVariables false
open Go.ChangeShapes Go.WideShapes Go.ChangeAt Go.RowKit Go.Joins Go.Deep
set_option maxRecDepth 100000
def CRep (W : World) (cs : List Value) (ds : List D) : Prop := cs.length = ds.length ∧ ∀ (i : Nat) (d : D), ds[i]? = some d → ∃ v, cs[i]? = some v ∧ RepD (fun _ => True) W v d
section
variable {H : Type} {enc : TypeId × Value → H} {W : World} {base n : Nat} {held : Bool} {y : DataW H × List MemPlace}
set_option maxRecDepth 100000 in
theorem row_of {α : Type} [Inhabited α] {t e : TypeId} {sz : Nat} (f : α → List D) (ok : α → Prop) (hu : Try.prog.underlying t = some (.slice e)) (hc : Try.prog.cellsOf e = sz) (hsz : 0 < sz) (hlen : ∀ x, (f x).length = sz)
    (he : ∀ n cs y, DataW.trod enc Try.prog W base (fun _ => true) held n e cs = some y → ∃ x, CRep W cs (f x) ∧ ok x) {v : Value} (h : DataW.trod enc Try.prog W base (fun _ => true) held n t [v] = some y) :
    ∃ l : List α, RepD (fun _ => True) W v (.s sz (l.map f)) ∧ (∀ x ∈ l, ok x) ∧ ((y.1 = .nil ∧ l = []) ∨ ∃ el sp, y.1 = .slice el sp ∧ el.length = l.length) := by
  rcases open_slice hu h with ⟨e, rfl⟩ | ⟨a, len, cap, m, k, Dw, Pl, e, -, hlc, hm, hmm, rfl, hx⟩
  · simp at e
    subst e
    exact ⟨[], .nil sz, fun t ht => by simp at ht, .inl ⟨rfl, rfl⟩⟩
  · simp at e
    subst e
    simp at hmm
    subst hmm
    rw [hc] at hx
    obtain ⟨g, hg⟩ := choose_lt (n := m) (α := α × List Value) (p := fun i x => x.2.length = sz ∧ (∀ j, j < sz → W.cell? ((a.add (i * sz)).add j) = x.2[j]?) ∧ CRep W x.2 (f x.1) ∧ ok x.1) (fun i hi => by
      obtain ⟨cs', h1, h2⟩ := hx i hi
      obtain ⟨x, hr, ho⟩ := he _ _ _ h2
      obtain ⟨-, hl, hcell⟩ := World.cells?_some h1
      exact ⟨(x, cs'), hl, hcell, hr, ho⟩)
    refine ⟨(List.range len).map fun i => (g i).1, ?_, fun t ht => ?_, .inr ⟨_, _, rfl, by simp⟩⟩
    · by_cases hl : len = 0
      · subst hl
        simp only [List.range_zero, List.map_nil]
        exact .emp a m sz (by simp [maxLen] at hm; unfold maxI; omega)
      · obtain ⟨q1, q2, q3, -⟩ := hg 0 (by omega)
        have h0 := q2 0 hsz
        have hs : a.spot = none := by
          obtain ⟨u, hu'⟩ : ∃ u, (g 0).2[0]? = some u := ⟨_, List.getElem?_eq_getElem (by omega)⟩
          rw [hu'] at h0
          simpa [Addr.add] using World.cell?_spot h0
        obtain ⟨b, o, s⟩ := a
        simp at hs
        subst hs
        have hcell : ∀ i j, i < len → j < sz → W.cell? ⟨b, o + i * sz + j, none⟩ = (g i).2[j]? := fun i j hi hj => by
          obtain ⟨q1, q2, -, -⟩ := hg i (by omega)
          have := q2 j hj
          rwa [add_none, add_none] at this
        have hr : ∀ (i : Nat) (r : List D) (j : Nat) (x : D), ((List.range len).map fun i => (g i).1 |> f)[i]? = some r → r[j]? = some x → i < len ∧ j < sz ∧ ∃ u, (g i).2[j]? = some u ∧ RepD (fun _ => True) W u x := fun i r j x hi hj => by
          rw [List.getElem?_map, Option.map_eq_some_iff] at hi
          obtain ⟨i', hi, rfl⟩ := hi
          obtain ⟨hlt, rfl⟩ := List.getElem?_eq_some_iff.1 hi
          simp only [List.length_range] at hlt
          simp only [List.getElem_range] at hj
          obtain ⟨-, -, q3, -⟩ := hg i (by omega)
          refine ⟨hlt, ?_, q3.2 j x hj⟩
          have := (List.getElem?_eq_some_iff.1 hj).1
          rw [hlen] at this
          exact this
        have hmm : ((List.range len).map fun i => (g i).1).map f = (List.range len).map fun i => (g i).1 |> f := by rw [List.map_map]; rfl
        rw [hmm]
        refine .row b o len m sz _ (fun i j => ((g i).2[j]?).getD undef) (by simp) hlc (by simp [maxLen] at hm; unfold maxI; omega) (fun i r hi => ?_) (fun i r j x hi hj => ?_) (fun i r j x hi hj => ?_)
        · rw [List.getElem?_map, Option.map_eq_some_iff] at hi
          obtain ⟨i', hi, rfl⟩ := hi
          exact hlen _
        · obtain ⟨h1, h2, u, h3, h4⟩ := hr i r j x hi hj
          exact ⟨trivial, by rw [hcell i j h1 h2, h3]; rfl⟩
        · obtain ⟨h1, h2, u, h3, h4⟩ := hr i r j x hi hj
          rw [h3]
          exact h4
    · obtain ⟨i, hi, rfl⟩ := List.mem_map.1 ht
      rw [List.mem_range] at hi
      exact (hg i (by omega)).2.2.2
theorem CRep.one {a : Value} {x : D} (h : RepD (fun _ => True) W a x) : CRep W [a] [x] := ⟨rfl, fun i d hd => by
  match i, hd with
  | 0, hd => cases hd; exact ⟨a, rfl, h⟩⟩
theorem CRep.app {va vb : List Value} {xs ys : List D} (h : CRep W va xs) (k : CRep W vb ys) : CRep W (va ++ vb) (xs ++ ys) := ⟨by rw [List.length_append, List.length_append, h.1, k.1], fun i d hd => by
  rw [List.getElem?_append] at hd
  rw [List.getElem?_append, h.1]
  split at hd
  · rename_i hi
    rw [if_pos hi]
    exact h.2 i d hd
  · rename_i hi
    rw [if_neg hi]
    exact k.2 _ d hd⟩
theorem cellsStep : Try.prog.cellsOf 63 = 3 := by kernel_rfl
set_option maxRecDepth 100000 in
theorem step_data {cs : List Value} (h : DataW.trod enc Try.prog W base (fun _ => true) held n 63 cs = some y) : ∃ s : Sp, CRep W cs (SpD s) ∧ True := by
  obtain ⟨y0, y1, m, rfl, hl, h0, h1⟩ := trod_struct2 Try.underlying63 h
  rw [cellsStep] at hl
  obtain ⟨c0, c1, c2, rfl⟩ : ∃ c0 c1 c2, cs = [c0, c1, c2] := by
    match cs, hl with
    | [a, b, c], _ => exact ⟨a, b, c, rfl⟩
  rw [cellsInt] at h0
  rw [cellsPair] at h1
  obtain ⟨a, e0, -⟩ := DataW.trod_int Try.underlying3 h0
  obtain ⟨p, q, e1, -⟩ := pair_data3 h1
  simp at e0 e1
  obtain ⟨rfl, rfl⟩ := e1
  subst e0
  exact ⟨(a, p, q), ((CRep.one (.v _)).app (CRep.one (.v _))).app (CRep.one (.v _)), trivial⟩
theorem s_row {v : Value} (h : DataW.trod enc Try.prog W base (fun _ => true) held n 55 [v] = some y) : ∃ l : List Sp, RepD (fun _ => True) W v (SD l) ∧ ((y.1 = .nil ∧ l = []) ∨ ∃ el sp, y.1 = .slice el sp ∧ el.length = l.length) := by
  obtain ⟨l, h, -, k⟩ := row_of SpD (fun _ => True) Try.underlying55 cellsStep (by omega) (fun _ => rfl) (fun n cs y h => step_data h) h
  exact ⟨l, h, k⟩
end
end Go.Proofs.Ytlkdkhmdmgchbaa
namespace Go.Proofs.Ytlkdkhmdmgchbaa
set_option linter.unusedSimpArgs false
set_option linter.unusedVariables false
open Go.RowKit
attribute [local simp ↓] raw_wp hdd_wp dst0_wp slc_wp gav_bool gav_undef avpo_ptr avpo_seg avpo_wp avpo_optr avtupw_tup avtupw_wp raw_optr hdd_optr arun_nil ob_some kva_av kfree_free khfree_free khown_own klive_live knm_false chk_true ya_true gsel_tt gsel_ff gsel_tf gsel_ft vb_bool vi_int vstr_string avps_ptr avps_seg avp_ptr avagg_agg avtup_tup avb_bool avown_own shs_struct shsa_struct shsa_arr sharr_arr shl_slice shla_slice shla_arr shls_slice shls_str shi_int bc_true bc_false hd1_cons opc_some opc_none opn_some opn_none unc_not unc_neg gd_none gd_some as_move as_assign as_pick as_bin as_un as_conv as_load as_faddr as_field as_extract as_iaddr as_slice as_alloc as_box as_store as_build as_rows as_call as_append as_invoke as_copy as_nilCheck as_makeIface as_assert as_makeSlice as_lookup as_mapUpdate as_makeMap as_range as_next as_entry as_index as_fn as_len as_min as_max stMove stPick stBin stUn stConv stLoad stFaddr stField stExtract stIaddr stSlice stAlloc stBox stStore stBuild stIndex stRows stCall stAppend stFn stLen stMin stMax opd_tmp opd_const opd_func rawL_nil rawL_cons raw_c raw_st raw_a opr_e zr_nil zr_cons lvd_live hod_own obd_some obd_none kvd_av chd_true vid_int lk_cons lk_nil ins_nil ins_cons cells_zero cells_succ spread1_c spread1_own spread1_ptr spread1_fn spread1_seg spreadL_nil spreadL_cons spread_agg spread_c spread_own spread_seg spread_ptr spread_fn ex_zero ex_succ ops_e opb_none opb_int spreadD_agg spreadD_c spreadD_own spreadD_seg fillO_nil fillO_cons argsOf_nil argsOf_cons dvOf_c dvOf_seg dvOf_own dvOf_agg zrL_nil zrL_cons hdd_c hdd_seg hdd_own clz_e clv_raw clv_f callD_e dst0_n dst0_nil dst0_own goneH_e capc_ptr capc_seg capc_c capN_nil capN_cons capD_nil capD_cons deadZ_nil deadZ_cons
attribute [local simp] dok_some dok_none dflt_tmp dflt_vt dflt_cell dflt_zn dflt_nm dflt_hd dflt_sz dflt_df puts_nil puts_cons wr_some wr_none cst_agg cst_int cst_bool cst_string cst_slice cst_tuple cst_nilFunc cst_pointer cst_func bin_add bin_sub bin_mul bin_quo bin_rem bin_eql bin_neq bin_lss bin_leq bin_gtr bin_geq bin_bool bin_aggs binT_bool binT_aggs shbd_bool eqb_eql eqb_neq bin_slice bin_str_eql bin_str_neq bin_str_lss bin_str_add nz_v nz_n nz_s nz_p nz_f nz_st atz_v atz_n atz_s atz_p atz_f atz_st atz_agg atR_one atR_tup crow_nil crow_cons slc_c slc_n slc_own slc_nil raws setR placesT_nil placesT_cons zc chunk zsAll setD ocD_v ocD_n ocD_s ocD_p ocD_f ocD_st nrm_v nrm_n nrm_s nrm_p nrm_f nrm_st isV_one isV_tup isV_c isV_agg isV_v isV_n isV_s isV_p isV_f isV_st argRows Sh.agg zds_nil zds_e zds_v zds_s vcells_agg vcells_int vcells_bool vcells_string vcells_slice vcells_pointer toList_lit map_nilL map_consL nzr_e rowsOc_nil rowsOc_cons rowsOc_RD nzr_RD foks_nil foks_cons fok_tmp fok_vt fok_cell fok_nm fok_zn fok_hd fok_sz fok_df Fv_c Fv_seg Fv_tup Fv_agg Fv_ptr Fv_ptrs Fv_wp Fv_fn Fv_fnd Fv_own Fv_ownd Fv_nown Fv_vown FvL_nil FvL_cons kvp_av hdp_some subz frz Uz Nm Uh vw_nb vw_zo vw_zf vw_hb tb_nil tb_cons fzc_nil fzc_cons fzcaps_nil fzcaps_cons ty2 ty3 ty4 ty5 ty6 ty7 ty8 ty9 ty10 ty11 ty12 ty13 ty14 ty15 ty16 ty17 ty18 ty19 ty20 ty21 ty22 ty23 ty24 ty25 ty26 ty27 ty30 ty40 ty48 ty50 ty51 ty52 ty55 ty57 ty62 ty63 ty85 ty94 ty101 ty121 ty122 ty123 ty124 ty125 ty126 ty128 ty148 ty149 ty151 ty164 ty165 ty179 ty182 ty196 ty203 ty205 ty209 ty211 ty215 ty216 ty217 ty218 ty219 ty220 ty221 ty223 ty224 ty225 ty226 ty227 Value.oneCell'
attribute [local simp] kzRows oWr deadZ VK.av kzReads kzWrites oRead hdD cst_nilI
set_option maxRecDepth 100000
def vgO (V : VO) (L : List Pr) (st : List Sp) : Row := [(.zn 0, .zn .live), (.tmp 6, .av (.ptr 1 0)), (.nm 1, .nm true), (.sz 1, .sz 4), (.cell 1 0, .av (.own 900)), (.cell 1 1, .av (.c [] (.v (.int .u64 V.at_.1)))), (.cell 1 2, .av (.c [] (.v (.int .u64 V.at_.2)))), (.cell 1 3, .av (.c [] (.v (.bool V.fin)))),
  (.hd 900, .hd (.own 126 3 900 [901] (V.hs.map hdD))), (.zn 900, .zn .live), (.zn 901, .zn .live), (.tmp 8, .av (.c [905] (RD L))), (.zn 905, .zn .live)]
def vgS (V : VO) (L : List Pr) (st : List Sp) (ns : List (Nat × Nat)) (k : Nat) : Row := [(.tmp 1, .av (.c [0] (SD st))), (.zn 910, .zn .live), (.tmp 50, .av (.c [910] (.s 2 (uT ns)))), (.tmp 51, .av (.c [] (.v (.int .i64 ns.length)))), (.tmp 52, .av (.c [] (.v (.int .i64 k))))] ++ vgO V L st
def vgT (V : VO) (L : List Pr) (st : List Sp) (ns : List (Nat × Nat)) (k a b : Nat) : Row := [(.nm 911, .nm true), (.cell 911 0, .av (.c [910] (.s 2 (uR a)))), (.cell 911 1, .av (.c [910] (.s 2 (uR b)))), (.tmp 10, .av (.ptr 911 0))] ++ vgS V L st ns k
def vgA (V : VO) (L : List Pr) (st : List Sp) (ns : List (Nat × Nat)) (k a b j : Nat) : Row := [(.tmp 58, .av (.c [] (.v (.int .i64 a)))), (.tmp 59, .av (.c [] (.v (.int .i64 j))))] ++ vgT V L st ns k a b
def vgB (V : VO) (L : List Pr) (st : List Sp) (ns : List (Nat × Nat)) (k a b j : Nat) : Row := [(.tmp 74, .av (.c [] (.v (.int .i64 b)))), (.tmp 75, .av (.c [] (.v (.int .i64 j))))] ++ vgT V L st ns k a b
def vgR (V : VO) (L : List Pr) (st : List Sp) (i : Nat) : Row := [(.tmp 92, .av (.own 920)), (.hd 920, .hd (.own 63 3 920 [] (st.map SpD))), (.zn 920, .zn .live), (.tmp 93, .av (.c [] (.v (.int .i64 st.length)))), (.tmp 94, .av (.c [] (.v (.int .i64 i))))] ++ vgO V L st
def vgU (V : VO) (L : List Pr) (st : List Sp) (i : Nat) (d : D) (n j : Nat) : Row := [(.zn 930, .zn .live), (.tmp 21, .av (.c [930] d)), (.tmp 153, .av (.c [] (.v (.int .i64 n)))), (.tmp 154, .av (.c [] (.v (.int .i64 j))))] ++ vgR V L st i
set_option maxHeartbeats 16000000 in
theorem vgo_bad (l : List Tr) (st : List Sp) (hN : l.length ≤ maxI) (h : tsR (own26 l) = false) (hl : ∀ t ∈ own26 l, t.1.length + t.2.length ≤ 32) (hm : (own26 l).length ≤ 26) : Ct Try.prog 6 [.c (TsD l), .c (SD st)] none (.one (dB true)) := by
  have cw := wakes13_ct
  have co := own13_ct l hN
  generalize own26 l = m at *
  have cb := of_bad m h (fun t ht => by have := hl t ht; omega)
  have crr := rright11_ct m (by omega) (fun t ht => by have := hl t ht; omega)
  rw [h] at crr
  refine ct_intro Try.func6 rfl Try.ntmps6 (by simp) (fun W0 Z => ?_)
  with_reducible repeat first | refine Jt.i ?_ | refine .g (by decide) ?_
  refine AW.at_ (fun L hL => ?_)
  simp at hL
  subst hL
  refine AW.rc 10 fun K hK => ?_
  repeat (with_reducible refine .s fun X Y Z W => ?_; simp; (first | refine Z.out _ _ ?_ | refine W.out _ ?_ | refine ⟨by kernel_rfl, W.out _ ?_⟩); clear Z W X Y; simp); (try refine .n ?_)
  refine Jt.f hK ?_
  clear hK K
  with_reducible repeat first | refine Jt.i ?_ | refine .g (by decide) ?_
  refine AW.rc 20 fun K hK => ?_
  repeat (with_reducible refine .s fun X Y Z W => ?_; simp; (first | refine Z.out _ _ ?_ | refine W.out _ ?_ | refine ⟨by kernel_rfl, W.out _ ?_⟩); clear Z W X Y; simp); (try refine .n ?_)
  refine .s fun K1 K2 hK1 hK2 => ?_
  simp
  refine orr_l ⟨by kernel_rfl, .inl ⟨_, cw, ?_⟩⟩
  (try simp)
  refine hK1.out _ _ ?_
  clear hK1 hK2 K1 K2
  (try simp)
  repeat (with_reducible refine .s fun X Y Z W => ?_; simp; (first | refine Z.out _ _ ?_ | refine W.out _ ?_ | refine ⟨by kernel_rfl, W.out _ ?_⟩); clear Z W X Y; simp); (try refine .n ?_)
  refine Jt.f hK ?_
  clear hK K
  with_reducible repeat first | refine Jt.i ?_ | refine .g (by decide) ?_
  refine AW.cf rfl ?_
  with_reducible repeat first | refine Jt.i ?_ | refine .g (by decide) ?_
  refine AW.rc 40 fun K hK => ?_
  repeat (with_reducible refine .s fun X Y Z W => ?_; simp; (first | refine Z.out _ _ ?_ | refine W.out _ ?_ | refine ⟨by kernel_rfl, W.out _ ?_⟩); clear Z W X Y; simp); (try refine .n ?_)
  refine .s fun K1 K2 hK1 hK2 => ?_
  simp
  refine orr_l ⟨by kernel_rfl, .inr (.inl ⟨_, _, _, co, ?_⟩)⟩
  (try simp)
  refine hK1.out _ _ ?_
  clear hK1 hK2 K1 K2
  (try simp)
  repeat (with_reducible refine .s fun X Y Z W => ?_; simp; (first | refine Z.out _ _ ?_ | refine W.out _ ?_ | refine ⟨by kernel_rfl, W.out _ ?_⟩); clear Z W X Y; simp); (try refine .n ?_)
  refine Jt.f hK ?_
  clear hK K
  with_reducible repeat first | refine Jt.i ?_ | refine .g (by decide) ?_
  refine AW.rc 50 fun K hK => ?_
  repeat (with_reducible refine .s fun X Y Z W => ?_; simp; (first | refine Z.out _ _ ?_ | refine W.out _ ?_ | refine ⟨by kernel_rfl, W.out _ ?_⟩); clear Z W X Y; simp); (try refine .n ?_)
  refine .s fun K1 K2 hK1 hK2 => ?_
  simp
  refine orr_l ⟨by kernel_rfl, .inl ⟨_, cb, ?_⟩⟩
  (try simp)
  refine hK1.out _ _ ?_
  clear hK1 hK2 K1 K2
  (try simp)
  repeat (with_reducible refine .s fun X Y Z W => ?_; simp; (first | refine Z.out _ _ ?_ | refine W.out _ ?_ | refine ⟨by kernel_rfl, W.out _ ?_⟩); clear Z W X Y; simp); (try refine .n ?_)
  refine Jt.f hK ?_
  clear hK K
  with_reducible repeat first | refine Jt.i ?_ | refine .g (by decide) ?_
  refine AW.rc 60 fun K hK => ?_
  repeat (with_reducible refine .s fun X Y Z W => ?_; simp; (first | refine Z.out _ _ ?_ | refine W.out _ ?_ | refine ⟨by kernel_rfl, W.out _ ?_⟩); clear Z W X Y; simp); (try refine .n ?_)
  refine .s fun K1 K2 hK1 hK2 => ?_
  simp
  refine orr_l ⟨by kernel_rfl, .inl ⟨_, crr, ?_⟩⟩
  (try simp)
  refine hK1.out _ _ ?_
  clear hK1 hK2 K1 K2
  (try simp)
  repeat (with_reducible refine .s fun X Y Z W => ?_; simp; (first | refine Z.out _ _ ?_ | refine W.out _ ?_ | refine ⟨by kernel_rfl, W.out _ ?_⟩); clear Z W X Y; simp); (try refine .n ?_)
  refine Jt.f hK ?_
  clear hK K
  with_reducible repeat first | refine Jt.i ?_ | refine .g (by decide) ?_
  refine AW.ct rfl ?_
  with_reducible repeat first | refine Jt.i ?_ | refine .g (by decide) ?_
  refine AW.rc 70 fun K hK => ?_
  repeat (with_reducible refine .s fun X Y Z W => ?_; simp; (first | refine Z.out _ _ ?_ | refine W.out _ ?_ | refine ⟨by kernel_rfl, W.out _ ?_⟩); clear Z W X Y; simp); (try refine .n ?_)
  refine .s fun K1 K2 hK1 hK2 => ?_
  simp
  refine sba_mk (nilp2 _ _) ?_
  refine hK1.out _ _ ?_
  clear hK1 hK2 K1 K2
  (try simp)
  repeat (with_reducible refine .s fun X Y Z W => ?_; simp; (first | refine Z.out _ _ ?_ | refine W.out _ ?_ | refine ⟨by kernel_rfl, W.out _ ?_⟩); clear Z W X Y; simp); (try refine .n ?_)
  refine Jt.f hK ?_
  clear hK K
  with_reducible repeat first | refine Jt.i ?_ | refine .g (by decide) ?_
  refine nx_ret (T := ty) (rs := [.tmp 4]) (zs := []) (ds := [dB true]) (rr := []) (.inr rfl) rfl (by kernel_rfl) (by kernel_rfl) (by simp) rfl
set_option maxHeartbeats 32000000 in
theorem vgo_good (l : List Tr) (st : List Sp) (hN : l.length ≤ maxI) (hst : st.length ≤ 5864062014634) (hLn : (whichL (own26 l) 1).length ≤ 416) (h : tsR (own26 l) = true) (hl : ∀ t ∈ own26 l, t.1.length ≤ 16 ∧ t.2.length ≤ 16) (hp : pairsN (own26 l) ≤ 1000) (hm : (own26 l).length ≤ 26) : Ct Try.prog 6 [.c (TsD l), .c (SD st)] none (.one (dB true)) := by
  have cw := wakes13_ct
  have co := own13_ct l hN
  generalize own26 l = m at *
  have cb := of_kn m h (fun t ht => by have := hl t ht; omega) (tsR_good h).1
  have stv := view0_stands h
  have G0 := view0_good h (c := 32) (fun t ht => by have := hl t ht; omega) (by decide)
  have crr := rright11_ct m (by omega) (fun t ht => by have := hl t ht; omega)
  rw [h] at crr
  have cr := rcontent11_ct m (by omega) (fun t ht => by have := hl t ht; omega) (by omega)
  change Kn _ _ _ _ (vC (view0 m)) at cb
  generalize view0 m = V0 at *
  generalize whichL m 1 = L0 at *
  have hmT : ∀ (w : World) Z v, RepD Z w v (TsD m) → RepD Z w v (.s 2 (uT (lensT m))) := fun w Z v h => ud_TsD m h
  have hns : (lensT m).length ≤ 26 := by unfold lensT; rw [List.length_map]; exact hm
  have hnm : m.length = (lensT m).length := by unfold lensT; rw [List.length_map]
  have hxs : ∀ x ∈ lensT m, x.1 ≤ 1000000 ∧ x.2 ≤ 1000000 := fun x hx => by
    unfold lensT at hx
    obtain ⟨t, ht, rfl⟩ := List.mem_map.1 hx
    have := hl t ht
    simp only
    omega
  refine ct_intro Try.func6 rfl Try.ntmps6 (by simp) (fun W0 Z => ?_)
  with_reducible repeat first | refine Jt.i ?_ | refine .g (by decide) ?_
  refine AW.at_ (fun L hL => ?_)
  simp at hL
  subst hL
  refine AW.rc 10 fun K hK => ?_
  repeat (with_reducible refine .s fun X Y Z W => ?_; simp; (first | refine Z.out _ _ ?_ | refine W.out _ ?_ | refine ⟨by kernel_rfl, W.out _ ?_⟩); clear Z W X Y; simp); (try refine .n ?_)
  refine Jt.f hK ?_
  clear hK K
  with_reducible repeat first | refine Jt.i ?_ | refine .g (by decide) ?_
  refine AW.rc 20 fun K hK => ?_
  repeat (with_reducible refine .s fun X Y Z W => ?_; simp; (first | refine Z.out _ _ ?_ | refine W.out _ ?_ | refine ⟨by kernel_rfl, W.out _ ?_⟩); clear Z W X Y; simp); (try refine .n ?_)
  refine .s fun K1 K2 hK1 hK2 => ?_
  simp
  refine orr_l ⟨by kernel_rfl, .inl ⟨_, cw, ?_⟩⟩
  (try simp)
  refine hK1.out _ _ ?_
  clear hK1 hK2 K1 K2
  (try simp)
  repeat (with_reducible refine .s fun X Y Z W => ?_; simp; (first | refine Z.out _ _ ?_ | refine W.out _ ?_ | refine ⟨by kernel_rfl, W.out _ ?_⟩); clear Z W X Y; simp); (try refine .n ?_)
  refine Jt.f hK ?_
  clear hK K
  with_reducible repeat first | refine Jt.i ?_ | refine .g (by decide) ?_
  refine AW.cf rfl ?_
  with_reducible repeat first | refine Jt.i ?_ | refine .g (by decide) ?_
  refine AW.rc 40 fun K hK => ?_
  repeat (with_reducible refine .s fun X Y Z W => ?_; simp; (first | refine Z.out _ _ ?_ | refine W.out _ ?_ | refine ⟨by kernel_rfl, W.out _ ?_⟩); clear Z W X Y; simp); (try refine .n ?_)
  refine .s fun K1 K2 hK1 hK2 => ?_
  simp
  refine orr_l ⟨by kernel_rfl, .inr (.inl ⟨_, _, _, co, ?_⟩)⟩
  (try simp)
  refine hK1.out _ _ ?_
  clear hK1 hK2 K1 K2
  (try simp)
  repeat (with_reducible refine .s fun X Y Z W => ?_; simp; (first | refine Z.out _ _ ?_ | refine W.out _ ?_ | refine ⟨by kernel_rfl, W.out _ ?_⟩); clear Z W X Y; simp); (try refine .n ?_)
  refine Jt.f hK ?_
  clear hK K
  with_reducible repeat first | refine Jt.i ?_ | refine .g (by decide) ?_
  refine AW.rc 50 fun K hK => ?_
  repeat (with_reducible refine .s fun X Y Z W => ?_; simp; (first | refine Z.out _ _ ?_ | refine W.out _ ?_ | refine ⟨by kernel_rfl, W.out _ ?_⟩); clear Z W X Y; simp); (try refine .n ?_)
  refine .s fun K1 K2 hK1 hK2 => ?_
  try simp
  refine orr_r (orr_r (hatch_kn rfl cb rfl rfl rfl rfl ?_))
  refine hK1.out _ _ ?_
  clear hK1 hK2 K1 K2
  (try simp)
  repeat (with_reducible refine .s fun X Y Z W => ?_; simp; (first | refine Z.out _ _ ?_ | refine W.out _ ?_ | refine ⟨by kernel_rfl, W.out _ ?_⟩); clear Z W X Y; simp); (try refine .n ?_)
  refine .s fun K1 K2 hK1 hK2 => ?_
  simp
  refine hatch_ex0 rfl ?_
  refine hK1.out _ _ ?_
  clear hK1 hK2 K1 K2
  (try simp)
  repeat (with_reducible refine .s fun X Y Z W => ?_; simp; (first | refine Z.out _ _ ?_ | refine W.out _ ?_ | refine ⟨by kernel_rfl, W.out _ ?_⟩); clear Z W X Y; simp); (try refine .n ?_)
  refine .s fun K1 K2 hK1 hK2 => ?_
  simp
  refine hatch_exs rfl rfl ?_
  refine hK1.out _ _ ?_
  clear hK1 hK2 K1 K2
  (try simp)
  repeat (with_reducible refine .s fun X Y Z W => ?_; simp; (first | refine Z.out _ _ ?_ | refine W.out _ ?_ | refine ⟨by kernel_rfl, W.out _ ?_⟩); clear Z W X Y; simp); (try refine .n ?_)
  refine Jt.f hK ?_
  clear hK K
  with_reducible repeat first | refine Jt.i ?_ | refine .g (by decide) ?_
  refine AW.rc 60 fun K hK => ?_
  repeat (with_reducible refine .s fun X Y Z W => ?_; simp; (first | refine Z.out _ _ ?_ | refine W.out _ ?_ | refine ⟨by kernel_rfl, W.out _ ?_⟩); clear Z W X Y; simp); (try refine .n ?_)
  refine .s fun K1 K2 hK1 hK2 => ?_
  simp
  refine orr_l ⟨by kernel_rfl, .inl ⟨_, crr, ?_⟩⟩
  (try simp)
  refine hK1.out _ _ ?_
  clear hK1 hK2 K1 K2
  (try simp)
  repeat (with_reducible refine .s fun X Y Z W => ?_; simp; (first | refine Z.out _ _ ?_ | refine W.out _ ?_ | refine ⟨by kernel_rfl, W.out _ ?_⟩); clear Z W X Y; simp); (try refine .n ?_)
  refine Jt.f hK ?_
  clear hK K
  with_reducible repeat first | refine Jt.i ?_ | refine .g (by decide) ?_
  refine AW.cf rfl ?_
  with_reducible repeat first | refine Jt.i ?_ | refine .g (by decide) ?_
  refine AW.rc 70 fun K hK => ?_
  repeat (with_reducible refine .s fun X Y Z W => ?_; simp; (first | refine Z.out _ _ ?_ | refine W.out _ ?_ | refine ⟨by kernel_rfl, W.out _ ?_⟩); clear Z W X Y; simp); (try refine .n ?_)
  refine .s fun K1 K2 hK1 hK2 => ?_
  simp
  refine hatch_eqnil (neqp .eql false ⟨rfl, rfl⟩) rfl ?_
  refine hK1.out _ _ ?_
  clear hK1 hK2 K1 K2
  (try simp)
  repeat (with_reducible refine .s fun X Y Z W => ?_; simp; (first | refine Z.out _ _ ?_ | refine W.out _ ?_ | refine ⟨by kernel_rfl, W.out _ ?_⟩); clear Z W X Y; simp); (try refine .n ?_)
  refine Jt.f hK ?_
  clear hK K
  with_reducible repeat first | refine Jt.i ?_ | refine .g (by decide) ?_
  refine AW.cf rfl ?_
  with_reducible repeat first | refine Jt.i ?_ | refine .g (by decide) ?_
  refine AW.rc 80 fun K hK => ?_
  repeat (with_reducible refine .s fun X Y Z W => ?_; simp; (first | refine Z.out _ _ ?_ | refine W.out _ ?_ | refine ⟨by kernel_rfl, W.out _ ?_⟩); clear Z W X Y; simp); (try refine .n ?_)
  refine .s fun K1 K2 hK1 hK2 => ?_
  simp
  refine orr_l ⟨by kernel_rfl, .inr (.inl ⟨_, _, _, co, ?_⟩)⟩
  (try simp)
  refine hK1.out _ _ ?_
  clear hK1 hK2 K1 K2
  (try simp)
  repeat (with_reducible refine .s fun X Y Z W => ?_; simp; (first | refine Z.out _ _ ?_ | refine W.out _ ?_ | refine ⟨by kernel_rfl, W.out _ ?_⟩); clear Z W X Y; simp); (try refine .n ?_)
  refine .s fun K1 K2 hK1 hK2 => ?_
  simp
  refine orr_l ⟨by kernel_rfl, .inr (.inl ⟨_, _, _, cr, ?_⟩)⟩
  (try simp)
  refine hK1.out _ _ ?_
  clear hK1 hK2 K1 K2
  (try simp)
  repeat (with_reducible refine .s fun X Y Z W => ?_; simp; (first | refine Z.out _ _ ?_ | refine W.out _ ?_ | refine ⟨by kernel_rfl, W.out _ ?_⟩); clear Z W X Y; simp); (try refine .n ?_)
  refine Jt.f hK ?_
  clear hK K
  with_reducible repeat first | refine Jt.i ?_ | refine .g (by decide) ?_
  refine AW.rc 90 fun K hK => ?_
  repeat (with_reducible refine .s fun X Y Z W => ?_; simp; (first | refine Z.out _ _ ?_ | refine W.out _ ?_ | refine ⟨by kernel_rfl, W.out _ ?_⟩); clear Z W X Y; simp); (try refine .n ?_)
  refine Jt.f hK ?_
  clear hK K
  with_reducible repeat first | refine Jt.i ?_ | refine .g (by decide) ?_
  refine AW.view (L' := [(.tmp 52, .av (.c [] (.v (.int .i64 0)))), (.tmp 51, .av (.c [] (.v (.int .i64 m.length)))), (.tmp 1, .av (.c [0] (SD st))), (.zn 910, .zn .live), (.tmp 50, .av (.c [910] (TsD m)))] ++ vgO V0 L0 st) (view_of (vw [(1, 51)] [(900, [200051]), (901, [51]), (905, [82, 100082]), (910, [41, 100041])] [] [(900, some 200051)]) (by simp [vgO])) ?_
  refine AW.conv 50 (zs := [910]) (d' := .s 2 (uT (lensT m))) rfl (fun Z w v h => ud_TsD m h) ?_
  rw [hnm]
  clear cb cr cw co crr hl hp hm hnm hmT
  generalize lensT m = ns at *
  have hun : (uT ns).length = ns.length := by simp [uT]
  refine AW.loop (X := { k : Nat // k ≤ ns.length }) (fun x => vgS V0 L0 st ns x.1) (fun x => ns.length - x.1) ⟨0, by simp⟩ (view_of (vw [] [] [] []) (by simp [vgS, vgO])) (fun x => ?_)
  obtain ⟨k, hk⟩ := x
  refine AW.at_ (fun L hL => ?_)
  simp [vgS, vgO] at hL
  subst hL
  with_reducible repeat first | refine Jt.i ?_ | refine .g (by decide) ?_
  by_cases hgo : k < ns.length
  · have w5 : IntKind.i64.wrap ((k : Int) + 1) = ((k + 1 : Nat) : Int) := by rw [i64_ok _ (by omega) (by omega)]; omega
    obtain ⟨a, b, hab⟩ : ∃ a b, ns[k] = (a, b) := ⟨ns[k].1, ns[k].2, rfl⟩
    have hm := hxs (a, b) (by rw [← hab]; exact List.getElem_mem hgo)
    have hrow : (uT ns)[k]? = some [.s 2 (uR a), .s 2 (uR b)] := by unfold uT; rw [List.getElem?_map, List.getElem?_eq_getElem hgo, hab]; rfl
    simp only at hm
    have hla := uR_len a
    have hlb := uR_len b
    refine AW.rc 100 fun K hK => ?_
    repeat (with_reducible refine .s fun X Y Z W => ?_; simp [hgo]; (first | refine Z.out _ _ ?_ | refine W.out _ ?_ | refine ⟨by kernel_rfl, W.out _ ?_⟩); clear Z W X Y; simp [hgo]); (try refine .n ?_)
    refine Jt.f hK ?_
    clear hK K
    with_reducible repeat first | refine Jt.i ?_ | refine .g (by decide) ?_
    refine AW.ct rfl ?_
    with_reducible repeat first | refine Jt.i ?_ | refine .g (by decide) ?_
    refine AW.rc 110 fun K hK => ?_
    repeat (with_reducible refine .s fun X Y Z W => ?_; simp; (first | refine Z.out _ _ ?_ | refine W.out _ ?_ | refine ⟨by kernel_rfl, W.out _ ?_⟩); clear Z W X Y; simp); (try refine .n ?_)
    refine .s fun K1 K2 hK1 hK2 => ?_
    simp
    first | refine ⟨k, [.s 2 (uR a), .s 2 (uR b)], rfl, hrow, ?_⟩ | refine orr_l ⟨k, [.s 2 (uR a), .s 2 (uR b)], rfl, hrow, ?_⟩
    refine hK1.out _ _ ?_
    clear hK1 hK2 K1 K2
    (try simp)
    repeat (with_reducible refine .s fun X Y Z W => ?_; simp; (first | refine Z.out _ _ ?_ | refine W.out _ ?_ | refine ⟨by kernel_rfl, W.out _ ?_⟩); clear Z W X Y; simp); (try refine .n ?_)
    refine Jt.f hK ?_
    clear hK K
    with_reducible repeat first | refine Jt.i ?_ | refine .g (by decide) ?_
    refine AW.rc 120 fun K hK => ?_
    repeat (with_reducible refine .s fun X Y Z W => ?_; simp [hla]; (first | refine Z.out _ _ ?_ | refine W.out _ ?_ | refine ⟨by kernel_rfl, W.out _ ?_⟩); clear Z W X Y; simp [hla]); (try refine .n ?_)
    refine Jt.f hK ?_
    clear hK K
    with_reducible repeat first | refine Jt.i ?_ | refine .g (by decide) ?_
    refine AW.loop (X := { j : Nat // j ≤ a }) (fun y => vgA V0 L0 st ns k a b y.1) (fun y => a - y.1) ⟨0, by simp⟩ (view_of (vw [(911, 112)] [] [] []) (by simp [vgA, vgT, vgS, vgO])) (fun y => ?_)
    obtain ⟨j, hj⟩ := y
    refine AW.at_ (fun L hL => ?_)
    simp [vgA, vgT, vgS, vgO] at hL
    subst hL
    with_reducible repeat first | refine Jt.i ?_ | refine .g (by decide) ?_
    by_cases hgo2 : j < a
    · have w6 : IntKind.i64.wrap ((j : Int) + 1) = ((j + 1 : Nat) : Int) := by rw [i64_ok _ (by omega) (by omega)]; omega
      refine AW.rc 300 fun K hK => ?_
      repeat (with_reducible refine .s fun X Y Z W => ?_; simp [hgo2]; (first | refine Z.out _ _ ?_ | refine W.out _ ?_ | refine ⟨by kernel_rfl, W.out _ ?_⟩); clear Z W X Y; simp [hgo2]); (try refine .n ?_)
      refine Jt.f hK ?_
      clear hK K
      with_reducible repeat first | refine Jt.i ?_ | refine .g (by decide) ?_
      refine AW.ct rfl ?_
      with_reducible repeat first | refine Jt.i ?_ | refine .g (by decide) ?_
      refine AW.rc 310 fun K hK => ?_
      repeat (with_reducible refine .s fun X Y Z W => ?_; simp; (first | refine Z.out _ _ ?_ | refine W.out _ ?_ | refine ⟨by kernel_rfl, W.out _ ?_⟩); clear Z W X Y; simp); (try refine .n ?_)
      refine Jt.f hK ?_
      clear hK K
      with_reducible repeat first | refine Jt.i ?_ | refine .g (by decide) ?_
      refine AW.rc 320 fun K hK => ?_
      repeat (with_reducible refine .s fun X Y Z W => ?_; simp; (first | refine Z.out _ _ ?_ | refine W.out _ ?_ | refine ⟨by kernel_rfl, W.out _ ?_⟩); clear Z W X Y; simp); (try refine .n ?_)
      refine .s fun K1 K2 hK1 hK2 => ?_
      simp
      first | refine ⟨j, [.st isU, .st isU], rfl, uR_get hgo2, ?_⟩ | refine orr_l ⟨j, [.st isU, .st isU], rfl, uR_get hgo2, ?_⟩
      refine hK1.out _ _ ?_
      clear hK1 hK2 K1 K2
      (try simp)
      repeat (with_reducible refine .s fun X Y Z W => ?_; simp; (first | refine Z.out _ _ ?_ | refine W.out _ ?_ | refine ⟨by kernel_rfl, W.out _ ?_⟩); clear Z W X Y; simp); (try refine .n ?_)
      refine .s fun K1 K2 hK1 hK2 => ?_
      simp
      refine hatch_add rfl rfl rfl ?_
      refine hK1.out _ _ ?_
      clear hK1 hK2 K1 K2
      (try simp)
      repeat (with_reducible refine .s fun X Y Z W => ?_; simp; (first | refine Z.out _ _ ?_ | refine W.out _ ?_ | refine ⟨by kernel_rfl, W.out _ ?_⟩); clear Z W X Y; simp); (try refine .n ?_)
      refine .s fun K1 K2 hK1 hK2 => ?_
      simp
      first | refine ⟨j, [.st isU, .st isU], rfl, uR_get hgo2, ?_⟩ | refine orr_l ⟨j, [.st isU, .st isU], rfl, uR_get hgo2, ?_⟩
      refine hK1.out _ _ ?_
      clear hK1 hK2 K1 K2
      (try simp)
      repeat (with_reducible refine .s fun X Y Z W => ?_; simp; (first | refine Z.out _ _ ?_ | refine W.out _ ?_ | refine ⟨by kernel_rfl, W.out _ ?_⟩); clear Z W X Y; simp); (try refine .n ?_)
      refine .s fun K1 K2 hK1 hK2 => ?_
      simp [keptK]
      refine hatch_stK [(.tmp 50, .s 2 (uT ns)), (.cell 911 0, .s 2 (uR a)), (.cell 911 1, .s 2 (uR b))] (T := ty) rfl rfl rfl rfl rfl rfl rfl (by simp [isVar]) (by simp) (by simp [nums_uT, ud_uR]) ?_
      refine hK1.out _ _ ?_
      clear hK1 hK2 K1 K2
      (try simp [keptK])
      repeat (with_reducible refine .s fun X Y Z W => ?_; simp [keptK]; (first | refine Z.out _ _ ?_ | refine W.out _ ?_ | refine ⟨by kernel_rfl, W.out _ ?_⟩); clear Z W X Y; simp [keptK]); (try refine .n ?_)
      refine Jt.f hK ?_
      clear hK K
      with_reducible repeat first | refine Jt.i ?_ | refine .g (by decide) ?_
      refine AW.rc 340 fun K hK => ?_
      repeat (with_reducible refine .s fun X Y Z W => ?_; simp [w6]; (first | refine Z.out _ _ ?_ | refine W.out _ ?_ | refine ⟨by kernel_rfl, W.out _ ?_⟩); clear Z W X Y; simp [w6]); (try refine .n ?_)
      refine Jt.f hK ?_
      clear hK K
      with_reducible repeat first | refine Jt.i ?_ | refine .g (by decide) ?_
      exact NX.round ⟨j + 1, hgo2⟩ (by show a - (j + 1) < a - j; omega) (view_of (vw [] [(910, [329])] [] []) (by simp [vgA, vgT, vgS, vgO]))
    · obtain rfl : j = a := by omega
      refine AW.rc 350 fun K hK => ?_
      repeat (with_reducible refine .s fun X Y Z W => ?_; simp; (first | refine Z.out _ _ ?_ | refine W.out _ ?_ | refine ⟨by kernel_rfl, W.out _ ?_⟩); clear Z W X Y; simp); (try refine .n ?_)
      refine Jt.f hK ?_
      clear hK K
      with_reducible repeat first | refine Jt.i ?_ | refine .g (by decide) ?_
      refine AW.cf rfl ?_
      with_reducible repeat first | refine Jt.i ?_ | refine .g (by decide) ?_
      refine AW.rc 360 fun K hK => ?_
      repeat (with_reducible refine .s fun X Y Z W => ?_; simp [hlb]; (first | refine Z.out _ _ ?_ | refine W.out _ ?_ | refine ⟨by kernel_rfl, W.out _ ?_⟩); clear Z W X Y; simp [hlb]); (try refine .n ?_)
      refine Jt.f hK ?_
      clear hK K
      with_reducible repeat first | refine Jt.i ?_ | refine .g (by decide) ?_
      refine AW.loop (X := { i : Nat // i ≤ b }) (fun y => vgB V0 L0 st ns k j b y.1) (fun y => b - y.1) ⟨0, by simp⟩ (view_of (vw [] [] [] []) (by simp [vgB, vgT, vgS, vgO])) (fun y => ?_)
      obtain ⟨i, hi⟩ := y
      refine AW.at_ (fun L hL => ?_)
      simp [vgB, vgT, vgS, vgO] at hL
      subst hL
      with_reducible repeat first | refine Jt.i ?_ | refine .g (by decide) ?_
      by_cases hgo3 : i < b
      · have w7 : IntKind.i64.wrap ((i : Int) + 1) = ((i + 1 : Nat) : Int) := by rw [i64_ok _ (by omega) (by omega)]; omega
        refine AW.rc 400 fun K hK => ?_
        repeat (with_reducible refine .s fun X Y Z W => ?_; simp [hgo3]; (first | refine Z.out _ _ ?_ | refine W.out _ ?_ | refine ⟨by kernel_rfl, W.out _ ?_⟩); clear Z W X Y; simp [hgo3]); (try refine .n ?_)
        refine Jt.f hK ?_
        clear hK K
        with_reducible repeat first | refine Jt.i ?_ | refine .g (by decide) ?_
        refine AW.ct rfl ?_
        with_reducible repeat first | refine Jt.i ?_ | refine .g (by decide) ?_
        refine AW.rc 410 fun K hK => ?_
        repeat (with_reducible refine .s fun X Y Z W => ?_; simp; (first | refine Z.out _ _ ?_ | refine W.out _ ?_ | refine ⟨by kernel_rfl, W.out _ ?_⟩); clear Z W X Y; simp); (try refine .n ?_)
        refine Jt.f hK ?_
        clear hK K
        with_reducible repeat first | refine Jt.i ?_ | refine .g (by decide) ?_
        refine AW.rc 420 fun K hK => ?_
        repeat (with_reducible refine .s fun X Y Z W => ?_; simp; (first | refine Z.out _ _ ?_ | refine W.out _ ?_ | refine ⟨by kernel_rfl, W.out _ ?_⟩); clear Z W X Y; simp); (try refine .n ?_)
        refine .s fun K1 K2 hK1 hK2 => ?_
        simp
        first | refine ⟨i, [.st isU, .st isU], rfl, uR_get hgo3, ?_⟩ | refine orr_l ⟨i, [.st isU, .st isU], rfl, uR_get hgo3, ?_⟩
        refine hK1.out _ _ ?_
        clear hK1 hK2 K1 K2
        (try simp)
        repeat (with_reducible refine .s fun X Y Z W => ?_; simp; (first | refine Z.out _ _ ?_ | refine W.out _ ?_ | refine ⟨by kernel_rfl, W.out _ ?_⟩); clear Z W X Y; simp); (try refine .n ?_)
        refine .s fun K1 K2 hK1 hK2 => ?_
        simp
        refine hatch_add rfl rfl rfl ?_
        refine hK1.out _ _ ?_
        clear hK1 hK2 K1 K2
        (try simp)
        repeat (with_reducible refine .s fun X Y Z W => ?_; simp; (first | refine Z.out _ _ ?_ | refine W.out _ ?_ | refine ⟨by kernel_rfl, W.out _ ?_⟩); clear Z W X Y; simp); (try refine .n ?_)
        refine .s fun K1 K2 hK1 hK2 => ?_
        simp
        first | refine ⟨i, [.st isU, .st isU], rfl, uR_get hgo3, ?_⟩ | refine orr_l ⟨i, [.st isU, .st isU], rfl, uR_get hgo3, ?_⟩
        refine hK1.out _ _ ?_
        clear hK1 hK2 K1 K2
        (try simp)
        repeat (with_reducible refine .s fun X Y Z W => ?_; simp; (first | refine Z.out _ _ ?_ | refine W.out _ ?_ | refine ⟨by kernel_rfl, W.out _ ?_⟩); clear Z W X Y; simp); (try refine .n ?_)
        refine .s fun K1 K2 hK1 hK2 => ?_
        simp [keptK]
        refine hatch_stK [(.tmp 50, .s 2 (uT ns)), (.cell 911 0, .s 2 (uR j)), (.cell 911 1, .s 2 (uR b))] (T := ty) rfl rfl rfl rfl rfl rfl rfl (by simp [isVar]) (by simp) (by simp [nums_uT, ud_uR]) ?_
        refine hK1.out _ _ ?_
        clear hK1 hK2 K1 K2
        (try simp [keptK])
        repeat (with_reducible refine .s fun X Y Z W => ?_; simp [keptK]; (first | refine Z.out _ _ ?_ | refine W.out _ ?_ | refine ⟨by kernel_rfl, W.out _ ?_⟩); clear Z W X Y; simp [keptK]); (try refine .n ?_)
        refine Jt.f hK ?_
        clear hK K
        with_reducible repeat first | refine Jt.i ?_ | refine .g (by decide) ?_
        refine AW.rc 440 fun K hK => ?_
        repeat (with_reducible refine .s fun X Y Z W => ?_; simp [w7]; (first | refine Z.out _ _ ?_ | refine W.out _ ?_ | refine ⟨by kernel_rfl, W.out _ ?_⟩); clear Z W X Y; simp [w7]); (try refine .n ?_)
        refine Jt.f hK ?_
        clear hK K
        with_reducible repeat first | refine Jt.i ?_ | refine .g (by decide) ?_
        exact NX.round ⟨i + 1, hgo3⟩ (by show b - (i + 1) < b - i; omega) (view_of (vw [] [(910, [429])] [] []) (by simp [vgB, vgT, vgS, vgO]))
      · obtain rfl : i = b := by omega
        refine AW.rc 450 fun K hK => ?_
        repeat (with_reducible refine .s fun X Y Z W => ?_; simp; (first | refine Z.out _ _ ?_ | refine W.out _ ?_ | refine ⟨by kernel_rfl, W.out _ ?_⟩); clear Z W X Y; simp); (try refine .n ?_)
        refine Jt.f hK ?_
        clear hK K
        with_reducible repeat first | refine Jt.i ?_ | refine .g (by decide) ?_
        refine AW.cf rfl ?_
        with_reducible repeat first | refine Jt.i ?_ | refine .g (by decide) ?_
        refine AW.rc 460 fun K hK => ?_
        repeat (with_reducible refine .s fun X Y Z W => ?_; simp [w5]; (first | refine Z.out _ _ ?_ | refine W.out _ ?_ | refine ⟨by kernel_rfl, W.out _ ?_⟩); clear Z W X Y; simp [w5]); (try refine .n ?_)
        refine Jt.f hK ?_
        clear hK K
        with_reducible repeat first | refine Jt.i ?_ | refine .g (by decide) ?_
        exact NX.round ⟨k + 1, hgo⟩ (by show ns.length - (k + 1) < ns.length - k; omega) (view_of (vw [] [] [] []) (by simp [vgS, vgO]))
  · obtain rfl : k = ns.length := by omega
    refine AW.rc 500 fun K hK => ?_
    repeat (with_reducible refine .s fun X Y Z W => ?_; simp; (first | refine Z.out _ _ ?_ | refine W.out _ ?_ | refine ⟨by kernel_rfl, W.out _ ?_⟩); clear Z W X Y; simp); (try refine .n ?_)
    refine Jt.f hK ?_
    clear hK K
    with_reducible repeat first | refine Jt.i ?_ | refine .g (by decide) ?_
    refine AW.cf rfl ?_
    with_reducible repeat first | refine Jt.i ?_ | refine .g (by decide) ?_
    have w1 : (st.length : Int) + 1 = (((2, 0, 0) :: st : List Sp).length : Int) := by simp
    have hst1 : ((2, 0, 0) :: st : List Sp).length ≤ 5864062014635 := by simp; omega
    have hcons : ([.v (.int .i64 2), .v (.int .u64 0), .v (.int .u64 0)] :: st.map SpD) = ((2, 0, 0) :: st : List Sp).map SpD := rfl
    have hz : ∀ zs, nzr zs (st.map SpD) = [] := fun zs => nzr_SpD zs st
    have hoc : rowsOc (st.map SpD) = True := rowsOc_SpD st
    have hRl : (st.map SpD).length = st.length := List.length_map _
    obtain ⟨S, hS⟩ : ∃ S : List Sp, (2, 0, 0) :: st = S := ⟨_, rfl⟩
    rw [hS] at hcons hst1 w1
    clear hS
    simp only [SD]
    generalize st.map SpD = R at *
    refine AW.rc 600 fun K hK => ?_
    repeat (with_reducible refine .s fun X Y Z W => ?_; simp [-nzr_e, hz, hoc, hRl]; (first | refine Z.out _ _ ?_ | refine W.out _ ?_ | refine ⟨by kernel_rfl, W.out _ ?_⟩); clear Z W X Y; simp [-nzr_e, hz, hoc, hRl]); (try refine .n ?_)
    refine .s fun K1 K2 hK1 hK2 => ?_
    simp [-nzr_e, hz, hoc, hRl]
    refine ya_mk (by (simp [maxI]; omega)) ?_
    (try simp [-nzr_e, hz, hoc, hRl])
    refine hK1.out _ _ ?_
    clear hK1 hK2 K1 K2
    (try simp [-nzr_e, hz, hoc, hRl])
    repeat (with_reducible refine .s fun X Y Z W => ?_; simp [-nzr_e, hz, hoc, hRl]; (first | refine Z.out _ _ ?_ | refine W.out _ ?_ | refine ⟨by kernel_rfl, W.out _ ?_⟩); clear Z W X Y; simp [-nzr_e, hz, hoc, hRl]); (try refine .n ?_)
    refine Jt.f hK ?_
    clear hK K
    with_reducible repeat first | refine Jt.i ?_ | refine .g (by decide) ?_
    refine AW.loop (X := { s : (VO × List Pr) × Nat // s.2 ≤ S.length ∧ s.2 ≤ 30 ∧ GoodV s.1.1 ∧ Stands s.1.1 s.1.2 ∧ s.1.2.length ≤ 416 }) (fun s => vgR s.1.1.1 s.1.1.2 S s.1.2) (fun s => S.length - s.1.2) ⟨((V0, L0), 0), by omega, by omega, G0, stv, hLn⟩ (view_of (vw [] [(920, [603])] [] [(920, some 603)]) (by simp [vgR, vgO, hcons, w1])) (fun x => ?_)
    clear G0 stv hLn hxs hns hz hoc hRl hcons w1
    obtain ⟨⟨⟨V, L⟩, i⟩, hi, hi6, G, sv, hL⟩ := x
    simp only at hi hi6 G sv hL
    refine AW.at_ (fun L' hL' => ?_)
    simp [vgR, vgO] at hL'
    subst hL'
    with_reducible repeat first | refine Jt.i ?_ | refine .g (by decide) ?_
    have crs := rest_kz V L G sv (by omega)
    have eql := equal_ct L L
    rw [decide_eq_true rfl] at eql
    by_cases hgo : i < S.length
    · have hgi : (i : Int) < (S.length : Int) := by omega
      have w5 : IntKind.i64.wrap ((i : Int) + 1) = ((i + 1 : Nat) : Int) := by rw [i64_ok _ (by omega) (by omega)]; omega
      obtain ⟨s, hs⟩ : ∃ s, S[i] = s := ⟨_, rfl⟩
      refine AW.rc 100 fun K hK => ?_
      repeat (with_reducible refine .s fun X Y Z W => ?_; simp [hgo]; (first | refine Z.out _ _ ?_ | refine W.out _ ?_ | refine ⟨by kernel_rfl, W.out _ ?_⟩); clear Z W X Y; simp [hgo]); (try refine .n ?_)
      refine Jt.f hK ?_
      clear hK K
      with_reducible repeat first | refine Jt.i ?_ | refine .g (by decide) ?_
      refine AW.ct rfl ?_
      with_reducible repeat first | refine Jt.i ?_ | refine .g (by decide) ?_
      refine AW.rc 110 fun K hK => ?_
      repeat (with_reducible refine .s fun X Y Z W => ?_; simp [hgo]; (first | refine Z.out _ _ ?_ | refine W.out _ ?_ | refine ⟨by kernel_rfl, W.out _ ?_⟩); clear Z W X Y; simp [hgo]); (try refine .n ?_)
      refine .s fun K1 K2 hK1 hK2 => ?_
      simp [hgo]
      first | refine ⟨i, SpD s, rfl, by simp [hgo, hs], ?_⟩ | refine orr_l ⟨i, SpD s, rfl, by simp [hgo, hs], ?_⟩
      refine hK1.out _ _ ?_
      clear hK1 hK2 K1 K2
      (try simp [hgo])
      repeat (with_reducible refine .s fun X Y Z W => ?_; simp [hgo]; (first | refine Z.out _ _ ?_ | refine W.out _ ?_ | refine ⟨by kernel_rfl, W.out _ ?_⟩); clear Z W X Y; simp [hgo]); (try refine .n ?_)
      refine Jt.f hK ?_
      clear hK K
      with_reducible repeat first | refine Jt.i ?_ | refine .g (by decide) ?_
      by_cases h16 : i = 30
      · have h16i : (i : Int) = 30 := by omega
        refine AW.rc 120 fun K hK => ?_
        repeat (with_reducible refine .s fun X Y Z W => ?_; simp [h16i]; (first | refine Z.out _ _ ?_ | refine W.out _ ?_ | refine ⟨by kernel_rfl, W.out _ ?_⟩); clear Z W X Y; simp [h16i]); (try refine .n ?_)
        refine Jt.f hK ?_
        clear hK K
        with_reducible repeat first | refine Jt.i ?_ | refine .g (by decide) ?_
        refine AW.ct rfl ?_
        with_reducible repeat first | refine Jt.i ?_ | refine .g (by decide) ?_
        refine AW.rc 2000 fun K hK => ?_
        repeat (with_reducible refine .s fun X Y Z W => ?_; simp; (first | refine Z.out _ _ ?_ | refine W.out _ ?_ | refine ⟨by kernel_rfl, W.out _ ?_⟩); clear Z W X Y; simp); (try refine .n ?_)
        refine .s fun K1 K2 hK1 hK2 => ?_
        try simp
        refine orr_r (orr_r (hatch_kzo (κ := .ptr 0) (fun a w g h => run_val h rfl rfl w) crs ⟨rfl, rfl, rfl, rfl, rfl, rfl, rfl, rfl, rfl⟩ rfl rfl ?_))
        refine hK1.out _ _ ?_
        clear hK1 hK2 K1 K2
        (try simp)
        repeat (with_reducible refine .s fun X Y Z W => ?_; simp; (first | refine Z.out _ _ ?_ | refine W.out _ ?_ | refine ⟨by kernel_rfl, W.out _ ?_⟩); clear Z W X Y; simp); (try refine .n ?_)
        refine .s fun K1 K2 hK1 hK2 => ?_
        simp
        refine orr_l ⟨by kernel_rfl, .inl ⟨_, eql, ?_⟩⟩
        (try simp)
        refine hK1.out _ _ ?_
        clear hK1 hK2 K1 K2
        (try simp)
        repeat (with_reducible refine .s fun X Y Z W => ?_; simp; (first | refine Z.out _ _ ?_ | refine W.out _ ?_ | refine ⟨by kernel_rfl, W.out _ ?_⟩); clear Z W X Y; simp); (try refine .n ?_)
        refine Jt.f hK ?_
        clear hK K
        with_reducible repeat first | refine Jt.i ?_ | refine .g (by decide) ?_
        refine nx_ret (T := ty) (rs := [.tmp 4]) (zs := []) (ds := [dB true]) (rr := []) (.inr rfl) rfl (by kernel_rfl) (by kernel_rfl) (by simp) rfl
      · have h16i : ¬ (i : Int) = 30 := by omega
        refine AW.rc 120 fun K hK => ?_
        repeat (with_reducible refine .s fun X Y Z W => ?_; simp [h16i]; (first | refine Z.out _ _ ?_ | refine W.out _ ?_ | refine ⟨by kernel_rfl, W.out _ ?_⟩); clear Z W X Y; simp [h16i]); (try refine .n ?_)
        refine Jt.f hK ?_
        clear hK K
        with_reducible repeat first | refine Jt.i ?_ | refine .g (by decide) ?_
        refine AW.cf rfl ?_
        with_reducible repeat first | refine Jt.i ?_ | refine .g (by decide) ?_
        refine AW.rc 130 fun K hK => ?_
        repeat (with_reducible refine .s fun X Y Z W => ?_; simp; (first | refine Z.out _ _ ?_ | refine W.out _ ?_ | refine ⟨by kernel_rfl, W.out _ ?_⟩); clear Z W X Y; simp); (try refine .n ?_)
        refine Jt.f hK ?_
        clear hK K
        with_reducible repeat first | refine Jt.i ?_ | refine .g (by decide) ?_
        refine AW.rc 140 fun K hK => ?_
        repeat (with_reducible refine .s fun X Y Z W => ?_; simp; (first | refine Z.out _ _ ?_ | refine W.out _ ?_ | refine ⟨by kernel_rfl, W.out _ ?_⟩); clear Z W X Y; simp); (try refine .n ?_)
        refine Jt.f hK ?_
        clear hK K
        refine .a ?_
        have n1 := rnext_ca L
        have n2 := next_kz V G
        rw [sv.at_is.2] at n2
        have n3 := sv.nexts
        have n4 := G.next
        have s1 := rseek_ca L s.2 sv.rises
        have s2 := seek_kz V s.2 G
        have s3 := sv.seek s.2
        have s4 := G.seek s.2
        have s5 := skip_len s.2 L
        have s6 : L.tail.length ≤ 416 := by simp; omega
        generalize nextV V = Vn at *
        generalize seekV s.2 V = Vs at *
        generalize skipR s.2 L = Ls at *
        generalize L.tail = Lt at *
        refine AW.joinB (X := { s : VO × List Pr // GoodV s.1 ∧ Stands s.1 s.2 ∧ s.2.length ≤ 416 }) (fun z => vgR z.1.1 z.1.2 S i) (fun z => ?_) (fun K hN => ?_)
        · clear n1 n2 n3 n4 s1 s2 s3 s4 s5 s6 crs eql
          obtain ⟨⟨V', L'⟩, G', sv', hL2⟩ := z
          simp only at G' sv' hL2
          refine AW.at_ (fun L' hL' => ?_)
          simp [vgR, vgO] at hL'
          subst hL'
          with_reducible repeat first | refine Jt.i ?_ | refine .g (by decide) ?_
          obtain ⟨e1, e2⟩ := sv'.at_is
          have cat := at_kz V'
          rw [e2] at cat
          have crat := rat_ct L'
          rw [← e1] at crat
          clear e1 e2
          generalize (!L'.isEmpty) = b0 at *
          have crs := rest_kz V' L' G' sv' (by omega)
          have eql := equal_ct L' L'
          rw [decide_eq_true rfl] at eql
          refine AW.rc 400 fun K hK => ?_
          repeat (with_reducible refine .s fun X Y Z W => ?_; simp; (first | refine Z.out _ _ ?_ | refine W.out _ ?_ | refine ⟨by kernel_rfl, W.out _ ?_⟩); clear Z W X Y; simp); (try refine .n ?_)
          refine .s fun K1 K2 hK1 hK2 => ?_
          try simp
          refine orr_r (orr_r (hatch_kz (κ := .ptr 0) (fun a w g h => run_val h rfl rfl w) cat ⟨rfl, rfl, rfl, rfl, rfl, rfl, rfl, rfl, rfl⟩ ?_))
          refine hK1.out _ _ ?_
          clear hK1 hK2 K1 K2
          (try simp)
          repeat (with_reducible refine .s fun X Y Z W => ?_; simp; (first | refine Z.out _ _ ?_ | refine W.out _ ?_ | refine ⟨by kernel_rfl, W.out _ ?_⟩); clear Z W X Y; simp); (try refine .n ?_)
          refine Jt.f hK ?_
          clear hK K
          with_reducible repeat first | refine Jt.i ?_ | refine .g (by decide) ?_
          refine AW.rc 410 fun K hK => ?_
          repeat (with_reducible refine .s fun X Y Z W => ?_; simp; (first | refine Z.out _ _ ?_ | refine W.out _ ?_ | refine ⟨by kernel_rfl, W.out _ ?_⟩); clear Z W X Y; simp); (try refine .n ?_)
          refine .s fun K1 K2 hK1 hK2 => ?_
          simp
          refine orr_l ⟨by kernel_rfl, .inl ⟨_, crat, ?_⟩⟩
          (try simp)
          refine hK1.out _ _ ?_
          clear hK1 hK2 K1 K2
          (try simp)
          repeat (with_reducible refine .s fun X Y Z W => ?_; simp; (first | refine Z.out _ _ ?_ | refine W.out _ ?_ | refine ⟨by kernel_rfl, W.out _ ?_⟩); clear Z W X Y; simp); (try refine .n ?_)
          refine Jt.f hK ?_
          clear hK K
          with_reducible repeat first | refine Jt.i ?_ | refine .g (by decide) ?_
          refine AW.rc 420 fun K hK => ?_
          repeat (with_reducible refine .s fun X Y Z W => ?_; simp; (first | refine Z.out _ _ ?_ | refine W.out _ ?_ | refine ⟨by kernel_rfl, W.out _ ?_⟩); clear Z W X Y; simp); (try refine .n ?_)
          refine .s fun K1 K2 hK1 hK2 => ?_
          try simp
          refine orr_r (orr_r (hatch_kzo (κ := .ptr 0) (fun a w g h => run_val h rfl rfl w) crs ⟨rfl, rfl, rfl, rfl, rfl, rfl, rfl, rfl, rfl⟩ rfl rfl ?_))
          refine hK1.out _ _ ?_
          clear hK1 hK2 K1 K2
          (try simp)
          repeat (with_reducible refine .s fun X Y Z W => ?_; simp; (first | refine Z.out _ _ ?_ | refine W.out _ ?_ | refine ⟨by kernel_rfl, W.out _ ?_⟩); clear Z W X Y; simp); (try refine .n ?_)
          refine Jt.f hK ?_
          clear hK K
          with_reducible repeat first | refine Jt.i ?_ | refine .g (by decide) ?_
          refine AW.rc 430 fun K hK => ?_
          repeat (with_reducible refine .s fun X Y Z W => ?_; simp; (first | refine Z.out _ _ ?_ | refine W.out _ ?_ | refine ⟨by kernel_rfl, W.out _ ?_⟩); clear Z W X Y; simp); (try refine .n ?_)
          refine .s fun K1 K2 hK1 hK2 => ?_
          simp
          refine sba_neq V'.at_ ?_
          refine hK1.out _ _ ?_
          clear hK1 hK2 K1 K2
          (try simp)
          repeat (with_reducible refine .s fun X Y Z W => ?_; simp; (first | refine Z.out _ _ ?_ | refine W.out _ ?_ | refine ⟨by kernel_rfl, W.out _ ?_⟩); clear Z W X Y; simp); (try refine .n ?_)
          refine .s fun K1 K2 hK1 hK2 => ?_
          simp
          refine orr_l ⟨by kernel_rfl, .inl ⟨_, eql, ?_⟩⟩
          (try simp)
          refine hK1.out _ _ ?_
          clear hK1 hK2 K1 K2
          (try simp)
          repeat (with_reducible refine .s fun X Y Z W => ?_; simp; (first | refine Z.out _ _ ?_ | refine W.out _ ?_ | refine ⟨by kernel_rfl, W.out _ ?_⟩); clear Z W X Y; simp); (try refine .n ?_)
          refine Jt.f hK ?_
          clear hK K
          with_reducible repeat first | refine Jt.i ?_ | refine .g (by decide) ?_
          refine AW.cf rfl ?_
          with_reducible repeat first | refine Jt.i ?_ | refine .g (by decide) ?_
          refine AW.rc 440 fun K hK => ?_
          repeat (with_reducible refine .s fun X Y Z W => ?_; simp; (first | refine Z.out _ _ ?_ | refine W.out _ ?_ | refine ⟨by kernel_rfl, W.out _ ?_⟩); clear Z W X Y; simp); (try refine .n ?_)
          refine Jt.f hK ?_
          clear hK K
          with_reducible repeat first | refine Jt.i ?_ | refine .g (by decide) ?_
          refine AW.light 100421 rfl rfl (all_map_isV (fun x => rfl) L') ?_
          refine AW.view (L' := vgU V' L' S i (RD L') L'.length 0) (view_of (vw [] [(900, [200421]), (901, [901, 401, 421]), (905, [905]), (930, [100421])] [] [(900, some 200421)]) (by simp [vgU, vgR, vgO])) ?_
          refine AW.conv 21 (d' := .s 2 (uR L'.length)) rfl (fun Z w v h => ud_RD L' h) ?_
          generalize hn : L'.length = n
          refine AW.loop (X := { j : Nat // j ≤ n }) (fun z => vgU V' L' S i (.s 2 (uR n)) n z.1) (fun z => n - z.1) ⟨0, by simp⟩ (view_of (vw [] [] [] []) (by simp [vgU, vgR, vgO])) (fun z => ?_)
          obtain ⟨j, hj⟩ := z
          refine AW.at_ (fun L hL => ?_)
          simp [vgU, vgR, vgO] at hL
          subst hL
          with_reducible repeat first | refine Jt.i ?_ | refine .g (by decide) ?_
          by_cases hgo2 : j < n
          · have w6 : IntKind.i64.wrap ((j : Int) + 1) = ((j + 1 : Nat) : Int) := by rw [i64_ok _ (by omega) (by omega)]; omega
            refine AW.rc 450 fun K hK => ?_
            repeat (with_reducible refine .s fun X Y Z W => ?_; simp [hgo2]; (first | refine Z.out _ _ ?_ | refine W.out _ ?_ | refine ⟨by kernel_rfl, W.out _ ?_⟩); clear Z W X Y; simp [hgo2]); (try refine .n ?_)
            refine Jt.f hK ?_
            clear hK K
            with_reducible repeat first | refine Jt.i ?_ | refine .g (by decide) ?_
            refine AW.ct rfl ?_
            with_reducible repeat first | refine Jt.i ?_ | refine .g (by decide) ?_
            refine AW.rc 460 fun K hK => ?_
            repeat (with_reducible refine .s fun X Y Z W => ?_; simp [hgo2]; (first | refine Z.out _ _ ?_ | refine W.out _ ?_ | refine ⟨by kernel_rfl, W.out _ ?_⟩); clear Z W X Y; simp [hgo2]); (try refine .n ?_)
            refine Jt.f hK ?_
            clear hK K
            with_reducible repeat first | refine Jt.i ?_ | refine .g (by decide) ?_
            refine AW.rc 470 fun K hK => ?_
            repeat (with_reducible refine .s fun X Y Z W => ?_; simp; (first | refine Z.out _ _ ?_ | refine W.out _ ?_ | refine ⟨by kernel_rfl, W.out _ ?_⟩); clear Z W X Y; simp); (try refine .n ?_)
            refine .s fun K1 K2 hK1 hK2 => ?_
            simp
            first | refine ⟨j, [.st isU, .st isU], rfl, uR_get hgo2, ?_⟩ | refine orr_l ⟨j, [.st isU, .st isU], rfl, uR_get hgo2, ?_⟩
            refine hK1.out _ _ ?_
            clear hK1 hK2 K1 K2
            (try simp)
            repeat (with_reducible refine .s fun X Y Z W => ?_; simp; (first | refine Z.out _ _ ?_ | refine W.out _ ?_ | refine ⟨by kernel_rfl, W.out _ ?_⟩); clear Z W X Y; simp); (try refine .n ?_)
            refine .s fun K1 K2 hK1 hK2 => ?_
            simp
            refine hatch_add rfl rfl rfl ?_
            refine hK1.out _ _ ?_
            clear hK1 hK2 K1 K2
            (try simp)
            repeat (with_reducible refine .s fun X Y Z W => ?_; simp; (first | refine Z.out _ _ ?_ | refine W.out _ ?_ | refine ⟨by kernel_rfl, W.out _ ?_⟩); clear Z W X Y; simp); (try refine .n ?_)
            refine .s fun K1 K2 hK1 hK2 => ?_
            simp
            first | refine ⟨j, [.st isU, .st isU], rfl, uR_get hgo2, ?_⟩ | refine orr_l ⟨j, [.st isU, .st isU], rfl, uR_get hgo2, ?_⟩
            refine hK1.out _ _ ?_
            clear hK1 hK2 K1 K2
            (try simp)
            repeat (with_reducible refine .s fun X Y Z W => ?_; simp; (first | refine Z.out _ _ ?_ | refine W.out _ ?_ | refine ⟨by kernel_rfl, W.out _ ?_⟩); clear Z W X Y; simp); (try refine .n ?_)
            refine .s fun K1 K2 hK1 hK2 => ?_
            simp [kept]
            refine hatch_st [(21, .s 2 (uR n))] (T := ty) rfl rfl rfl rfl rfl rfl rfl (by simp) (by simp [nums_uR]) ?_
            refine hK1.out _ _ ?_
            clear hK1 hK2 K1 K2
            (try simp [kept])
            repeat (with_reducible refine .s fun X Y Z W => ?_; simp [kept]; (first | refine Z.out _ _ ?_ | refine W.out _ ?_ | refine ⟨by kernel_rfl, W.out _ ?_⟩); clear Z W X Y; simp [kept]); (try refine .n ?_)
            refine Jt.f hK ?_
            clear hK K
            with_reducible repeat first | refine Jt.i ?_ | refine .g (by decide) ?_
            refine AW.rc 480 fun K hK => ?_
            repeat (with_reducible refine .s fun X Y Z W => ?_; simp [w6]; (first | refine Z.out _ _ ?_ | refine W.out _ ?_ | refine ⟨by kernel_rfl, W.out _ ?_⟩); clear Z W X Y; simp [w6]); (try refine .n ?_)
            refine Jt.f hK ?_
            clear hK K
            with_reducible repeat first | refine Jt.i ?_ | refine .g (by decide) ?_
            exact NX.round ⟨j + 1, hgo2⟩ (by show n - (j + 1) < n - j; omega) (view_of (vw [] [(930, [478])] [] []) (by simp [vgU, vgR, vgO]))
          · obtain rfl : j = n := by omega
            refine AW.rc 490 fun K hK => ?_
            repeat (with_reducible refine .s fun X Y Z W => ?_; simp; (first | refine Z.out _ _ ?_ | refine W.out _ ?_ | refine ⟨by kernel_rfl, W.out _ ?_⟩); clear Z W X Y; simp); (try refine .n ?_)
            refine Jt.f hK ?_
            clear hK K
            with_reducible repeat first | refine Jt.i ?_ | refine .g (by decide) ?_
            refine AW.cf rfl ?_
            with_reducible repeat first | refine Jt.i ?_ | refine .g (by decide) ?_
            refine AW.rc 500 fun K hK => ?_
            repeat (with_reducible refine .s fun X Y Z W => ?_; simp [w5]; (first | refine Z.out _ _ ?_ | refine W.out _ ?_ | refine ⟨by kernel_rfl, W.out _ ?_⟩); clear Z W X Y; simp [w5]); (try refine .n ?_)
            refine Jt.f hK ?_
            clear hK K
            with_reducible repeat first | refine Jt.i ?_ | refine .g (by decide) ?_
            exact NX.round ⟨((V', L'), i + 1), hgo, by show i + 1 ≤ 30; omega, G', sv', by show L'.length ≤ 416; omega⟩ (by show S.length - (i + 1) < S.length - i; omega) (view_of (vw [] [] [] []) (by simp [vgR, vgO]))
        · by_cases hk0 : s.1 = 0
          · rw [decide_eq_true hk0]
            refine AW.ct rfl ?_
            with_reducible repeat first | refine Jt.i ?_ | refine .g (by decide) ?_
            refine AW.rc 210 fun K hK => ?_
            repeat (with_reducible refine .s fun X Y Z W => ?_; simp [w5]; (first | refine Z.out _ _ ?_ | refine W.out _ ?_ | refine ⟨by kernel_rfl, W.out _ ?_⟩); clear Z W X Y; simp [w5]); (try refine .n ?_)
            refine .s fun K1 K2 hK1 hK2 => ?_
            simp [w5]
            refine orr_l ⟨by kernel_rfl, .inr (.inr (.inl ⟨_, n1, ?_⟩))⟩
            (try simp [w5])
            refine hK1.out _ _ ?_
            clear hK1 hK2 K1 K2
            (try simp [w5])
            repeat (with_reducible refine .s fun X Y Z W => ?_; simp [w5]; (first | refine Z.out _ _ ?_ | refine W.out _ ?_ | refine ⟨by kernel_rfl, W.out _ ?_⟩); clear Z W X Y; simp [w5]); (try refine .n ?_)
            refine Jt.f hK ?_
            clear hK K
            with_reducible repeat first | refine Jt.i ?_ | refine .g (by decide) ?_
            refine AW.rc 220 fun K hK => ?_
            repeat (with_reducible refine .s fun X Y Z W => ?_; simp [w5]; (first | refine Z.out _ _ ?_ | refine W.out _ ?_ | refine ⟨by kernel_rfl, W.out _ ?_⟩); clear Z W X Y; simp [w5]); (try refine .n ?_)
            refine .s fun K1 K2 hK1 hK2 => ?_
            try simp [w5]
            refine orr_r (orr_r (hatch_kz (κ := .ptr 0) (fun a w g h => run_val h rfl rfl w) n2 ⟨rfl, rfl, rfl, rfl, rfl, rfl, rfl, rfl, rfl⟩ ?_))
            refine hK1.out _ _ ?_
            clear hK1 hK2 K1 K2
            (try simp [w5])
            repeat (with_reducible refine .s fun X Y Z W => ?_; simp [w5]; (first | refine Z.out _ _ ?_ | refine W.out _ ?_ | refine ⟨by kernel_rfl, W.out _ ?_⟩); clear Z W X Y; simp [w5]); (try refine .n ?_)
            refine Jt.f hK ?_
            clear hK K
            with_reducible repeat first | refine Jt.i ?_ | refine .g (by decide) ?_
            refine AW.cf rfl ?_
            with_reducible repeat first | refine Jt.i ?_ | refine .g (by decide) ?_
            refine AW.rc 230 fun K hK => ?_
            repeat (with_reducible refine .s fun X Y Z W => ?_; simp [w5]; (first | refine Z.out _ _ ?_ | refine W.out _ ?_ | refine ⟨by kernel_rfl, W.out _ ?_⟩); clear Z W X Y; simp [w5]); (try refine .n ?_)
            refine Jt.f hK ?_
            clear hK K
            with_reducible repeat first | refine Jt.i ?_ | refine .g (by decide) ?_
            first | exact (hN.out ⟨(Vn, Lt), n4, n3, s6⟩ _ fun a w h => (view_of (vw [] [(900, [200221]), (901, [901, 221]), (905, [211, 905])] [] [(900, some 200221)]) (by simp [vgR, vgO])) a w h).1 | exact (hN.out ⟨(Vn, Lt), n4, n3, s6⟩ _ fun a w h => (view_of (vw [] [(900, [200221]), (901, [901, 221]), (905, [211, 905])] [] [(900, some 200221)]) (by simp [vgR, vgO])) a w h).2
          · rw [decide_eq_false hk0]
            refine AW.cf rfl ?_
            with_reducible repeat first | refine Jt.i ?_ | refine .g (by decide) ?_
            by_cases hk1 : s.1 = 1
            · skip
              refine AW.rc 240 fun K hK => ?_
              repeat (with_reducible refine .s fun X Y Z W => ?_; simp [eq_true hk1]; (first | refine Z.out _ _ ?_ | refine W.out _ ?_ | refine ⟨by kernel_rfl, W.out _ ?_⟩); clear Z W X Y; simp [eq_true hk1]); (try refine .n ?_)
              refine Jt.f hK ?_
              clear hK K
              with_reducible repeat first | refine Jt.i ?_ | refine .g (by decide) ?_
              refine AW.ct rfl ?_
              with_reducible repeat first | refine Jt.i ?_ | refine .g (by decide) ?_
              refine AW.rc 250 fun K hK => ?_
              repeat (with_reducible refine .s fun X Y Z W => ?_; simp; (first | refine Z.out _ _ ?_ | refine W.out _ ?_ | refine ⟨by kernel_rfl, W.out _ ?_⟩); clear Z W X Y; simp); (try refine .n ?_)
              refine .s fun K1 K2 hK1 hK2 => ?_
              simp
              refine orr_l ⟨by kernel_rfl, .inr (.inr (.inl ⟨_, s1, ?_⟩))⟩
              (try simp)
              refine hK1.out _ _ ?_
              clear hK1 hK2 K1 K2
              (try simp)
              repeat (with_reducible refine .s fun X Y Z W => ?_; simp; (first | refine Z.out _ _ ?_ | refine W.out _ ?_ | refine ⟨by kernel_rfl, W.out _ ?_⟩); clear Z W X Y; simp); (try refine .n ?_)
              refine Jt.f hK ?_
              clear hK K
              with_reducible repeat first | refine Jt.i ?_ | refine .g (by decide) ?_
              refine AW.rc 260 fun K hK => ?_
              repeat (with_reducible refine .s fun X Y Z W => ?_; simp; (first | refine Z.out _ _ ?_ | refine W.out _ ?_ | refine ⟨by kernel_rfl, W.out _ ?_⟩); clear Z W X Y; simp); (try refine .n ?_)
              refine .s fun K1 K2 hK1 hK2 => ?_
              try simp
              refine orr_r (orr_r (hatch_kz (κ := .ptr 0) (fun a w g h => run_val h rfl rfl w) s2 ⟨rfl, rfl, rfl, rfl, rfl, rfl, rfl, rfl, rfl⟩ ?_))
              refine hK1.out _ _ ?_
              clear hK1 hK2 K1 K2
              (try simp)
              repeat (with_reducible refine .s fun X Y Z W => ?_; simp; (first | refine Z.out _ _ ?_ | refine W.out _ ?_ | refine ⟨by kernel_rfl, W.out _ ?_⟩); clear Z W X Y; simp); (try refine .n ?_)
              refine Jt.f hK ?_
              clear hK K
              with_reducible repeat first | refine Jt.i ?_ | refine .g (by decide) ?_
              refine AW.cf rfl ?_
              with_reducible repeat first | refine Jt.i ?_ | refine .g (by decide) ?_
              first | exact (hN.out ⟨(Vs, Ls), s4, s3, Nat.le_trans s5 hL⟩ _ fun a w h => (view_of (vw [] [(900, [200263]), (901, [901, 263]), (905, [253, 905])] [] [(900, some 200263)]) (by simp [vgR, vgO])) a w h).1 | exact (hN.out ⟨(Vs, Ls), s4, s3, Nat.le_trans s5 hL⟩ _ fun a w h => (view_of (vw [] [(900, [200263]), (901, [901, 263]), (905, [253, 905])] [] [(900, some 200263)]) (by simp [vgR, vgO])) a w h).2
            · skip
              refine AW.rc 240 fun K hK => ?_
              repeat (with_reducible refine .s fun X Y Z W => ?_; simp [hk1]; (first | refine Z.out _ _ ?_ | refine W.out _ ?_ | refine ⟨by kernel_rfl, W.out _ ?_⟩); clear Z W X Y; simp [hk1]); (try refine .n ?_)
              refine Jt.f hK ?_
              clear hK K
              with_reducible repeat first | refine Jt.i ?_ | refine .g (by decide) ?_
              refine AW.cf rfl ?_
              with_reducible repeat first | refine Jt.i ?_ | refine .g (by decide) ?_
              first | exact (hN.out ⟨(V, L), G, sv, hL⟩ _ fun a w h => (view_of (vw [] [] [] []) (by simp [vgR, vgO])) a w h).1 | exact (hN.out ⟨(V, L), G, sv, hL⟩ _ fun a w h => (view_of (vw [] [] [] []) (by simp [vgR, vgO])) a w h).2
    · have hgi : ¬ (i : Int) < (S.length : Int) := by omega
      refine AW.rc 100 fun K hK => ?_
      repeat (with_reducible refine .s fun X Y Z W => ?_; simp [hgi]; (first | refine Z.out _ _ ?_ | refine W.out _ ?_ | refine ⟨by kernel_rfl, W.out _ ?_⟩); clear Z W X Y; simp [hgi]); (try refine .n ?_)
      refine Jt.f hK ?_
      clear hK K
      with_reducible repeat first | refine Jt.i ?_ | refine .g (by decide) ?_
      refine AW.cf rfl ?_
      with_reducible repeat first | refine Jt.i ?_ | refine .g (by decide) ?_
      refine AW.rc 2000 fun K hK => ?_
      repeat (with_reducible refine .s fun X Y Z W => ?_; simp; (first | refine Z.out _ _ ?_ | refine W.out _ ?_ | refine ⟨by kernel_rfl, W.out _ ?_⟩); clear Z W X Y; simp); (try refine .n ?_)
      refine .s fun K1 K2 hK1 hK2 => ?_
      try simp
      refine orr_r (orr_r (hatch_kzo (κ := .ptr 0) (fun a w g h => run_val h rfl rfl w) crs ⟨rfl, rfl, rfl, rfl, rfl, rfl, rfl, rfl, rfl⟩ rfl rfl ?_))
      refine hK1.out _ _ ?_
      clear hK1 hK2 K1 K2
      (try simp)
      repeat (with_reducible refine .s fun X Y Z W => ?_; simp; (first | refine Z.out _ _ ?_ | refine W.out _ ?_ | refine ⟨by kernel_rfl, W.out _ ?_⟩); clear Z W X Y; simp); (try refine .n ?_)
      refine .s fun K1 K2 hK1 hK2 => ?_
      simp
      refine orr_l ⟨by kernel_rfl, .inl ⟨_, eql, ?_⟩⟩
      (try simp)
      refine hK1.out _ _ ?_
      clear hK1 hK2 K1 K2
      (try simp)
      repeat (with_reducible refine .s fun X Y Z W => ?_; simp; (first | refine Z.out _ _ ?_ | refine W.out _ ?_ | refine ⟨by kernel_rfl, W.out _ ?_⟩); clear Z W X Y; simp); (try refine .n ?_)
      refine Jt.f hK ?_
      clear hK K
      with_reducible repeat first | refine Jt.i ?_ | refine .g (by decide) ?_
      refine nx_ret (T := ty) (rs := [.tmp 4]) (zs := []) (ds := [dB true]) (rr := []) (.inr rfl) rfl (by kernel_rfl) (by kernel_rfl) (by simp) rfl
theorem vgo_ct (l : List Tr) (st : List Sp) (hN : l.length ≤ maxI) (hst : st.length ≤ 5864062014634) (hw : ∀ t ∈ l, wfT t) : Ct Try.prog 6 [.c (TsD l), .c (SD st)] none (.one (dB true)) := by
  obtain ⟨f1, f2⟩ := own26_fact hw
  have hs : ∀ t ∈ own26 l, t.1.length + t.2.length ≤ 32 := fun t ht => by have := f2 t ht; omega
  cases h : tsR (own26 l) with
  | false => exact vgo_bad l st hN h hs f1
  | true =>
    have hl : (own26 l).length ≤ 24 := by unfold tsR at h; simp at h; exact h.1
    have b := whichL_short (l := own26 l) (c := 16) fun t ht => (f2 t ht).1
    have c : pairsN (own26 l) ≤ 32 * (own26 l).length := pairsN_bound fun t ht => by have := f2 t ht; unfold pairsT; omega
    exact vgo_good l st hN hst (by omega) h (fun t ht => ⟨(f2 t ht).1, (f2 t ht).2.1⟩) (by omega) (by omega)
end Go.Proofs.Ytlkdkhmdmgchbaa
