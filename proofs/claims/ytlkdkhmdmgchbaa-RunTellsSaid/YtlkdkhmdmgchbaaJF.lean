/- The second logic: runs turned, parted, searched, gathered. -/
import Derived.Test.YtlkdkhmdmgchbaaJD
import Derived.Test.YtlkdkhmdmgchbaaJE
import Derived.Test.YtlkdkhmdmgchbaaH10
import Derived.Laws.StructEq
import Derived.Shelf.SlicesE.Kit
import Derived.Shelf.SlicesE.Compact
import Derived.Shelf.SlicesE.Equal
import Derived.Test.YtlkdkhmdmgchbaaJS
namespace Go.Proofs.Ytlkdkhmdmgchbaa
set_option linter.unusedSimpArgs false
set_option linter.unusedVariables false
open Go.RowKit
attribute [local simp ↓] arun_nil ob_some kva_av kfree_free khfree_free khown_own klive_live knm_false chk_true ya_true gsel_tt gsel_ff gsel_tf gsel_ft vb_bool vi_int vstr_string avps_ptr avps_seg avp_ptr avagg_agg avtup_tup avb_bool avown_own shs_struct shsa_struct shsa_arr sharr_arr shl_slice shla_slice shla_arr shls_slice shls_str shi_int bc_true bc_false hd1_cons opc_some opc_none opn_some opn_none unc_not unc_neg gd_none gd_some as_move as_assign as_pick as_bin as_un as_conv as_load as_faddr as_field as_extract as_iaddr as_slice as_alloc as_box as_store as_build as_rows as_call as_append as_lookup as_mapUpdate as_makeMap as_range as_next as_entry as_index as_fn as_len as_min as_max stMove stPick stBin stUn stConv stLoad stFaddr stField stExtract stIaddr stSlice stAlloc stBox stStore stBuild stIndex stRows stCall stAppend stFn stLen stMin stMax opd_tmp opd_const opd_func rawL_nil rawL_cons raw_c raw_st raw_a opr_e zr_nil zr_cons lvd_live hod_own obd_some obd_none kvd_av chd_true vid_int lk_cons lk_nil ins_nil ins_cons cells_zero cells_succ spread1_c spread1_own spread1_ptr spread1_fn spread1_seg spreadL_nil spreadL_cons spread_agg spread_c spread_own spread_seg spread_ptr spread_fn ex_zero ex_succ ops_e opb_none opb_int spreadD_agg spreadD_c spreadD_own spreadD_seg fillO_nil fillO_cons argsOf_nil argsOf_cons dvOf_c dvOf_seg dvOf_own dvOf_agg zrL_nil zrL_cons hdd_c hdd_seg hdd_own clz_e clv_raw clv_f callD_e dst0_n dst0_nil dst0_own goneH_e capc_ptr capc_seg capc_c capN_nil capN_cons capD_nil capD_cons deadZ_nil deadZ_cons
attribute [local simp] dok_some dok_none dflt_tmp dflt_vt dflt_cell dflt_zn dflt_nm dflt_hd dflt_df puts_nil puts_cons wr_some wr_none cst_agg cst_int cst_bool cst_string cst_slice cst_tuple cst_nilFunc cst_pointer cst_func bin_add bin_sub bin_mul bin_quo bin_rem bin_eql bin_neq bin_lss bin_leq bin_gtr bin_geq bin_bool bin_aggs binT_bool binT_aggs shbd_bool eqb_eql eqb_neq bin_slice bin_str_eql bin_str_neq bin_str_lss bin_str_add nz_v nz_n nz_s nz_p nz_f nz_st atz_v atz_n atz_s atz_p atz_f atz_st atz_agg atR_one atR_tup crow_nil crow_cons slc_c slc_n slc_own slc_nil raws setR placesT_nil placesT_cons zc chunk zsAll ocD_v ocD_n ocD_s ocD_p ocD_f ocD_st nrm_v nrm_n nrm_s nrm_p nrm_f nrm_st isV_one isV_tup isV_c isV_agg isV_v isV_n isV_s isV_p isV_f isV_st argRows Sh.agg zds_nil zds_e zds_v zds_s vcells_agg vcells_int vcells_bool vcells_string vcells_slice vcells_pointer toList_lit map_nilL map_consL nzr_e rowsOc_nil rowsOc_cons rowsOc_RD nzr_RD ty2 ty3 ty4 ty5 ty6 ty7 ty8 ty9 ty10 ty11 ty12 ty13 ty14 ty15 ty16 ty17 ty18 ty19 ty20 ty21 ty22 ty23 ty24 ty25 ty26 ty27 ty30 ty40 ty48 ty50 ty51 ty52 ty55 ty57 ty62 ty63 ty85 ty94 ty101 ty121 ty122 ty123 ty124 ty125 ty126 ty128 ty148 ty149 ty151 ty164 ty165 ty179 ty182 ty196 ty203 ty205 ty209 ty211 ty215 ty216 ty217 ty218 ty219 ty220 ty221 ty223 ty224 ty225 ty226 ty227 Value.oneCell'
set_option maxRecDepth 100000
def smallL : List Pr := [(1, 5), (2, 3), (2, 9)]
set_option maxHeartbeats 4000000 in
theorem small03_ct : Ct Try.prog 115 [] (some 52) (.one (.c (RD smallL))) := by
  refine ct_intro Try.func115 rfl Try.ntmps115 (by simp) (fun W0 Z => ?_)
  with_reducible (repeat (first | refine AW.seq ?_ | refine AW.block ?_ | refine AW.skip ?_ | refine AW.exit ?_ | refine AW.ret ?_ | refine AW.label ?_ | refine NX.then ?_ | refine NX.ret ?_ | refine NX.exit ?_ | refine NX.inRet ?_ | refine NX.inNormal ?_ | refine NX.inExit ?_ | refine NX.outExit (by decide) ?_))
  refine AW.at_ (fun L hL => ?_)
  simp at hL
  subst hL
  refine AW.re ty (by kernel_rfl) (by first | exact cx_N _ _ _ | assumption) (by first | exact cx_pz _ _ _ | assumption) 1 (by decide) (fun K hK => ?_)
  (try simp only [List.toList_toArray, toList_lit]); repeat (with_reducible refine AR.step (fun K1 K2 hK1 hK2 => ?_); simp; (first | refine hK1.out _ _ ?_ | refine hK2.out _ ?_ | refine ⟨by kernel_rfl, hK2.out _ ?_⟩); clear hK1 hK2 K1 K2; simp); (try with_reducible refine AR.nil ?_)
  refine ⟨chk_text _ _, hK.out _ ?_⟩
  clear hK K
  with_reducible (repeat (first | refine AW.seq ?_ | refine AW.block ?_ | refine AW.skip ?_ | refine AW.exit ?_ | refine AW.ret ?_ | refine AW.label ?_ | refine NX.then ?_ | refine NX.ret ?_ | refine NX.exit ?_ | refine NX.inRet ?_ | refine NX.inNormal ?_ | refine NX.inExit ?_ | refine NX.outExit (by decide) ?_))
  refine AW.re ty (by kernel_rfl) (by first | exact cx_N _ _ _ | assumption) (by first | exact cx_pz _ _ _ | assumption) 10 (by decide) (fun K hK => ?_)
  (try simp only [List.toList_toArray, toList_lit]); repeat (with_reducible refine AR.step (fun K1 K2 hK1 hK2 => ?_); simp; (first | refine hK1.out _ _ ?_ | refine hK2.out _ ?_ | refine ⟨by kernel_rfl, hK2.out _ ?_⟩); clear hK1 hK2 K1 K2; simp); (try with_reducible refine AR.nil ?_)
  refine ⟨chk_text _ _, hK.out _ ?_⟩
  clear hK K
  with_reducible (repeat (first | refine AW.seq ?_ | refine AW.block ?_ | refine AW.skip ?_ | refine AW.exit ?_ | refine AW.ret ?_ | refine AW.label ?_ | refine NX.then ?_ | refine NX.ret ?_ | refine NX.exit ?_ | refine NX.inRet ?_ | refine NX.inNormal ?_ | refine NX.inExit ?_ | refine NX.outExit (by decide) ?_))
  exact nx_reto (t := 0) (n := 13) (y := 13) (zs := []) (rr := [(.zn 13, .zn .live)]) (.inr rfl) rfl (by kernel_rfl) (by kernel_rfl) (by kernel_rfl) (by simp) rfl
set_option maxHeartbeats 4000000 in
theorem few03_ct (l : List Pr) : Ct Try.prog 58 [.c (RD l)] (some 52) (.one (.c (RD (l.take 40)))) := by
  obtain ⟨m, hm0⟩ : ∃ m, m = l.take 40 := ⟨_, rfl⟩
  have cc := clone_ct m (by rw [hm0, List.length_take]; omega)
  rw [← hm0]
  refine ct_intro Try.func58 rfl Try.ntmps58 (by simp) (fun W0 Z => ?_)
  with_reducible (repeat (first | refine AW.seq ?_ | refine AW.block ?_ | refine AW.skip ?_ | refine AW.exit ?_ | refine AW.ret ?_ | refine AW.label ?_ | refine NX.then ?_ | refine NX.ret ?_ | refine NX.exit ?_ | refine NX.inRet ?_ | refine NX.inNormal ?_ | refine NX.inExit ?_ | refine NX.outExit (by decide) ?_))
  refine AW.at_ (fun L hL => ?_)
  simp at hL
  subst hL
  refine AW.re ty (by kernel_rfl) (by first | exact cx_N _ _ _ | assumption) (by first | exact cx_pz _ _ _ | assumption) 1 (by decide) (fun K hK => ?_)
  (try simp only [List.toList_toArray, toList_lit]); repeat (with_reducible refine AR.step (fun K1 K2 hK1 hK2 => ?_); simp; (first | refine hK1.out _ _ ?_ | refine hK2.out _ ?_ | refine ⟨by kernel_rfl, hK2.out _ ?_⟩); clear hK1 hK2 K1 K2; simp); (try with_reducible refine AR.nil ?_)
  refine ⟨chk_text _ _, hK.out _ ?_⟩
  clear hK K
  with_reducible (repeat (first | refine AW.seq ?_ | refine AW.block ?_ | refine AW.skip ?_ | refine AW.exit ?_ | refine AW.ret ?_ | refine AW.label ?_ | refine NX.then ?_ | refine NX.ret ?_ | refine NX.exit ?_ | refine NX.inRet ?_ | refine NX.inNormal ?_ | refine NX.inExit ?_ | refine NX.outExit (by decide) ?_))
  have hm : (if (40 : Int) < (l.length : Int) then (40 : Int) else (l.length : Int)) = ((min l.length 40 : Nat) : Int) := by split <;> omega
  have ht : List.take (min l.length 40) (l.map PD) = m.map PD := by rw [hm0, ← List.map_take]; congr 1; rw [List.take_eq_take_iff]; omega
  refine AW.re ty (by kernel_rfl) (by first | exact cx_N _ _ _ | assumption) (by first | exact cx_pz _ _ _ | assumption) 10 (by decide) (fun K hK => ?_)
  (try simp only [List.toList_toArray, toList_lit]); repeat (with_reducible refine AR.step (fun K1 K2 hK1 hK2 => ?_); simp [hm]; (first | refine hK1.out _ _ ?_ | refine hK2.out _ ?_ | refine ⟨by kernel_rfl, hK2.out _ ?_⟩); clear hK1 hK2 K1 K2; simp [hm]); (try with_reducible refine AR.nil ?_)
  refine AR.step (fun K1 K2 hK1 hK2 => ?_)
  simp [hm]
  refine slice_take (by simp; omega) ?_
  refine hK1.out _ _ ?_
  clear hK1 hK2 K1 K2
  (try simp [hm])
  (try simp only [List.toList_toArray, toList_lit]); repeat (with_reducible refine AR.step (fun K1 K2 hK1 hK2 => ?_); simp [hm]; (first | refine hK1.out _ _ ?_ | refine hK2.out _ ?_ | refine ⟨by kernel_rfl, hK2.out _ ?_⟩); clear hK1 hK2 K1 K2; simp [hm]); (try with_reducible refine AR.nil ?_)
  rw [ht]
  refine AR.step (fun K1 K2 hK1 hK2 => ?_)
  simp
  refine orr_l ⟨by kernel_rfl, .inr (.inl ⟨_, _, _, cc, ?_⟩)⟩
  (try simp)
  refine hK1.out _ _ ?_
  clear hK1 hK2 K1 K2
  (try simp)
  (try simp only [List.toList_toArray, toList_lit]); repeat (with_reducible refine AR.step (fun K1 K2 hK1 hK2 => ?_); simp; (first | refine hK1.out _ _ ?_ | refine hK2.out _ ?_ | refine ⟨by kernel_rfl, hK2.out _ ?_⟩); clear hK1 hK2 K1 K2; simp); (try with_reducible refine AR.nil ?_)
  refine ⟨chk_text _ _, hK.out _ ?_⟩
  clear hK K
  with_reducible (repeat (first | refine AW.seq ?_ | refine AW.block ?_ | refine AW.skip ?_ | refine AW.exit ?_ | refine AW.ret ?_ | refine AW.label ?_ | refine NX.then ?_ | refine NX.ret ?_ | refine NX.exit ?_ | refine NX.inRet ?_ | refine NX.inNormal ?_ | refine NX.inExit ?_ | refine NX.outExit (by decide) ?_))
  exact nx_reto (t := 2) (n := 15) (y := 15) (zs := [100015]) (rr := [(.zn 15, .zn .live), (.zn 100015, .zn .live)]) (.inr rfl) rfl (by kernel_rfl) (by kernel_rfl) (by kernel_rfl) (by simp) rfl
/-- what Between takes so far. -/
def btwP (f t : Pr) : Pr → Bool := fun p => !decide (lt p f) && decide (lt p t)
def btwS (l : List Pr) (f t : Pr) (k : Nat) : Row := [(.zn 0, .zn .live), (.zn 900, .zn .live), (.hd 900, .hd (.own 52 2 900 [] (((l.take k).filter (btwP f t)).map PD))), (.nm 1, .nm true), (.cell 1 0, .av (.c [] (.v (.int .u64 f.1)))), (.cell 1 1, .av (.c [] (.v (.int .u64 f.2)))),
  (.nm 2, .nm true), (.cell 2 0, .av (.c [] (.v (.int .u64 t.1)))), (.cell 2 1, .av (.c [] (.v (.int .u64 t.2)))), (.tmp 4, .av (.ptr 1 0)), (.tmp 5, .av (.ptr 2 0)), (.tmp 7, .av (.own 900)), (.tmp 10, .av (.c [0] (RD l))), (.tmp 11, .av (.c [] (.v (.int .i64 l.length)))), (.tmp 12, .av (.c [] (.v (.int .i64 k))))]
set_option maxHeartbeats 4000000 in
theorem rbetween_ct (l : List Pr) (f t : Pr) (hn : l.length ≤ 1000000) : Ct Try.prog 68 [.c (RD l), PV f, PV t] (some 52) (.one (.c (RD (l.filter (btwP f t))))) := by
  refine ct_intro Try.func68 rfl Try.ntmps68 (by simp) (fun W0 Z => ?_)
  with_reducible (repeat (first | refine AW.seq ?_ | refine AW.block ?_ | refine AW.skip ?_ | refine AW.exit ?_ | refine AW.ret ?_ | refine AW.label ?_ | refine NX.then ?_ | refine NX.ret ?_ | refine NX.exit ?_ | refine NX.inRet ?_ | refine NX.inNormal ?_ | refine NX.inExit ?_ | refine NX.outExit (by decide) ?_))
  refine AW.at_ (fun L hL => ?_)
  simp at hL
  subst hL
  refine AW.re ty (by kernel_rfl) (by first | exact cx_N _ _ _ | assumption) (by first | exact cx_pz _ _ _ | assumption) 1 (by decide) (fun K hK => ?_)
  (try simp only [List.toList_toArray, toList_lit]); repeat (with_reducible refine AR.step (fun K1 K2 hK1 hK2 => ?_); simp; (first | refine hK1.out _ _ ?_ | refine hK2.out _ ?_ | refine ⟨by kernel_rfl, hK2.out _ ?_⟩); clear hK1 hK2 K1 K2; simp); (try with_reducible refine AR.nil ?_)
  refine ⟨chk_text _ _, hK.out _ ?_⟩
  clear hK K
  with_reducible (repeat (first | refine AW.seq ?_ | refine AW.block ?_ | refine AW.skip ?_ | refine AW.exit ?_ | refine AW.ret ?_ | refine AW.label ?_ | refine NX.then ?_ | refine NX.ret ?_ | refine NX.exit ?_ | refine NX.inRet ?_ | refine NX.inNormal ?_ | refine NX.inExit ?_ | refine NX.outExit (by decide) ?_))
  refine AW.re ty (by kernel_rfl) (by first | exact cx_N _ _ _ | assumption) (by first | exact cx_pz _ _ _ | assumption) 10 (by decide) (fun K hK => ?_)
  (try simp only [List.toList_toArray, toList_lit]); repeat (with_reducible refine AR.step (fun K1 K2 hK1 hK2 => ?_); simp; (first | refine hK1.out _ _ ?_ | refine hK2.out _ ?_ | refine ⟨by kernel_rfl, hK2.out _ ?_⟩); clear hK1 hK2 K1 K2; simp); (try with_reducible refine AR.nil ?_)
  refine ⟨chk_text _ _, hK.out _ ?_⟩
  clear hK K
  with_reducible (repeat (first | refine AW.seq ?_ | refine AW.block ?_ | refine AW.skip ?_ | refine AW.exit ?_ | refine AW.ret ?_ | refine AW.label ?_ | refine NX.then ?_ | refine NX.ret ?_ | refine NX.exit ?_ | refine NX.inRet ?_ | refine NX.inNormal ?_ | refine NX.inExit ?_ | refine NX.outExit (by decide) ?_))
  refine AW.re ty (by kernel_rfl) (by first | exact cx_N _ _ _ | assumption) (by first | exact cx_pz _ _ _ | assumption) 20 (by decide) (fun K hK => ?_)
  (try simp only [List.toList_toArray, toList_lit]); repeat (with_reducible refine AR.step (fun K1 K2 hK1 hK2 => ?_); simp; (first | refine hK1.out _ _ ?_ | refine hK2.out _ ?_ | refine ⟨by kernel_rfl, hK2.out _ ?_⟩); clear hK1 hK2 K1 K2; simp); (try with_reducible refine AR.nil ?_)
  refine ⟨chk_text _ _, hK.out _ ?_⟩
  clear hK K
  with_reducible (repeat (first | refine AW.seq ?_ | refine AW.block ?_ | refine AW.skip ?_ | refine AW.exit ?_ | refine AW.ret ?_ | refine AW.label ?_ | refine NX.then ?_ | refine NX.ret ?_ | refine NX.exit ?_ | refine NX.inRet ?_ | refine NX.inNormal ?_ | refine NX.inExit ?_ | refine NX.outExit (by decide) ?_))
  refine AW.loop (X := { k : Nat // k ≤ l.length }) (fun x => btwS l f t x.1) (fun x => l.length - x.1) ⟨0, by simp⟩ (fun _ _ h => AS.fold (fold_of (V := vw [] [(900, [])] [] [(900, none)]) (by first | exact cx_pz _ _ _ | assumption) (by kernel_rfl) (by rfl) (by simp [btwS, foks_nil, foks_cons, fok_tmp, fok_vt, fok_cell, fok_nm, fok_zn, fok_hd, fok_df, Fv_c, Fv_seg, Fv_tup, Fv_agg, Fv_ptr, Fv_ptrs, Fv_fn, Fv_fnd, Fv_own, Fv_ownd, Fv_nown, Fv_vown, FvL_nil, FvL_cons, kvp_av, hdp_some, subz, frz, Uz, Nm, Uh, vw_nb, vw_zo, vw_zf, vw_hb, tb_nil, tb_cons, fzc_nil, fzc_cons, fzcaps_nil, fzcaps_cons])) h) (fun x => ?_)
  obtain ⟨k, hk⟩ := x
  refine AW.at_ (fun L hL => ?_)
  simp [btwS] at hL
  subst hL
  with_reducible (repeat (first | refine AW.seq ?_ | refine AW.block ?_ | refine AW.skip ?_ | refine AW.exit ?_ | refine AW.ret ?_ | refine AW.label ?_ | refine NX.then ?_ | refine NX.ret ?_ | refine NX.exit ?_ | refine NX.inRet ?_ | refine NX.inNormal ?_ | refine NX.inExit ?_ | refine NX.outExit (by decide) ?_))
  by_cases hgo : k < l.length
  · skip
    refine AW.re ty (by kernel_rfl) (by first | exact cx_N _ _ _ | assumption) (by first | exact cx_pz _ _ _ | assumption) 200 (by decide) (fun K hK => ?_)
    (try simp only [List.toList_toArray, toList_lit]); repeat (with_reducible refine AR.step (fun K1 K2 hK1 hK2 => ?_); simp [hgo]; (first | refine hK1.out _ _ ?_ | refine hK2.out _ ?_ | refine ⟨by kernel_rfl, hK2.out _ ?_⟩); clear hK1 hK2 K1 K2; simp [hgo]); (try with_reducible refine AR.nil ?_)
    refine ⟨chk_text _ _, hK.out _ ?_⟩
    clear hK K
    with_reducible (repeat (first | refine AW.seq ?_ | refine AW.block ?_ | refine AW.skip ?_ | refine AW.exit ?_ | refine AW.ret ?_ | refine AW.label ?_ | refine NX.then ?_ | refine NX.ret ?_ | refine NX.exit ?_ | refine NX.inRet ?_ | refine NX.inNormal ?_ | refine NX.inExit ?_ | refine NX.outExit (by decide) ?_))
    refine AW.ct rfl ?_
    with_reducible (repeat (first | refine AW.seq ?_ | refine AW.block ?_ | refine AW.skip ?_ | refine AW.exit ?_ | refine AW.ret ?_ | refine AW.label ?_ | refine NX.then ?_ | refine NX.ret ?_ | refine NX.exit ?_ | refine NX.inRet ?_ | refine NX.inNormal ?_ | refine NX.inExit ?_ | refine NX.outExit (by decide) ?_))
    have FT := filter_take_snoc (btwP f t) hgo
    have FL := List.length_filter_le (btwP f t) (l.take k)
    rw [List.length_take] at FL
    obtain ⟨x, hx⟩ : ∃ x, l[k] = x := ⟨_, rfl⟩
    rw [hx] at FT
    refine AW.re ty (by kernel_rfl) (by first | exact cx_N _ _ _ | assumption) (by first | exact cx_pz _ _ _ | assumption) 210 (by decide) (fun K hK => ?_)
    (try simp only [List.toList_toArray, toList_lit]); repeat (with_reducible refine AR.step (fun K1 K2 hK1 hK2 => ?_); simp; (first | refine hK1.out _ _ ?_ | refine hK2.out _ ?_ | refine ⟨by kernel_rfl, hK2.out _ ?_⟩); clear hK1 hK2 K1 K2; simp); (try with_reducible refine AR.nil ?_)
    refine AR.step (fun K1 K2 hK1 hK2 => ?_)
    simp
    refine ⟨k, PD x, rfl, by simp [hgo, hx], ?_⟩
    refine hK1.out _ _ ?_
    clear hK1 hK2 K1 K2
    (try simp)
    (try simp only [List.toList_toArray, toList_lit]); repeat (with_reducible refine AR.step (fun K1 K2 hK1 hK2 => ?_); simp; (first | refine hK1.out _ _ ?_ | refine hK2.out _ ?_ | refine ⟨by kernel_rfl, hK2.out _ ?_⟩); clear hK1 hK2 K1 K2; simp); (try with_reducible refine AR.nil ?_)
    refine ⟨chk_text _ _, hK.out _ ?_⟩
    clear hK K
    with_reducible (repeat (first | refine AW.seq ?_ | refine AW.block ?_ | refine AW.skip ?_ | refine AW.exit ?_ | refine AW.ret ?_ | refine AW.label ?_ | refine NX.then ?_ | refine NX.ret ?_ | refine NX.exit ?_ | refine NX.inRet ?_ | refine NX.inNormal ?_ | refine NX.inExit ?_ | refine NX.outExit (by decide) ?_))
    have c1 := ahead_ct x f
    have c2 := ahead_ct x t
    have w5 : IntKind.i64.wrap ((k : Int) + 1) = ((k + 1 : Nat) : Int) := by rw [i64_ok _ (by omega) (by omega)]; omega
    cases h1 : decide (lt x f)
    · rw [h1] at c1
      cases h2 : decide (lt x t)
      · rw [h2] at c2
        rw [if_neg (by simp [btwP, h1, h2]), List.append_nil] at FT
        refine AW.re ty (by kernel_rfl) (by first | exact cx_N _ _ _ | assumption) (by first | exact cx_pz _ _ _ | assumption) 220 (by decide) (fun K hK => ?_)
        (try simp only [List.toList_toArray, toList_lit]); repeat (with_reducible refine AR.step (fun K1 K2 hK1 hK2 => ?_); simp; (first | refine hK1.out _ _ ?_ | refine hK2.out _ ?_ | refine ⟨by kernel_rfl, hK2.out _ ?_⟩); clear hK1 hK2 K1 K2; simp); (try with_reducible refine AR.nil ?_)
        refine AR.step (fun K1 K2 hK1 hK2 => ?_)
        simp
        refine orr_l ⟨by kernel_rfl, .inl ⟨_, c1, ?_⟩⟩
        (try simp)
        refine hK1.out _ _ ?_
        clear hK1 hK2 K1 K2
        (try simp)
        (try simp only [List.toList_toArray, toList_lit]); repeat (with_reducible refine AR.step (fun K1 K2 hK1 hK2 => ?_); simp; (first | refine hK1.out _ _ ?_ | refine hK2.out _ ?_ | refine ⟨by kernel_rfl, hK2.out _ ?_⟩); clear hK1 hK2 K1 K2; simp); (try with_reducible refine AR.nil ?_)
        refine AR.step (fun K1 K2 hK1 hK2 => ?_)
        simp
        refine orr_l ⟨by kernel_rfl, .inl ⟨_, c2, ?_⟩⟩
        (try simp)
        refine hK1.out _ _ ?_
        clear hK1 hK2 K1 K2
        (try simp)
        (try simp only [List.toList_toArray, toList_lit]); repeat (with_reducible refine AR.step (fun K1 K2 hK1 hK2 => ?_); simp; (first | refine hK1.out _ _ ?_ | refine hK2.out _ ?_ | refine ⟨by kernel_rfl, hK2.out _ ?_⟩); clear hK1 hK2 K1 K2; simp); (try with_reducible refine AR.nil ?_)
        refine ⟨chk_text _ _, hK.out _ ?_⟩
        clear hK K
        with_reducible (repeat (first | refine AW.seq ?_ | refine AW.block ?_ | refine AW.skip ?_ | refine AW.exit ?_ | refine AW.ret ?_ | refine AW.label ?_ | refine NX.then ?_ | refine NX.ret ?_ | refine NX.exit ?_ | refine NX.inRet ?_ | refine NX.inNormal ?_ | refine NX.inExit ?_ | refine NX.outExit (by decide) ?_))
        refine AW.cf rfl ?_
        with_reducible (repeat (first | refine AW.seq ?_ | refine AW.block ?_ | refine AW.skip ?_ | refine AW.exit ?_ | refine AW.ret ?_ | refine AW.label ?_ | refine NX.then ?_ | refine NX.ret ?_ | refine NX.exit ?_ | refine NX.inRet ?_ | refine NX.inNormal ?_ | refine NX.inExit ?_ | refine NX.outExit (by decide) ?_))
        refine AW.re ty (by kernel_rfl) (by first | exact cx_N _ _ _ | assumption) (by first | exact cx_pz _ _ _ | assumption) 240 (by decide) (fun K hK => ?_)
        (try simp only [List.toList_toArray, toList_lit]); repeat (with_reducible refine AR.step (fun K1 K2 hK1 hK2 => ?_); simp [w5]; (first | refine hK1.out _ _ ?_ | refine hK2.out _ ?_ | refine ⟨by kernel_rfl, hK2.out _ ?_⟩); clear hK1 hK2 K1 K2; simp [w5]); (try with_reducible refine AR.nil ?_)
        refine ⟨chk_text _ _, hK.out _ ?_⟩
        clear hK K
        with_reducible (repeat (first | refine AW.seq ?_ | refine AW.block ?_ | refine AW.skip ?_ | refine AW.exit ?_ | refine AW.ret ?_ | refine AW.label ?_ | refine NX.then ?_ | refine NX.ret ?_ | refine NX.exit ?_ | refine NX.inRet ?_ | refine NX.inNormal ?_ | refine NX.inExit ?_ | refine NX.outExit (by decide) ?_))
        exact NX.round ⟨k + 1, hgo⟩ (by show l.length - (k + 1) < l.length - k; omega) (fun _ _ h => AS.fold (fold_of (V := vw [] [] [] []) (by first | exact cx_pz _ _ _ | assumption) (by kernel_rfl) (by rfl) (by simp [btwS, FT, foks_nil, foks_cons, fok_tmp, fok_vt, fok_cell, fok_nm, fok_zn, fok_hd, fok_df, Fv_c, Fv_seg, Fv_tup, Fv_agg, Fv_ptr, Fv_ptrs, Fv_fn, Fv_fnd, Fv_own, Fv_ownd, Fv_nown, Fv_vown, FvL_nil, FvL_cons, kvp_av, hdp_some, subz, frz, Uz, Nm, Uh, vw_nb, vw_zo, vw_zf, vw_hb, tb_nil, tb_cons, fzc_nil, fzc_cons, fzcaps_nil, fzcaps_cons])) h)
      · rw [h2] at c2
        rw [if_pos (by simp [btwP, h1, h2])] at FT
        refine AW.re ty (by kernel_rfl) (by first | exact cx_N _ _ _ | assumption) (by first | exact cx_pz _ _ _ | assumption) 220 (by decide) (fun K hK => ?_)
        (try simp only [List.toList_toArray, toList_lit]); repeat (with_reducible refine AR.step (fun K1 K2 hK1 hK2 => ?_); simp [w5]; (first | refine hK1.out _ _ ?_ | refine hK2.out _ ?_ | refine ⟨by kernel_rfl, hK2.out _ ?_⟩); clear hK1 hK2 K1 K2; simp [w5]); (try with_reducible refine AR.nil ?_)
        refine AR.step (fun K1 K2 hK1 hK2 => ?_)
        simp [w5]
        refine orr_l ⟨by kernel_rfl, .inl ⟨_, c1, ?_⟩⟩
        (try simp [w5])
        refine hK1.out _ _ ?_
        clear hK1 hK2 K1 K2
        (try simp [w5])
        (try simp only [List.toList_toArray, toList_lit]); repeat (with_reducible refine AR.step (fun K1 K2 hK1 hK2 => ?_); simp [w5]; (first | refine hK1.out _ _ ?_ | refine hK2.out _ ?_ | refine ⟨by kernel_rfl, hK2.out _ ?_⟩); clear hK1 hK2 K1 K2; simp [w5]); (try with_reducible refine AR.nil ?_)
        refine AR.step (fun K1 K2 hK1 hK2 => ?_)
        simp [w5]
        refine orr_l ⟨by kernel_rfl, .inl ⟨_, c2, ?_⟩⟩
        (try simp [w5])
        refine hK1.out _ _ ?_
        clear hK1 hK2 K1 K2
        (try simp [w5])
        (try simp only [List.toList_toArray, toList_lit]); repeat (with_reducible refine AR.step (fun K1 K2 hK1 hK2 => ?_); simp [w5]; (first | refine hK1.out _ _ ?_ | refine hK2.out _ ?_ | refine ⟨by kernel_rfl, hK2.out _ ?_⟩); clear hK1 hK2 K1 K2; simp [w5]); (try with_reducible refine AR.nil ?_)
        refine ⟨chk_text _ _, hK.out _ ?_⟩
        clear hK K
        with_reducible (repeat (first | refine AW.seq ?_ | refine AW.block ?_ | refine AW.skip ?_ | refine AW.exit ?_ | refine AW.ret ?_ | refine AW.label ?_ | refine NX.then ?_ | refine NX.ret ?_ | refine NX.exit ?_ | refine NX.inRet ?_ | refine NX.inNormal ?_ | refine NX.inExit ?_ | refine NX.outExit (by decide) ?_))
        refine AW.ct rfl ?_
        with_reducible (repeat (first | refine AW.seq ?_ | refine AW.block ?_ | refine AW.skip ?_ | refine AW.exit ?_ | refine AW.ret ?_ | refine AW.label ?_ | refine NX.then ?_ | refine NX.ret ?_ | refine NX.exit ?_ | refine NX.inRet ?_ | refine NX.inNormal ?_ | refine NX.inExit ?_ | refine NX.outExit (by decide) ?_))
        refine AW.re ty (by kernel_rfl) (by first | exact cx_N _ _ _ | assumption) (by first | exact cx_pz _ _ _ | assumption) 230 (by decide) (fun K hK => ?_)
        (try simp only [List.toList_toArray, toList_lit]); repeat (with_reducible refine AR.step (fun K1 K2 hK1 hK2 => ?_); simp [w5]; (first | refine hK1.out _ _ ?_ | refine hK2.out _ ?_ | refine ⟨by kernel_rfl, hK2.out _ ?_⟩); clear hK1 hK2 K1 K2; simp [w5]); (try with_reducible refine AR.nil ?_)
        refine AR.step (fun K1 K2 hK1 hK2 => ?_)
        simp [w5]
        refine ya_mk (by (simp [maxI]; omega)) ?_
        (try simp [w5])
        refine hK1.out _ _ ?_
        clear hK1 hK2 K1 K2
        (try simp [w5])
        (try simp only [List.toList_toArray, toList_lit]); repeat (with_reducible refine AR.step (fun K1 K2 hK1 hK2 => ?_); simp [w5]; (first | refine hK1.out _ _ ?_ | refine hK2.out _ ?_ | refine ⟨by kernel_rfl, hK2.out _ ?_⟩); clear hK1 hK2 K1 K2; simp [w5]); (try with_reducible refine AR.nil ?_)
        refine ⟨chk_text _ _, hK.out _ ?_⟩
        clear hK K
        with_reducible (repeat (first | refine AW.seq ?_ | refine AW.block ?_ | refine AW.skip ?_ | refine AW.exit ?_ | refine AW.ret ?_ | refine AW.label ?_ | refine NX.then ?_ | refine NX.ret ?_ | refine NX.exit ?_ | refine NX.inRet ?_ | refine NX.inNormal ?_ | refine NX.inExit ?_ | refine NX.outExit (by decide) ?_))
        refine AW.re ty (by kernel_rfl) (by first | exact cx_N _ _ _ | assumption) (by first | exact cx_pz _ _ _ | assumption) 240 (by decide) (fun K hK => ?_)
        (try simp only [List.toList_toArray, toList_lit]); repeat (with_reducible refine AR.step (fun K1 K2 hK1 hK2 => ?_); simp [w5]; (first | refine hK1.out _ _ ?_ | refine hK2.out _ ?_ | refine ⟨by kernel_rfl, hK2.out _ ?_⟩); clear hK1 hK2 K1 K2; simp [w5]); (try with_reducible refine AR.nil ?_)
        refine ⟨chk_text _ _, hK.out _ ?_⟩
        clear hK K
        with_reducible (repeat (first | refine AW.seq ?_ | refine AW.block ?_ | refine AW.skip ?_ | refine AW.exit ?_ | refine AW.ret ?_ | refine AW.label ?_ | refine NX.then ?_ | refine NX.ret ?_ | refine NX.exit ?_ | refine NX.inRet ?_ | refine NX.inNormal ?_ | refine NX.inExit ?_ | refine NX.outExit (by decide) ?_))
        exact NX.round ⟨k + 1, hgo⟩ (by show l.length - (k + 1) < l.length - k; omega) (fun _ _ h => AS.fold (fold_of (V := vw [] [(900, [233])] [] [(900, some 233)]) (by first | exact cx_pz _ _ _ | assumption) (by kernel_rfl) (by rfl) (by simp [btwS, FT, foks_nil, foks_cons, fok_tmp, fok_vt, fok_cell, fok_nm, fok_zn, fok_hd, fok_df, Fv_c, Fv_seg, Fv_tup, Fv_agg, Fv_ptr, Fv_ptrs, Fv_fn, Fv_fnd, Fv_own, Fv_ownd, Fv_nown, Fv_vown, FvL_nil, FvL_cons, kvp_av, hdp_some, subz, frz, Uz, Nm, Uh, vw_nb, vw_zo, vw_zf, vw_hb, tb_nil, tb_cons, fzc_nil, fzc_cons, fzcaps_nil, fzcaps_cons])) h)
    · rw [h1] at c1
      rw [if_neg (by simp [btwP, h1]), List.append_nil] at FT
      refine AW.re ty (by kernel_rfl) (by first | exact cx_N _ _ _ | assumption) (by first | exact cx_pz _ _ _ | assumption) 220 (by decide) (fun K hK => ?_)
      (try simp only [List.toList_toArray, toList_lit]); repeat (with_reducible refine AR.step (fun K1 K2 hK1 hK2 => ?_); simp [w5]; (first | refine hK1.out _ _ ?_ | refine hK2.out _ ?_ | refine ⟨by kernel_rfl, hK2.out _ ?_⟩); clear hK1 hK2 K1 K2; simp [w5]); (try with_reducible refine AR.nil ?_)
      refine AR.step (fun K1 K2 hK1 hK2 => ?_)
      simp [w5]
      refine orr_l ⟨by kernel_rfl, .inl ⟨_, c1, ?_⟩⟩
      (try simp [w5])
      refine hK1.out _ _ ?_
      clear hK1 hK2 K1 K2
      (try simp [w5])
      (try simp only [List.toList_toArray, toList_lit]); repeat (with_reducible refine AR.step (fun K1 K2 hK1 hK2 => ?_); simp [w5]; (first | refine hK1.out _ _ ?_ | refine hK2.out _ ?_ | refine ⟨by kernel_rfl, hK2.out _ ?_⟩); clear hK1 hK2 K1 K2; simp [w5]); (try with_reducible refine AR.nil ?_)
      refine ⟨chk_text _ _, hK.out _ ?_⟩
      clear hK K
      with_reducible (repeat (first | refine AW.seq ?_ | refine AW.block ?_ | refine AW.skip ?_ | refine AW.exit ?_ | refine AW.ret ?_ | refine AW.label ?_ | refine NX.then ?_ | refine NX.ret ?_ | refine NX.exit ?_ | refine NX.inRet ?_ | refine NX.inNormal ?_ | refine NX.inExit ?_ | refine NX.outExit (by decide) ?_))
      refine AW.cf rfl ?_
      with_reducible (repeat (first | refine AW.seq ?_ | refine AW.block ?_ | refine AW.skip ?_ | refine AW.exit ?_ | refine AW.ret ?_ | refine AW.label ?_ | refine NX.then ?_ | refine NX.ret ?_ | refine NX.exit ?_ | refine NX.inRet ?_ | refine NX.inNormal ?_ | refine NX.inExit ?_ | refine NX.outExit (by decide) ?_))
      refine AW.re ty (by kernel_rfl) (by first | exact cx_N _ _ _ | assumption) (by first | exact cx_pz _ _ _ | assumption) 240 (by decide) (fun K hK => ?_)
      (try simp only [List.toList_toArray, toList_lit]); repeat (with_reducible refine AR.step (fun K1 K2 hK1 hK2 => ?_); simp [w5]; (first | refine hK1.out _ _ ?_ | refine hK2.out _ ?_ | refine ⟨by kernel_rfl, hK2.out _ ?_⟩); clear hK1 hK2 K1 K2; simp [w5]); (try with_reducible refine AR.nil ?_)
      refine ⟨chk_text _ _, hK.out _ ?_⟩
      clear hK K
      with_reducible (repeat (first | refine AW.seq ?_ | refine AW.block ?_ | refine AW.skip ?_ | refine AW.exit ?_ | refine AW.ret ?_ | refine AW.label ?_ | refine NX.then ?_ | refine NX.ret ?_ | refine NX.exit ?_ | refine NX.inRet ?_ | refine NX.inNormal ?_ | refine NX.inExit ?_ | refine NX.outExit (by decide) ?_))
      exact NX.round ⟨k + 1, hgo⟩ (by show l.length - (k + 1) < l.length - k; omega) (fun _ _ h => AS.fold (fold_of (V := vw [] [] [] []) (by first | exact cx_pz _ _ _ | assumption) (by kernel_rfl) (by rfl) (by simp [btwS, FT, foks_nil, foks_cons, fok_tmp, fok_vt, fok_cell, fok_nm, fok_zn, fok_hd, fok_df, Fv_c, Fv_seg, Fv_tup, Fv_agg, Fv_ptr, Fv_ptrs, Fv_fn, Fv_fnd, Fv_own, Fv_ownd, Fv_nown, Fv_vown, FvL_nil, FvL_cons, kvp_av, hdp_some, subz, frz, Uz, Nm, Uh, vw_nb, vw_zo, vw_zf, vw_hb, tb_nil, tb_cons, fzc_nil, fzc_cons, fzcaps_nil, fzcaps_cons])) h)
  · skip
    refine AW.re ty (by kernel_rfl) (by first | exact cx_N _ _ _ | assumption) (by first | exact cx_pz _ _ _ | assumption) 200 (by decide) (fun K hK => ?_)
    (try simp only [List.toList_toArray, toList_lit]); repeat (with_reducible refine AR.step (fun K1 K2 hK1 hK2 => ?_); simp [hgo]; (first | refine hK1.out _ _ ?_ | refine hK2.out _ ?_ | refine ⟨by kernel_rfl, hK2.out _ ?_⟩); clear hK1 hK2 K1 K2; simp [hgo]); (try with_reducible refine AR.nil ?_)
    refine ⟨chk_text _ _, hK.out _ ?_⟩
    clear hK K
    with_reducible (repeat (first | refine AW.seq ?_ | refine AW.block ?_ | refine AW.skip ?_ | refine AW.exit ?_ | refine AW.ret ?_ | refine AW.label ?_ | refine NX.then ?_ | refine NX.ret ?_ | refine NX.exit ?_ | refine NX.inRet ?_ | refine NX.inNormal ?_ | refine NX.inExit ?_ | refine NX.outExit (by decide) ?_))
    refine AW.cf rfl ?_
    with_reducible (repeat (first | refine AW.seq ?_ | refine AW.block ?_ | refine AW.skip ?_ | refine AW.exit ?_ | refine AW.ret ?_ | refine AW.label ?_ | refine NX.then ?_ | refine NX.ret ?_ | refine NX.exit ?_ | refine NX.inRet ?_ | refine NX.inNormal ?_ | refine NX.inExit ?_ | refine NX.outExit (by decide) ?_))
    rw [List.take_of_length_le (by omega)]
    refine AW.re ty (by kernel_rfl) (by first | exact cx_N _ _ _ | assumption) (by first | exact cx_pz _ _ _ | assumption) 210 (by decide) (fun K hK => ?_)
    (try simp only [List.toList_toArray, toList_lit]); repeat (with_reducible refine AR.step (fun K1 K2 hK1 hK2 => ?_); simp; (first | refine hK1.out _ _ ?_ | refine hK2.out _ ?_ | refine ⟨by kernel_rfl, hK2.out _ ?_⟩); clear hK1 hK2 K1 K2; simp); (try with_reducible refine AR.nil ?_)
    refine ⟨chk_text _ _, hK.out _ ?_⟩
    clear hK K
    with_reducible (repeat (first | refine AW.seq ?_ | refine AW.block ?_ | refine AW.skip ?_ | refine AW.exit ?_ | refine AW.ret ?_ | refine AW.label ?_ | refine NX.then ?_ | refine NX.ret ?_ | refine NX.exit ?_ | refine NX.inRet ?_ | refine NX.inNormal ?_ | refine NX.inExit ?_ | refine NX.outExit (by decide) ?_))
    exact nx_reto (t := 6) (n := 900) (y := 900) (zs := []) (rr := [(.zn 900, .zn .live)]) (.inr rfl) rfl (by kernel_rfl) (by kernel_rfl) (by kernel_rfl) (by simp) rfl
end Go.Proofs.Ytlkdkhmdmgchbaa
namespace Go.Proofs.Ytlkdkhmdmgchbaa
set_option linter.unusedSimpArgs false
set_option linter.unusedVariables false
open Go.RowKit
attribute [local simp ↓] arun_nil ob_some kva_av kfree_free khfree_free khown_own klive_live knm_false chk_true ya_true gsel_tt gsel_ff gsel_tf gsel_ft vb_bool vi_int vstr_string avps_ptr avps_seg avp_ptr avagg_agg avtup_tup avb_bool avown_own shs_struct shsa_struct shsa_arr sharr_arr shl_slice shla_slice shla_arr shls_slice shls_str shi_int bc_true bc_false hd1_cons opc_some opc_none opn_some opn_none unc_not unc_neg gd_none gd_some as_move as_assign as_pick as_bin as_un as_conv as_load as_faddr as_field as_extract as_iaddr as_slice as_alloc as_box as_store as_build as_rows as_call as_append as_lookup as_mapUpdate as_makeMap as_range as_next as_entry as_index as_fn as_len as_min as_max stMove stPick stBin stUn stConv stLoad stFaddr stField stExtract stIaddr stSlice stAlloc stBox stStore stBuild stIndex stRows stCall stAppend stFn stLen stMin stMax opd_tmp opd_const opd_func rawL_nil rawL_cons raw_c raw_st raw_a opr_e zr_nil zr_cons lvd_live hod_own obd_some obd_none kvd_av chd_true vid_int lk_cons lk_nil ins_nil ins_cons cells_zero cells_succ spread1_c spread1_own spread1_ptr spread1_fn spread1_seg spreadL_nil spreadL_cons spread_agg spread_c spread_own spread_seg spread_ptr spread_fn ex_zero ex_succ ops_e opb_none opb_int spreadD_agg spreadD_c spreadD_own spreadD_seg fillO_nil fillO_cons argsOf_nil argsOf_cons dvOf_c dvOf_seg dvOf_own dvOf_agg zrL_nil zrL_cons hdd_c hdd_seg hdd_own clz_e clv_raw clv_f callD_e dst0_n dst0_nil dst0_own goneH_e capc_ptr capc_seg capc_c capN_nil capN_cons capD_nil capD_cons deadZ_nil deadZ_cons
attribute [local simp] dok_some dok_none dflt_tmp dflt_vt dflt_cell dflt_zn dflt_nm dflt_hd dflt_df puts_nil puts_cons wr_some wr_none cst_agg cst_int cst_bool cst_string cst_slice cst_tuple cst_nilFunc cst_pointer cst_func bin_add bin_sub bin_mul bin_quo bin_rem bin_eql bin_neq bin_lss bin_leq bin_gtr bin_geq bin_bool bin_aggs binT_bool binT_aggs shbd_bool eqb_eql eqb_neq bin_slice bin_str_eql bin_str_neq bin_str_lss bin_str_add nz_v nz_n nz_s nz_p nz_f nz_st atz_v atz_n atz_s atz_p atz_f atz_st atz_agg atR_one atR_tup crow_nil crow_cons slc_c slc_n slc_own slc_nil raws setR placesT_nil placesT_cons zc chunk zsAll ocD_v ocD_n ocD_s ocD_p ocD_f ocD_st nrm_v nrm_n nrm_s nrm_p nrm_f nrm_st isV_one isV_tup isV_c isV_agg isV_v isV_n isV_s isV_p isV_f isV_st argRows Sh.agg zds_nil zds_e zds_v zds_s vcells_agg vcells_int vcells_bool vcells_string vcells_slice vcells_pointer toList_lit map_nilL map_consL nzr_e rowsOc_nil rowsOc_cons rowsOc_RD nzr_RD ty2 ty3 ty4 ty5 ty6 ty7 ty8 ty9 ty10 ty11 ty12 ty13 ty14 ty15 ty16 ty17 ty18 ty19 ty20 ty21 ty22 ty23 ty24 ty25 ty26 ty27 ty30 ty40 ty48 ty50 ty51 ty52 ty55 ty57 ty62 ty63 ty85 ty94 ty101 ty121 ty122 ty123 ty124 ty125 ty126 ty128 ty148 ty149 ty151 ty164 ty165 ty179 ty182 ty196 ty203 ty205 ty209 ty211 ty215 ty216 ty217 ty218 ty219 ty220 ty221 ty223 ty224 ty225 ty226 ty227 Value.oneCell'
set_option maxRecDepth 100000
def turnP (p : Pr) : Pr := (p.2, p.1)
set_option maxHeartbeats 4000000 in
theorem turn1_ct (p : Pr) : Ct Try.prog 121 [PV p] none (.one (PV (turnP p))) := by
  refine ct_intro Try.func121 rfl Try.ntmps121 (by simp) (fun W0 Z => ?_)
  with_reducible (repeat (first | refine AW.seq ?_ | refine AW.block ?_ | refine AW.skip ?_ | refine AW.exit ?_ | refine AW.ret ?_ | refine AW.label ?_ | refine NX.then ?_ | refine NX.ret ?_ | refine NX.exit ?_ | refine NX.inRet ?_ | refine NX.inNormal ?_ | refine NX.inExit ?_ | refine NX.outExit (by decide) ?_))
  refine AW.at_ (fun L hL => ?_)
  simp at hL
  subst hL
  refine AW.re ty (by kernel_rfl) (by first | exact cx_N _ _ _ | assumption) (by first | exact cx_pz _ _ _ | assumption) 1 (by decide) (fun K hK => ?_)
  (try simp only [List.toList_toArray, toList_lit]); repeat (with_reducible refine AR.step (fun K1 K2 hK1 hK2 => ?_); simp; (first | refine hK1.out _ _ ?_ | refine hK2.out _ ?_ | refine ⟨by kernel_rfl, hK2.out _ ?_⟩); clear hK1 hK2 K1 K2; simp); (try with_reducible refine AR.nil ?_)
  refine ⟨chk_text _ _, hK.out _ ?_⟩
  clear hK K
  with_reducible (repeat (first | refine AW.seq ?_ | refine AW.block ?_ | refine AW.skip ?_ | refine AW.exit ?_ | refine AW.ret ?_ | refine AW.label ?_ | refine NX.then ?_ | refine NX.ret ?_ | refine NX.exit ?_ | refine NX.inRet ?_ | refine NX.inNormal ?_ | refine NX.inExit ?_ | refine NX.outExit (by decide) ?_))
  refine AW.re ty (by kernel_rfl) (by first | exact cx_N _ _ _ | assumption) (by first | exact cx_pz _ _ _ | assumption) 10 (by decide) (fun K hK => ?_)
  (try simp only [List.toList_toArray, toList_lit]); repeat (with_reducible refine AR.step (fun K1 K2 hK1 hK2 => ?_); simp; (first | refine hK1.out _ _ ?_ | refine hK2.out _ ?_ | refine ⟨by kernel_rfl, hK2.out _ ?_⟩); clear hK1 hK2 K1 K2; simp); (try with_reducible refine AR.nil ?_)
  refine ⟨chk_text _ _, hK.out _ ?_⟩
  clear hK K
  with_reducible (repeat (first | refine AW.seq ?_ | refine AW.block ?_ | refine AW.skip ?_ | refine AW.exit ?_ | refine AW.ret ?_ | refine AW.label ?_ | refine NX.then ?_ | refine NX.ret ?_ | refine NX.exit ?_ | refine NX.inRet ?_ | refine NX.inNormal ?_ | refine NX.inExit ?_ | refine NX.outExit (by decide) ?_))
  exact nx_ret (T := ty) (rs := [.cell 2 52]) (zs := []) (ds := [PV (turnP p)]) (rr := []) (.inr rfl) rfl (by kernel_rfl) (by kernel_rfl) (by simp) rfl
def mapR {α β : Type} (f : α → β) (l : List α) (k : Nat) : List β := (l.take k).map f
theorem mapR_0 {α β : Type} (f : α → β) (l : List α) : mapR f l 0 = [] := rfl
theorem mapR_s {α β : Type} (f : α → β) (l : List α) {k : Nat} (h : k < l.length) : mapR f l (k + 1) = mapR f l k ++ [f l[k]] := by
  unfold mapR
  rw [List.take_succ_eq_append_getElem h, List.map_append]
  rfl
theorem mapR_all {α β : Type} (f : α → β) (l : List α) : mapR f l l.length = l.map f := by unfold mapR; rw [List.take_length]
theorem mapR_len {α β : Type} (f : α → β) (l : List α) (k : Nat) : (mapR f l k).length ≤ l.length := by unfold mapR; simp; omega
def gaS (l : List Pr) (k : Nat) : Row := [(.zn 0, .zn .live), (.zn 900, .zn .live), (.hd 900, .hd (.own 52 2 900 [] (mapR (fun p => PD (turnP p)) l k))),
  (.tmp 1, .av (.c [] (.v (.func (.func 121) #[] #[])))), (.tmp 5, .av (.own 900)), (.tmp 8, .av (.c [0] (RD l))), (.tmp 9, .av (.c [] (.v (.int .i64 l.length)))), (.tmp 10, .av (.c [] (.v (.int .i64 k))))]
set_option maxHeartbeats 4000000 in
theorem gathered_ct (l : List Pr) (hn : l.length ≤ 1000000) : Ct Try.prog 120 [.c (RD l), .c (.v (.func (.func 121) #[] #[]))] (some 52) (.one (.c (RD (l.map turnP)))) := by
  refine ct_intro Try.func120 rfl Try.ntmps120 (by simp) (fun W0 Z => ?_)
  with_reducible (repeat (first | refine AW.seq ?_ | refine AW.block ?_ | refine AW.skip ?_ | refine AW.exit ?_ | refine AW.ret ?_ | refine AW.label ?_ | refine NX.then ?_ | refine NX.ret ?_ | refine NX.exit ?_ | refine NX.inRet ?_ | refine NX.inNormal ?_ | refine NX.inExit ?_ | refine NX.outExit (by decide) ?_))
  refine AW.at_ (fun L hL => ?_)
  simp at hL
  subst hL
  refine AW.re ty (by kernel_rfl) (by first | exact cx_N _ _ _ | assumption) (by first | exact cx_pz _ _ _ | assumption) 1 (by decide) (fun K hK => ?_)
  (try simp only [List.toList_toArray, toList_lit]); repeat (with_reducible refine AR.step (fun K1 K2 hK1 hK2 => ?_); simp; (first | refine hK1.out _ _ ?_ | refine hK2.out _ ?_ | refine ⟨by kernel_rfl, hK2.out _ ?_⟩); clear hK1 hK2 K1 K2; simp); (try with_reducible refine AR.nil ?_)
  refine ⟨chk_text _ _, hK.out _ ?_⟩
  clear hK K
  with_reducible (repeat (first | refine AW.seq ?_ | refine AW.block ?_ | refine AW.skip ?_ | refine AW.exit ?_ | refine AW.ret ?_ | refine AW.label ?_ | refine NX.then ?_ | refine NX.ret ?_ | refine NX.exit ?_ | refine NX.inRet ?_ | refine NX.inNormal ?_ | refine NX.inExit ?_ | refine NX.outExit (by decide) ?_))
  refine AW.re ty (by kernel_rfl) (by first | exact cx_N _ _ _ | assumption) (by first | exact cx_pz _ _ _ | assumption) 10 (by decide) (fun K hK => ?_)
  (try simp only [List.toList_toArray, toList_lit]); repeat (with_reducible refine AR.step (fun K1 K2 hK1 hK2 => ?_); simp; (first | refine hK1.out _ _ ?_ | refine hK2.out _ ?_ | refine ⟨by kernel_rfl, hK2.out _ ?_⟩); clear hK1 hK2 K1 K2; simp); (try with_reducible refine AR.nil ?_)
  refine ⟨chk_text _ _, hK.out _ ?_⟩
  clear hK K
  with_reducible (repeat (first | refine AW.seq ?_ | refine AW.block ?_ | refine AW.skip ?_ | refine AW.exit ?_ | refine AW.ret ?_ | refine AW.label ?_ | refine NX.then ?_ | refine NX.ret ?_ | refine NX.exit ?_ | refine NX.inRet ?_ | refine NX.inNormal ?_ | refine NX.inExit ?_ | refine NX.outExit (by decide) ?_))
  refine AW.re ty (by kernel_rfl) (by first | exact cx_N _ _ _ | assumption) (by first | exact cx_pz _ _ _ | assumption) 20 (by decide) (fun K hK => ?_)
  (try simp only [List.toList_toArray, toList_lit]); repeat (with_reducible refine AR.step (fun K1 K2 hK1 hK2 => ?_); simp; (first | refine hK1.out _ _ ?_ | refine hK2.out _ ?_ | refine ⟨by kernel_rfl, hK2.out _ ?_⟩); clear hK1 hK2 K1 K2; simp); (try with_reducible refine AR.nil ?_)
  refine ⟨chk_text _ _, hK.out _ ?_⟩
  clear hK K
  with_reducible (repeat (first | refine AW.seq ?_ | refine AW.block ?_ | refine AW.skip ?_ | refine AW.exit ?_ | refine AW.ret ?_ | refine AW.label ?_ | refine NX.then ?_ | refine NX.ret ?_ | refine NX.exit ?_ | refine NX.inRet ?_ | refine NX.inNormal ?_ | refine NX.inExit ?_ | refine NX.outExit (by decide) ?_))
  refine AW.loop (X := { k : Nat // k ≤ l.length }) (fun x => gaS l x.1) (fun x => l.length - x.1) ⟨0, by simp⟩ (fun _ _ h => AS.fold (fold_of (V := vw [] [(900, [])] [] [(900, none)]) (by first | exact cx_pz _ _ _ | assumption) (by kernel_rfl) (by rfl) (by simp [gaS, mapR_0, foks_nil, foks_cons, fok_tmp, fok_vt, fok_cell, fok_nm, fok_zn, fok_hd, fok_df, Fv_c, Fv_seg, Fv_tup, Fv_agg, Fv_ptr, Fv_ptrs, Fv_fn, Fv_fnd, Fv_own, Fv_ownd, Fv_nown, Fv_vown, FvL_nil, FvL_cons, kvp_av, hdp_some, subz, frz, Uz, Nm, Uh, vw_nb, vw_zo, vw_zf, vw_hb, tb_nil, tb_cons, fzc_nil, fzc_cons, fzcaps_nil, fzcaps_cons])) h) (fun x => ?_)
  obtain ⟨k, hk⟩ := x
  refine AW.at_ (fun L hL => ?_)
  simp [gaS] at hL
  subst hL
  with_reducible (repeat (first | refine AW.seq ?_ | refine AW.block ?_ | refine AW.skip ?_ | refine AW.exit ?_ | refine AW.ret ?_ | refine AW.label ?_ | refine NX.then ?_ | refine NX.ret ?_ | refine NX.exit ?_ | refine NX.inRet ?_ | refine NX.inNormal ?_ | refine NX.inExit ?_ | refine NX.outExit (by decide) ?_))
  by_cases hgo : k < l.length
  · skip
    refine AW.re ty (by kernel_rfl) (by first | exact cx_N _ _ _ | assumption) (by first | exact cx_pz _ _ _ | assumption) 200 (by decide) (fun K hK => ?_)
    (try simp only [List.toList_toArray, toList_lit]); repeat (with_reducible refine AR.step (fun K1 K2 hK1 hK2 => ?_); simp [hgo]; (first | refine hK1.out _ _ ?_ | refine hK2.out _ ?_ | refine ⟨by kernel_rfl, hK2.out _ ?_⟩); clear hK1 hK2 K1 K2; simp [hgo]); (try with_reducible refine AR.nil ?_)
    refine ⟨chk_text _ _, hK.out _ ?_⟩
    clear hK K
    with_reducible (repeat (first | refine AW.seq ?_ | refine AW.block ?_ | refine AW.skip ?_ | refine AW.exit ?_ | refine AW.ret ?_ | refine AW.label ?_ | refine NX.then ?_ | refine NX.ret ?_ | refine NX.exit ?_ | refine NX.inRet ?_ | refine NX.inNormal ?_ | refine NX.inExit ?_ | refine NX.outExit (by decide) ?_))
    refine AW.ct rfl ?_
    with_reducible (repeat (first | refine AW.seq ?_ | refine AW.block ?_ | refine AW.skip ?_ | refine AW.exit ?_ | refine AW.ret ?_ | refine AW.label ?_ | refine NX.then ?_ | refine NX.ret ?_ | refine NX.exit ?_ | refine NX.inRet ?_ | refine NX.inNormal ?_ | refine NX.inExit ?_ | refine NX.outExit (by decide) ?_))
    obtain ⟨x, hx⟩ : ∃ x, l[k] = x := ⟨_, rfl⟩
    have FT := mapR_s (fun p => PD (turnP p)) l hgo
    rw [hx] at FT
    have FL := mapR_len (fun p => PD (turnP p)) l k
    generalize mapR (fun p => PD (turnP p)) l k = R at *
    refine AW.re ty (by kernel_rfl) (by first | exact cx_N _ _ _ | assumption) (by first | exact cx_pz _ _ _ | assumption) 210 (by decide) (fun K hK => ?_)
    (try simp only [List.toList_toArray, toList_lit]); repeat (with_reducible refine AR.step (fun K1 K2 hK1 hK2 => ?_); simp; (first | refine hK1.out _ _ ?_ | refine hK2.out _ ?_ | refine ⟨by kernel_rfl, hK2.out _ ?_⟩); clear hK1 hK2 K1 K2; simp); (try with_reducible refine AR.nil ?_)
    refine AR.step (fun K1 K2 hK1 hK2 => ?_)
    simp
    refine ⟨k, PD x, rfl, by simp [hgo, hx], ?_⟩
    refine hK1.out _ _ ?_
    clear hK1 hK2 K1 K2
    (try simp)
    (try simp only [List.toList_toArray, toList_lit]); repeat (with_reducible refine AR.step (fun K1 K2 hK1 hK2 => ?_); simp; (first | refine hK1.out _ _ ?_ | refine hK2.out _ ?_ | refine ⟨by kernel_rfl, hK2.out _ ?_⟩); clear hK1 hK2 K1 K2; simp); (try with_reducible refine AR.nil ?_)
    refine ⟨chk_text _ _, hK.out _ ?_⟩
    clear hK K
    with_reducible (repeat (first | refine AW.seq ?_ | refine AW.block ?_ | refine AW.skip ?_ | refine AW.exit ?_ | refine AW.ret ?_ | refine AW.label ?_ | refine NX.then ?_ | refine NX.ret ?_ | refine NX.exit ?_ | refine NX.inRet ?_ | refine NX.inNormal ?_ | refine NX.inExit ?_ | refine NX.outExit (by decide) ?_))
    have c1 := turn1_ct x
    have w5 : IntKind.i64.wrap ((k : Int) + 1) = ((k + 1 : Nat) : Int) := by rw [i64_ok _ (by omega) (by omega)]; omega
    refine AW.re ty (by kernel_rfl) (by first | exact cx_N _ _ _ | assumption) (by first | exact cx_pz _ _ _ | assumption) 220 (by decide) (fun K hK => ?_)
    (try simp only [List.toList_toArray, toList_lit]); repeat (with_reducible refine AR.step (fun K1 K2 hK1 hK2 => ?_); simp; (first | refine hK1.out _ _ ?_ | refine hK2.out _ ?_ | refine ⟨by kernel_rfl, hK2.out _ ?_⟩); clear hK1 hK2 K1 K2; simp); (try with_reducible refine AR.nil ?_)
    refine AR.step (fun K1 K2 hK1 hK2 => ?_)
    simp
    refine orr_l ⟨by kernel_rfl, .inl ⟨_, c1, ?_⟩⟩
    (try simp)
    refine hK1.out _ _ ?_
    clear hK1 hK2 K1 K2
    (try simp)
    (try simp only [List.toList_toArray, toList_lit]); repeat (with_reducible refine AR.step (fun K1 K2 hK1 hK2 => ?_); simp; (first | refine hK1.out _ _ ?_ | refine hK2.out _ ?_ | refine ⟨by kernel_rfl, hK2.out _ ?_⟩); clear hK1 hK2 K1 K2; simp); (try with_reducible refine AR.nil ?_)
    refine AR.step (fun K1 K2 hK1 hK2 => ?_)
    simp
    refine ya_mk (by (simp [maxI]; omega)) ?_
    (try simp)
    refine hK1.out _ _ ?_
    clear hK1 hK2 K1 K2
    (try simp)
    (try simp only [List.toList_toArray, toList_lit]); repeat (with_reducible refine AR.step (fun K1 K2 hK1 hK2 => ?_); simp; (first | refine hK1.out _ _ ?_ | refine hK2.out _ ?_ | refine ⟨by kernel_rfl, hK2.out _ ?_⟩); clear hK1 hK2 K1 K2; simp); (try with_reducible refine AR.nil ?_)
    refine ⟨chk_text _ _, hK.out _ ?_⟩
    clear hK K
    with_reducible (repeat (first | refine AW.seq ?_ | refine AW.block ?_ | refine AW.skip ?_ | refine AW.exit ?_ | refine AW.ret ?_ | refine AW.label ?_ | refine NX.then ?_ | refine NX.ret ?_ | refine NX.exit ?_ | refine NX.inRet ?_ | refine NX.inNormal ?_ | refine NX.inExit ?_ | refine NX.outExit (by decide) ?_))
    refine AW.re ty (by kernel_rfl) (by first | exact cx_N _ _ _ | assumption) (by first | exact cx_pz _ _ _ | assumption) 240 (by decide) (fun K hK => ?_)
    (try simp only [List.toList_toArray, toList_lit]); repeat (with_reducible refine AR.step (fun K1 K2 hK1 hK2 => ?_); simp [w5]; (first | refine hK1.out _ _ ?_ | refine hK2.out _ ?_ | refine ⟨by kernel_rfl, hK2.out _ ?_⟩); clear hK1 hK2 K1 K2; simp [w5]); (try with_reducible refine AR.nil ?_)
    refine ⟨chk_text _ _, hK.out _ ?_⟩
    clear hK K
    with_reducible (repeat (first | refine AW.seq ?_ | refine AW.block ?_ | refine AW.skip ?_ | refine AW.exit ?_ | refine AW.ret ?_ | refine AW.label ?_ | refine NX.then ?_ | refine NX.ret ?_ | refine NX.exit ?_ | refine NX.inRet ?_ | refine NX.inNormal ?_ | refine NX.inExit ?_ | refine NX.outExit (by decide) ?_))
    exact NX.round ⟨k + 1, hgo⟩ (by show l.length - (k + 1) < l.length - k; omega) (fun _ _ h => AS.fold (fold_of (V := vw [] [(900, [225])] [] [(900, some 225)]) (by first | exact cx_pz _ _ _ | assumption) (by kernel_rfl) (by rfl) (by simp [gaS, FT, foks_nil, foks_cons, fok_tmp, fok_vt, fok_cell, fok_nm, fok_zn, fok_hd, fok_df, Fv_c, Fv_seg, Fv_tup, Fv_agg, Fv_ptr, Fv_ptrs, Fv_fn, Fv_fnd, Fv_own, Fv_ownd, Fv_nown, Fv_vown, FvL_nil, FvL_cons, kvp_av, hdp_some, subz, frz, Uz, Nm, Uh, vw_nb, vw_zo, vw_zf, vw_hb, tb_nil, tb_cons, fzc_nil, fzc_cons, fzcaps_nil, fzcaps_cons])) h)
  · obtain rfl : k = l.length := by omega
    rw [mapR_all]
    have e2 : l.map (fun p => PD (turnP p)) = (l.map turnP).map PD := by simp
    rw [e2]
    generalize l.map turnP = m
    refine AW.re ty (by kernel_rfl) (by first | exact cx_N _ _ _ | assumption) (by first | exact cx_pz _ _ _ | assumption) 300 (by decide) (fun K hK => ?_)
    (try simp only [List.toList_toArray, toList_lit]); repeat (with_reducible refine AR.step (fun K1 K2 hK1 hK2 => ?_); simp; (first | refine hK1.out _ _ ?_ | refine hK2.out _ ?_ | refine ⟨by kernel_rfl, hK2.out _ ?_⟩); clear hK1 hK2 K1 K2; simp); (try with_reducible refine AR.nil ?_)
    refine ⟨chk_text _ _, hK.out _ ?_⟩
    clear hK K
    with_reducible (repeat (first | refine AW.seq ?_ | refine AW.block ?_ | refine AW.skip ?_ | refine AW.exit ?_ | refine AW.ret ?_ | refine AW.label ?_ | refine NX.then ?_ | refine NX.ret ?_ | refine NX.exit ?_ | refine NX.inRet ?_ | refine NX.inNormal ?_ | refine NX.inExit ?_ | refine NX.outExit (by decide) ?_))
    refine AW.cf rfl ?_
    with_reducible (repeat (first | refine AW.seq ?_ | refine AW.block ?_ | refine AW.skip ?_ | refine AW.exit ?_ | refine AW.ret ?_ | refine AW.label ?_ | refine NX.then ?_ | refine NX.ret ?_ | refine NX.exit ?_ | refine NX.inRet ?_ | refine NX.inNormal ?_ | refine NX.inExit ?_ | refine NX.outExit (by decide) ?_))
    refine AW.re ty (by kernel_rfl) (by first | exact cx_N _ _ _ | assumption) (by first | exact cx_pz _ _ _ | assumption) 310 (by decide) (fun K hK => ?_)
    (try simp only [List.toList_toArray, toList_lit]); repeat (with_reducible refine AR.step (fun K1 K2 hK1 hK2 => ?_); simp; (first | refine hK1.out _ _ ?_ | refine hK2.out _ ?_ | refine ⟨by kernel_rfl, hK2.out _ ?_⟩); clear hK1 hK2 K1 K2; simp); (try with_reducible refine AR.nil ?_)
    refine ⟨chk_text _ _, hK.out _ ?_⟩
    clear hK K
    with_reducible (repeat (first | refine AW.seq ?_ | refine AW.block ?_ | refine AW.skip ?_ | refine AW.exit ?_ | refine AW.ret ?_ | refine AW.label ?_ | refine NX.then ?_ | refine NX.ret ?_ | refine NX.exit ?_ | refine NX.inRet ?_ | refine NX.inNormal ?_ | refine NX.inExit ?_ | refine NX.outExit (by decide) ?_))
    exact nx_reto (t := 4) (n := 900) (y := 900) (zs := []) (rr := [(.zn 900, .zn .live)]) (.inr rfl) rfl (by kernel_rfl) (by kernel_rfl) (by kernel_rfl) (by simp) rfl
set_option maxHeartbeats 4000000 in
theorem turn_ct (l : List Pr) (hn : l.length ≤ 1000000) (hr : rightL l = true) : Ct Try.prog 64 [.c (RD l)] none (.tup [.c (RD (ofL (l.map turnP))), dI 0]) := by
  have c1 := check_ct l
  rw [hr] at c1
  have c2 := gathered_ct l hn
  have c3 := of2_ct (l.map turnP) (by simpa using hn)
  generalize l.map turnP = m at *
  refine ct_intro Try.func64 rfl Try.ntmps64 (by simp) (fun W0 Z => ?_)
  with_reducible (repeat (first | refine AW.seq ?_ | refine AW.block ?_ | refine AW.skip ?_ | refine AW.exit ?_ | refine AW.ret ?_ | refine AW.label ?_ | refine NX.then ?_ | refine NX.ret ?_ | refine NX.exit ?_ | refine NX.inRet ?_ | refine NX.inNormal ?_ | refine NX.inExit ?_ | refine NX.outExit (by decide) ?_))
  refine AW.at_ (fun L hL => ?_)
  simp at hL
  subst hL
  refine AW.re ty (by kernel_rfl) (by first | exact cx_N _ _ _ | assumption) (by first | exact cx_pz _ _ _ | assumption) 1 (by decide) (fun K hK => ?_)
  (try simp only [List.toList_toArray, toList_lit]); repeat (with_reducible refine AR.step (fun K1 K2 hK1 hK2 => ?_); simp; (first | refine hK1.out _ _ ?_ | refine hK2.out _ ?_ | refine ⟨by kernel_rfl, hK2.out _ ?_⟩); clear hK1 hK2 K1 K2; simp); (try with_reducible refine AR.nil ?_)
  refine ⟨chk_text _ _, hK.out _ ?_⟩
  clear hK K
  with_reducible (repeat (first | refine AW.seq ?_ | refine AW.block ?_ | refine AW.skip ?_ | refine AW.exit ?_ | refine AW.ret ?_ | refine AW.label ?_ | refine NX.then ?_ | refine NX.ret ?_ | refine NX.exit ?_ | refine NX.inRet ?_ | refine NX.inNormal ?_ | refine NX.inExit ?_ | refine NX.outExit (by decide) ?_))
  refine AW.re ty (by kernel_rfl) (by first | exact cx_N _ _ _ | assumption) (by first | exact cx_pz _ _ _ | assumption) 10 (by decide) (fun K hK => ?_)
  (try simp only [List.toList_toArray, toList_lit]); repeat (with_reducible refine AR.step (fun K1 K2 hK1 hK2 => ?_); simp; (first | refine hK1.out _ _ ?_ | refine hK2.out _ ?_ | refine ⟨by kernel_rfl, hK2.out _ ?_⟩); clear hK1 hK2 K1 K2; simp); (try with_reducible refine AR.nil ?_)
  refine AR.step (fun K1 K2 hK1 hK2 => ?_)
  simp
  refine orr_l ⟨by kernel_rfl, .inl ⟨_, c1, ?_⟩⟩
  (try simp)
  refine hK1.out _ _ ?_
  clear hK1 hK2 K1 K2
  (try simp)
  (try simp only [List.toList_toArray, toList_lit]); repeat (with_reducible refine AR.step (fun K1 K2 hK1 hK2 => ?_); simp; (first | refine hK1.out _ _ ?_ | refine hK2.out _ ?_ | refine ⟨by kernel_rfl, hK2.out _ ?_⟩); clear hK1 hK2 K1 K2; simp); (try with_reducible refine AR.nil ?_)
  refine ⟨chk_text _ _, hK.out _ ?_⟩
  clear hK K
  with_reducible (repeat (first | refine AW.seq ?_ | refine AW.block ?_ | refine AW.skip ?_ | refine AW.exit ?_ | refine AW.ret ?_ | refine AW.label ?_ | refine NX.then ?_ | refine NX.ret ?_ | refine NX.exit ?_ | refine NX.inRet ?_ | refine NX.inNormal ?_ | refine NX.inExit ?_ | refine NX.outExit (by decide) ?_))
  refine AW.re ty (by kernel_rfl) (by first | exact cx_N _ _ _ | assumption) (by first | exact cx_pz _ _ _ | assumption) 20 (by decide) (fun K hK => ?_)
  (try simp only [List.toList_toArray, toList_lit]); repeat (with_reducible refine AR.step (fun K1 K2 hK1 hK2 => ?_); simp; (first | refine hK1.out _ _ ?_ | refine hK2.out _ ?_ | refine ⟨by kernel_rfl, hK2.out _ ?_⟩); clear hK1 hK2 K1 K2; simp); (try with_reducible refine AR.nil ?_)
  refine ⟨chk_text _ _, hK.out _ ?_⟩
  clear hK K
  with_reducible (repeat (first | refine AW.seq ?_ | refine AW.block ?_ | refine AW.skip ?_ | refine AW.exit ?_ | refine AW.ret ?_ | refine AW.label ?_ | refine NX.then ?_ | refine NX.ret ?_ | refine NX.exit ?_ | refine NX.inRet ?_ | refine NX.inNormal ?_ | refine NX.inExit ?_ | refine NX.outExit (by decide) ?_))
  refine AW.cf rfl ?_
  with_reducible (repeat (first | refine AW.seq ?_ | refine AW.block ?_ | refine AW.skip ?_ | refine AW.exit ?_ | refine AW.ret ?_ | refine AW.label ?_ | refine NX.then ?_ | refine NX.ret ?_ | refine NX.exit ?_ | refine NX.inRet ?_ | refine NX.inNormal ?_ | refine NX.inExit ?_ | refine NX.outExit (by decide) ?_))
  refine AW.re ty (by kernel_rfl) (by first | exact cx_N _ _ _ | assumption) (by first | exact cx_pz _ _ _ | assumption) 30 (by decide) (fun K hK => ?_)
  (try simp only [List.toList_toArray, toList_lit]); repeat (with_reducible refine AR.step (fun K1 K2 hK1 hK2 => ?_); simp; (first | refine hK1.out _ _ ?_ | refine hK2.out _ ?_ | refine ⟨by kernel_rfl, hK2.out _ ?_⟩); clear hK1 hK2 K1 K2; simp); (try with_reducible refine AR.nil ?_)
  refine AR.step (fun K1 K2 hK1 hK2 => ?_)
  simp
  refine orr_l ⟨by kernel_rfl, .inr (.inl ⟨_, _, _, c2, ?_⟩)⟩
  (try simp)
  refine hK1.out _ _ ?_
  clear hK1 hK2 K1 K2
  (try simp)
  (try simp only [List.toList_toArray, toList_lit]); repeat (with_reducible refine AR.step (fun K1 K2 hK1 hK2 => ?_); simp; (first | refine hK1.out _ _ ?_ | refine hK2.out _ ?_ | refine ⟨by kernel_rfl, hK2.out _ ?_⟩); clear hK1 hK2 K1 K2; simp); (try with_reducible refine AR.nil ?_)
  refine AR.step (fun K1 K2 hK1 hK2 => ?_)
  simp
  refine orr_l ⟨by kernel_rfl, .inl ⟨_, c3, ?_⟩⟩
  (try simp)
  refine hK1.out _ _ ?_
  clear hK1 hK2 K1 K2
  (try simp)
  (try simp only [List.toList_toArray, toList_lit]); repeat (with_reducible refine AR.step (fun K1 K2 hK1 hK2 => ?_); simp; (first | refine hK1.out _ _ ?_ | refine hK2.out _ ?_ | refine ⟨by kernel_rfl, hK2.out _ ?_⟩); clear hK1 hK2 K1 K2; simp); (try with_reducible refine AR.nil ?_)
  refine ⟨chk_text _ _, hK.out _ ?_⟩
  clear hK K
  with_reducible (repeat (first | refine AW.seq ?_ | refine AW.block ?_ | refine AW.skip ?_ | refine AW.exit ?_ | refine AW.ret ?_ | refine AW.label ?_ | refine NX.then ?_ | refine NX.ret ?_ | refine NX.exit ?_ | refine NX.inRet ?_ | refine NX.inNormal ?_ | refine NX.inExit ?_ | refine NX.outExit (by decide) ?_))
  refine nx_ret (T := ty) (rs := [.tmp 2, .tmp 3]) (zs := [32]) (ds := [.c (RD (ofL m)), dI 0]) (rr := [(.zn 32, .zn .live)]) (.inr rfl) rfl (by kernel_rfl) (by kernel_rfl) (by simp) rfl
set_option maxHeartbeats 4000000 in
theorem turn_ct' (l : List Pr) (hr : rightL l = false) : Ct Try.prog 64 [.c (RD l)] none (.tup [.c (.v (.slice none 0 0)), dI 130]) := by
  have c1 := check_ct l
  rw [hr] at c1
  refine ct_intro Try.func64 rfl Try.ntmps64 (by simp) (fun W0 Z => ?_)
  with_reducible (repeat (first | refine AW.seq ?_ | refine AW.block ?_ | refine AW.skip ?_ | refine AW.exit ?_ | refine AW.ret ?_ | refine AW.label ?_ | refine NX.then ?_ | refine NX.ret ?_ | refine NX.exit ?_ | refine NX.inRet ?_ | refine NX.inNormal ?_ | refine NX.inExit ?_ | refine NX.outExit (by decide) ?_))
  refine AW.at_ (fun L hL => ?_)
  simp at hL
  subst hL
  refine AW.re ty (by kernel_rfl) (by first | exact cx_N _ _ _ | assumption) (by first | exact cx_pz _ _ _ | assumption) 1 (by decide) (fun K hK => ?_)
  (try simp only [List.toList_toArray, toList_lit]); repeat (with_reducible refine AR.step (fun K1 K2 hK1 hK2 => ?_); simp; (first | refine hK1.out _ _ ?_ | refine hK2.out _ ?_ | refine ⟨by kernel_rfl, hK2.out _ ?_⟩); clear hK1 hK2 K1 K2; simp); (try with_reducible refine AR.nil ?_)
  refine ⟨chk_text _ _, hK.out _ ?_⟩
  clear hK K
  with_reducible (repeat (first | refine AW.seq ?_ | refine AW.block ?_ | refine AW.skip ?_ | refine AW.exit ?_ | refine AW.ret ?_ | refine AW.label ?_ | refine NX.then ?_ | refine NX.ret ?_ | refine NX.exit ?_ | refine NX.inRet ?_ | refine NX.inNormal ?_ | refine NX.inExit ?_ | refine NX.outExit (by decide) ?_))
  refine AW.re ty (by kernel_rfl) (by first | exact cx_N _ _ _ | assumption) (by first | exact cx_pz _ _ _ | assumption) 10 (by decide) (fun K hK => ?_)
  (try simp only [List.toList_toArray, toList_lit]); repeat (with_reducible refine AR.step (fun K1 K2 hK1 hK2 => ?_); simp; (first | refine hK1.out _ _ ?_ | refine hK2.out _ ?_ | refine ⟨by kernel_rfl, hK2.out _ ?_⟩); clear hK1 hK2 K1 K2; simp); (try with_reducible refine AR.nil ?_)
  refine AR.step (fun K1 K2 hK1 hK2 => ?_)
  simp
  refine orr_l ⟨by kernel_rfl, .inl ⟨_, c1, ?_⟩⟩
  (try simp)
  refine hK1.out _ _ ?_
  clear hK1 hK2 K1 K2
  (try simp)
  (try simp only [List.toList_toArray, toList_lit]); repeat (with_reducible refine AR.step (fun K1 K2 hK1 hK2 => ?_); simp; (first | refine hK1.out _ _ ?_ | refine hK2.out _ ?_ | refine ⟨by kernel_rfl, hK2.out _ ?_⟩); clear hK1 hK2 K1 K2; simp); (try with_reducible refine AR.nil ?_)
  refine ⟨chk_text _ _, hK.out _ ?_⟩
  clear hK K
  with_reducible (repeat (first | refine AW.seq ?_ | refine AW.block ?_ | refine AW.skip ?_ | refine AW.exit ?_ | refine AW.ret ?_ | refine AW.label ?_ | refine NX.then ?_ | refine NX.ret ?_ | refine NX.exit ?_ | refine NX.inRet ?_ | refine NX.inNormal ?_ | refine NX.inExit ?_ | refine NX.outExit (by decide) ?_))
  refine AW.re ty (by kernel_rfl) (by first | exact cx_N _ _ _ | assumption) (by first | exact cx_pz _ _ _ | assumption) 20 (by decide) (fun K hK => ?_)
  (try simp only [List.toList_toArray, toList_lit]); repeat (with_reducible refine AR.step (fun K1 K2 hK1 hK2 => ?_); simp; (first | refine hK1.out _ _ ?_ | refine hK2.out _ ?_ | refine ⟨by kernel_rfl, hK2.out _ ?_⟩); clear hK1 hK2 K1 K2; simp); (try with_reducible refine AR.nil ?_)
  refine ⟨chk_text _ _, hK.out _ ?_⟩
  clear hK K
  with_reducible (repeat (first | refine AW.seq ?_ | refine AW.block ?_ | refine AW.skip ?_ | refine AW.exit ?_ | refine AW.ret ?_ | refine AW.label ?_ | refine NX.then ?_ | refine NX.ret ?_ | refine NX.exit ?_ | refine NX.inRet ?_ | refine NX.inNormal ?_ | refine NX.inExit ?_ | refine NX.outExit (by decide) ?_))
  refine AW.ct rfl ?_
  with_reducible (repeat (first | refine AW.seq ?_ | refine AW.block ?_ | refine AW.skip ?_ | refine AW.exit ?_ | refine AW.ret ?_ | refine AW.label ?_ | refine NX.then ?_ | refine NX.ret ?_ | refine NX.exit ?_ | refine NX.inRet ?_ | refine NX.inNormal ?_ | refine NX.inExit ?_ | refine NX.outExit (by decide) ?_))
  refine AW.re ty (by kernel_rfl) (by first | exact cx_N _ _ _ | assumption) (by first | exact cx_pz _ _ _ | assumption) 30 (by decide) (fun K hK => ?_)
  (try simp only [List.toList_toArray, toList_lit]); repeat (with_reducible refine AR.step (fun K1 K2 hK1 hK2 => ?_); simp; (first | refine hK1.out _ _ ?_ | refine hK2.out _ ?_ | refine ⟨by kernel_rfl, hK2.out _ ?_⟩); clear hK1 hK2 K1 K2; simp); (try with_reducible refine AR.nil ?_)
  refine ⟨chk_text _ _, hK.out _ ?_⟩
  clear hK K
  with_reducible (repeat (first | refine AW.seq ?_ | refine AW.block ?_ | refine AW.skip ?_ | refine AW.exit ?_ | refine AW.ret ?_ | refine AW.label ?_ | refine NX.then ?_ | refine NX.ret ?_ | refine NX.exit ?_ | refine NX.inRet ?_ | refine NX.inNormal ?_ | refine NX.inExit ?_ | refine NX.outExit (by decide) ?_))
  refine nx_ret (T := ty) (rs := [.tmp 2, .tmp 3]) (zs := []) (ds := [.c (.v (.slice none 0 0)), dI 130]) (rr := []) (.inr rfl) rfl (by kernel_rfl) (by kernel_rfl) (by simp) rfl
end Go.Proofs.Ytlkdkhmdmgchbaa
namespace Go.Proofs.Ytlkdkhmdmgchbaa
set_option linter.unusedSimpArgs false
set_option linter.unusedVariables false
open Go.RowKit

set_option maxRecDepth 100000 in
theorem minusp_any (w : World) (va vb : Value) (la lb : List Pr) (ra : PRow w va la) (rb : PRow w vb lb) (hlen : la.length + lb.length ≤ 1048576) :
    Calls Try.prog 76 #[va, vb] w fun e w' => Below w.heap.size w w' ∧ ((rightL la && rightL lb) = false → e = .returned (.tuple #[.slice none 0 0, (.int .i64 (130))])) ∧
      ((rightL la && rightL lb) = true → ∃ v, e = .returned (.tuple #[v, (.int .i64 (0))]) ∧ POwn w.heap.size w' v (keptH (fun x y => x && !y) la lb)) := by
  have HC : Hid (HoldsC 131 #[] (fun x y => x && !y) (fun _ => False) (fun _ => True)) := by
    refine ⟨fun args w => by simp [go_sem], ?_, ?_⟩
    · rintro x y W -
      refine (alone_any x y W).mono ?_
      rintro e W' ⟨rfl, B⟩
      exact ⟨rfl, ⟨B.os, B.tape, B.output, B.size, fun i hi _ => B.block i hi⟩, trivial⟩
    · rintro W W' - -
      trivial
  have RA := hid ra; have RB := hid rb; have HL := hid hlen
  clear ra rb hlen
  go_enter Try.func76, Try.ntmps76
  go_wp2_with fail
  refine (kept_gen w _ va vb la lb 131 #[] (fun x y => x && !y) (fun _ => False) _ (fun _ _ => rfl) (Nat.le_refl _) RA.out RB.out HC.out (fun _ h => h.elim) trivial HL.out).mono ?_
  rintro e w1 ⟨k1, k2, k3⟩
  have K1 : Hid (Below w.heap.size w w1) := ⟨k1.os, k1.tape, k1.output, k1.size, fun i hi => k1.block i hi (fun h => h)⟩
  have K2 := hid k2; have K3 := hid k3
  clear k1 k2 k3
  cases hr : (rightL la && rightL lb) with
  | false =>
    rw [hr] at K2 K3
    obtain rfl := K2.out rfl
    go_wp2_with fail
    go_ret2
    exact ⟨K1.out, fun _ => rfl, fun h => by rw [hr] at h; cases h⟩
  | true =>
    rw [hr] at K2 K3
    obtain ⟨v, rfl, own⟩ := K3.out rfl
    have OW := hid own; clear own
    go_wp2_with fail
    go_ret2
    exact ⟨K1.out, fun h => by (rw [hr] at h; cases h), fun _ => ⟨v, rfl, OW.out⟩⟩
set_option maxRecDepth 100000 in
theorem unionp_any (w : World) (va vb : Value) (la lb : List Pr) (ra : PRow w va la) (rb : PRow w vb lb) (hlen : la.length + lb.length ≤ 1048576) :
    Calls Try.prog 75 #[va, vb] w fun e w' => Below w.heap.size w w' ∧ ((rightL la && rightL lb) = false → e = .returned (.tuple #[.slice none 0 0, (.int .i64 (130))])) ∧
      ((rightL la && rightL lb) = true → ∃ v, e = .returned (.tuple #[v, (.int .i64 (0))]) ∧ POwn w.heap.size w' v (keptH (fun x y => or x y) la lb)) := by
  have HC : Hid (HoldsC 130 #[] (fun x y => or x y) (fun _ => False) (fun _ => True)) := by
    refine ⟨fun args w => by simp [go_sem], ?_, ?_⟩
    · rintro x y W -
      refine (either_any x y W).mono ?_
      rintro e W' ⟨rfl, B⟩
      exact ⟨rfl, ⟨B.os, B.tape, B.output, B.size, fun i hi _ => B.block i hi⟩, trivial⟩
    · rintro W W' - -
      trivial
  have RA := hid ra; have RB := hid rb; have HL := hid hlen
  clear ra rb hlen
  go_enter Try.func75, Try.ntmps75
  go_wp2_with fail
  refine (kept_gen w _ va vb la lb 130 #[] (fun x y => or x y) (fun _ => False) _ (fun _ _ => rfl) (Nat.le_refl _) RA.out RB.out HC.out (fun _ h => h.elim) trivial HL.out).mono ?_
  rintro e w1 ⟨k1, k2, k3⟩
  have K1 : Hid (Below w.heap.size w w1) := ⟨k1.os, k1.tape, k1.output, k1.size, fun i hi => k1.block i hi (fun h => h)⟩
  have K2 := hid k2; have K3 := hid k3
  clear k1 k2 k3
  cases hr : (rightL la && rightL lb) with
  | false =>
    rw [hr] at K2 K3
    obtain rfl := K2.out rfl
    go_wp2_with fail
    go_ret2
    exact ⟨K1.out, fun _ => rfl, fun h => by rw [hr] at h; cases h⟩
  | true =>
    rw [hr] at K2 K3
    obtain ⟨v, rfl, own⟩ := K3.out rfl
    have OW := hid own; clear own
    go_wp2_with fail
    go_ret2
    exact ⟨K1.out, fun h => by (rw [hr] at h; cases h), fun _ => ⟨v, rfl, OW.out⟩⟩
/-! ### contracts -/
theorem minus_ct (a b : List Pr) (hn : a.length + b.length ≤ 1048576) (h : (rightL a && rightL b) = true) : Ct Try.prog 76 [.c (RD a), .c (RD b)] none (.tup [.c (RD (keptH (fun x y => x && !y) a b)), dI 0]) := ct2 fun Z w v u ha hb => by
  refine (minusp_any w v u a b (prow_of ha) (prow_of hb) hn).mono ?_
  rintro e w' ⟨B, -, k⟩
  obtain ⟨v', rfl, o⟩ := k h
  exact ctr_tup2 B (ctr_ownp o) (.v _)
theorem minus_ct' (a b : List Pr) (hn : a.length + b.length ≤ 1048576) (h : (rightL a && rightL b) = false) : Ct Try.prog 76 [.c (RD a), .c (RD b)] none (.tup [.c (.v (.slice none 0 0)), dI 130]) := ct2 fun Z w v u ha hb => by
  refine (minusp_any w v u a b (prow_of ha) (prow_of hb) hn).mono ?_
  rintro e w' ⟨B, k, -⟩
  obtain rfl := k h
  exact ctr_tup2 B (.v _) (.v _)
theorem unionp_ct (a b : List Pr) (hn : a.length + b.length ≤ 1048576) (h : (rightL a && rightL b) = true) : Ct Try.prog 75 [.c (RD a), .c (RD b)] none (.tup [.c (RD (keptH (fun x y => or x y) a b)), dI 0]) := ct2 fun Z w v u ha hb => by
  refine (unionp_any w v u a b (prow_of ha) (prow_of hb) hn).mono ?_
  rintro e w' ⟨B, -, k⟩
  obtain ⟨v', rfl, o⟩ := k h
  exact ctr_tup2 B (ctr_ownp o) (.v _)
theorem unionp_ct' (a b : List Pr) (hn : a.length + b.length ≤ 1048576) (h : (rightL a && rightL b) = false) : Ct Try.prog 75 [.c (RD a), .c (RD b)] none (.tup [.c (.v (.slice none 0 0)), dI 130]) := ct2 fun Z w v u ha hb => by
  refine (unionp_any w v u a b (prow_of ha) (prow_of hb) hn).mono ?_
  rintro e w' ⟨B, k, -⟩
  obtain rfl := k h
  exact ctr_tup2 B (.v _) (.v _)
theorem meet_ct (a b : List Pr) (hn : a.length + b.length ≤ 1048576) (h : (rightL a && rightL b) = true) : Ct Try.prog 77 [.c (RD a), .c (RD b)] none (.tup [.c (RD (keptH (fun x y => x && y) a b)), dI 0]) := ct2 fun Z w v u ha hb => by
  refine (meet_any w v u a b (prow_of ha) (prow_of hb) hn).mono ?_
  rintro e w' ⟨B, -, k⟩
  obtain ⟨v', rfl, o⟩ := k h
  exact ctr_tup2 B (ctr_ownp o) (.v _)
theorem meet_ct' (a b : List Pr) (hn : a.length + b.length ≤ 1048576) (h : (rightL a && rightL b) = false) : Ct Try.prog 77 [.c (RD a), .c (RD b)] none (.tup [.c (.v (.slice none 0 0)), dI 130]) := ct2 fun Z w v u ha hb => by
  refine (meet_any w v u a b (prow_of ha) (prow_of hb) hn).mono ?_
  rintro e w' ⟨B, k, -⟩
  obtain rfl := k h
  exact ctr_tup2 B (.v _) (.v _)
theorem search_ct (l : List Pr) (p : Pr) (hr : Rises l) (hn : l.length ≤ 100000000) : Ct Try.prog 152 [.c (RD l), PV p, .c (.v (.func (.func 56) #[] #[]))] none (.tup [dI (placeL l p : Nat), dB (decide (p ∈ l))]) := ct3 fun Z w v u t h1 h2 h3 => by
  obtain rfl := pair_of h2
  obtain rfl : t = _ := RepD.raw h3
  refine (search_any v l p.1 p.2 w (prow_of h1) hr hn).mono ?_
  rintro e w' ⟨rfl, B⟩
  exact ctr_tup2 B (.v _) (.v _)
end Go.Proofs.Ytlkdkhmdmgchbaa
namespace Go.Proofs.Ytlkdkhmdmgchbaa
set_option linter.unusedSimpArgs false
set_option linter.unusedVariables false
open Go.RowKit

theorem eq_pair : EqlAt Try.prog 52 (fun x : Pr => .agg (encP x).toArray) (fun x y => decide (x = y)) := by
  refine ⟨fun x y w => ?_, GuardAt.agg _ (by kernel_rfl)⟩
  have hS : Try.prog.underlying 52 = some (.struct (Try.prog.fieldsOf 52)) := by kernel_rfl
  have hp : Try.prog.stoodInHeld 52 = false := by kernel_rfl
  have u3 := Try.underlying50
  have a3 := Try.isAgg50
  have z3 := Try.sizeOf50
  simp only [encP]
  rw [run_eql_struct, show (10000 : Nat) = 9999 + 1 from rfl, run_equalIn_agg w 9999 52 _ _ hS hp]
  simp only [Program.fieldsOf, Try.underlying52]
  go_simp
  have : decide (x = y) = (decide (x.1 = y.1) && decide (x.2 = y.2)) := by
    rw [← Bool.decide_and, decide_eq_decide]
    exact Prod.ext_iff
  rw [this]
  by_cases h1 : x.fst = y.fst <;> by_cases h2 : x.snd = y.snd <;> simp [h1, h2]
theorem sba_mk {P : Program} {op : BinOp} {t : TypeId} {x y : Operand} {u v z : Value} {k : Value → Prop} (h : ∀ w, (do eqGuard op t x y u v; binOp op t u v : Sem Value).run P w = .ok z w) (hk : k z) : stBinAny P op t x y u v k := ⟨z, h, hk⟩
theorem sba_eql {x y : Operand} (p q : Pr) {b : Bool} (hb : decide (p = q) = b) {k : Value → Prop} (hk : k (.bool b)) : stBinAny Try.prog .eql 52 x y (.agg #[.int .u64 p.1, .int .u64 p.2]) (.agg #[.int .u64 q.1, .int .u64 q.2]) k := by
  refine ⟨_, fun w => ?_, hk⟩
  have h1 := eq_pair.2 .eql x y p q w
  have h2 := eq_pair.1 p q w
  simp only [encP] at h1 h2
  rw [← hb]
  simp [h1, h2]
theorem place_split {p : Pr} : ∀ {l : List Pr}, Rises l → (∀ x ∈ l.take (placeL l p), lt x p) ∧ ∀ x ∈ l.drop (placeL l p), ¬ lt x p
  | [], _ => ⟨fun x h => by simp at h, fun x h => by simp at h⟩
  | y :: l, hr => by
    obtain ⟨h1, h2⟩ := rises_cons.1 hr
    obtain ⟨i1, i2⟩ := place_split (p := p) h2
    by_cases hy : lt y p
    · have e : placeL (y :: l) p = placeL l p + 1 := by simp [placeL, hy]
      rw [e]
      refine ⟨fun x hx => ?_, fun x hx => ?_⟩
      · rw [List.take_succ_cons, List.mem_cons] at hx
        rcases hx with rfl | hx
        · exact hy
        · exact i1 x hx
      · exact i2 x (by simpa using hx)
    · have all : ∀ x ∈ l, ¬ lt x p := fun x hx hl => hy (lt_tr (h1 x hx) hl)
      have e : placeL (y :: l) p = 0 := by
        unfold placeL
        rw [List.filter_cons, if_neg (by simpa using hy), List.filter_eq_nil_iff.2 (fun x hx => by simpa using all x hx)]
        rfl
      rw [e]
      refine ⟨fun x hx => by simp at hx, fun x hx => ?_⟩
      simp only [List.drop_zero, List.mem_cons] at hx
      rcases hx with rfl | hx
      · exact hy
      · exact all x hx
theorem placeL_le (l : List Pr) (p : Pr) : placeL l p ≤ l.length := List.length_filter_le _ _
theorem place_mem {p : Pr} {l : List Pr} (hr : Rises l) (h : placeL l p < l.length) : p ∈ l ↔ l[placeL l p] = p := mem_at hr h (place_split hr).1 (place_split hr).2
theorem place_end {p : Pr} {l : List Pr} (hr : Rises l) (h : ¬ placeL l p < l.length) : p ∉ l := fun hm => by
  have := (place_split (p := p) hr).1
  rw [List.take_of_length_le (by omega)] at this
  have := this p hm
  unfold lt at this; omega
end Go.Proofs.Ytlkdkhmdmgchbaa
namespace Go.Proofs.Ytlkdkhmdmgchbaa
set_option linter.unusedSimpArgs false
set_option linter.unusedVariables false
open Go.RowKit
attribute [local simp ↓] arun_nil ob_some kva_av kfree_free khfree_free khown_own klive_live knm_false chk_true ya_true gsel_tt gsel_ff gsel_tf gsel_ft vb_bool vi_int vstr_string avps_ptr avps_seg avp_ptr avagg_agg avtup_tup avb_bool avown_own shs_struct shsa_struct shsa_arr sharr_arr shl_slice shla_slice shla_arr shls_slice shls_str shi_int bc_true bc_false hd1_cons opc_some opc_none opn_some opn_none unc_not unc_neg gd_none gd_some as_move as_assign as_pick as_bin as_un as_conv as_load as_faddr as_field as_extract as_iaddr as_slice as_alloc as_box as_store as_build as_rows as_call as_append as_lookup as_mapUpdate as_makeMap as_range as_next as_entry as_index as_fn as_len as_min as_max stMove stPick stBin stUn stConv stLoad stFaddr stField stExtract stIaddr stSlice stAlloc stBox stStore stBuild stIndex stRows stCall stAppend stFn stLen stMin stMax opd_tmp opd_const opd_func rawL_nil rawL_cons raw_c raw_st raw_a opr_e zr_nil zr_cons lvd_live hod_own obd_some obd_none kvd_av chd_true vid_int lk_cons lk_nil ins_nil ins_cons cells_zero cells_succ spread1_c spread1_own spread1_ptr spread1_fn spread1_seg spreadL_nil spreadL_cons spread_agg spread_c spread_own spread_seg spread_ptr spread_fn ex_zero ex_succ ops_e opb_none opb_int spreadD_agg spreadD_c spreadD_own spreadD_seg fillO_nil fillO_cons argsOf_nil argsOf_cons dvOf_c dvOf_seg dvOf_own dvOf_agg zrL_nil zrL_cons hdd_c hdd_seg hdd_own clz_e clv_raw clv_f callD_e dst0_n dst0_nil dst0_own goneH_e capc_ptr capc_seg capc_c capN_nil capN_cons capD_nil capD_cons deadZ_nil deadZ_cons
attribute [local simp] dok_some dok_none dflt_tmp dflt_vt dflt_cell dflt_zn dflt_nm dflt_hd dflt_df puts_nil puts_cons wr_some wr_none cst_agg cst_int cst_bool cst_string cst_slice cst_tuple cst_nilFunc cst_pointer cst_func bin_add bin_sub bin_mul bin_quo bin_rem bin_eql bin_neq bin_lss bin_leq bin_gtr bin_geq bin_bool bin_aggs binT_bool binT_aggs shbd_bool eqb_eql eqb_neq bin_slice bin_str_eql bin_str_neq bin_str_lss bin_str_add nz_v nz_n nz_s nz_p nz_f nz_st atz_v atz_n atz_s atz_p atz_f atz_st atz_agg atR_one atR_tup crow_nil crow_cons slc_c slc_n slc_own slc_nil raws setR placesT_nil placesT_cons zc chunk zsAll ocD_v ocD_n ocD_s ocD_p ocD_f ocD_st nrm_v nrm_n nrm_s nrm_p nrm_f nrm_st isV_one isV_tup isV_c isV_agg isV_v isV_n isV_s isV_p isV_f isV_st argRows Sh.agg zds_nil zds_e zds_v zds_s vcells_agg vcells_int vcells_bool vcells_string vcells_slice vcells_pointer toList_lit map_nilL map_consL nzr_e rowsOc_nil rowsOc_cons rowsOc_RD nzr_RD ty2 ty3 ty4 ty5 ty6 ty7 ty8 ty9 ty10 ty11 ty12 ty13 ty14 ty15 ty16 ty17 ty18 ty19 ty20 ty21 ty22 ty23 ty24 ty25 ty26 ty27 ty30 ty40 ty48 ty50 ty51 ty52 ty55 ty57 ty62 ty63 ty85 ty94 ty101 ty121 ty122 ty123 ty124 ty125 ty126 ty128 ty148 ty149 ty151 ty164 ty165 ty179 ty182 ty196 ty203 ty205 ty209 ty211 ty215 ty216 ty217 ty218 ty219 ty220 ty221 ty223 ty224 ty225 ty226 ty227 Value.oneCell'
set_option maxRecDepth 100000
set_option maxHeartbeats 4000000 in
theorem place_ct (l : List Pr) (p : Pr) (hr : Rises l) (hn : l.length ≤ 100000000) : Ct Try.prog 122 [.c (RD l), PV p] none (.one (dI (placeL l p : Nat))) := by
  have c1 := search_ct l p hr hn
  refine ct_intro Try.func122 rfl Try.ntmps122 (by simp) (fun W0 Z => ?_)
  with_reducible (repeat (first | refine AW.seq ?_ | refine AW.block ?_ | refine AW.skip ?_ | refine AW.exit ?_ | refine AW.ret ?_ | refine AW.label ?_ | refine NX.then ?_ | refine NX.ret ?_ | refine NX.exit ?_ | refine NX.inRet ?_ | refine NX.inNormal ?_ | refine NX.inExit ?_ | refine NX.outExit (by decide) ?_))
  refine AW.at_ (fun L hL => ?_)
  simp at hL
  subst hL
  refine AW.re ty (by kernel_rfl) (by first | exact cx_N _ _ _ | assumption) (by first | exact cx_pz _ _ _ | assumption) 1 (by decide) (fun K hK => ?_)
  (try simp only [List.toList_toArray, toList_lit]); repeat (with_reducible refine AR.step (fun K1 K2 hK1 hK2 => ?_); simp; (first | refine hK1.out _ _ ?_ | refine hK2.out _ ?_ | refine ⟨by kernel_rfl, hK2.out _ ?_⟩); clear hK1 hK2 K1 K2; simp); (try with_reducible refine AR.nil ?_)
  refine ⟨chk_text _ _, hK.out _ ?_⟩
  clear hK K
  with_reducible (repeat (first | refine AW.seq ?_ | refine AW.block ?_ | refine AW.skip ?_ | refine AW.exit ?_ | refine AW.ret ?_ | refine AW.label ?_ | refine NX.then ?_ | refine NX.ret ?_ | refine NX.exit ?_ | refine NX.inRet ?_ | refine NX.inNormal ?_ | refine NX.inExit ?_ | refine NX.outExit (by decide) ?_))
  refine AW.re ty (by kernel_rfl) (by first | exact cx_N _ _ _ | assumption) (by first | exact cx_pz _ _ _ | assumption) 10 (by decide) (fun K hK => ?_)
  (try simp only [List.toList_toArray, toList_lit]); repeat (with_reducible refine AR.step (fun K1 K2 hK1 hK2 => ?_); simp; (first | refine hK1.out _ _ ?_ | refine hK2.out _ ?_ | refine ⟨by kernel_rfl, hK2.out _ ?_⟩); clear hK1 hK2 K1 K2; simp); (try with_reducible refine AR.nil ?_)
  refine AR.step (fun K1 K2 hK1 hK2 => ?_)
  simp
  refine orr_l ⟨by kernel_rfl, .inl ⟨_, c1, ?_⟩⟩
  (try simp)
  refine hK1.out _ _ ?_
  clear hK1 hK2 K1 K2
  (try simp)
  (try simp only [List.toList_toArray, toList_lit]); repeat (with_reducible refine AR.step (fun K1 K2 hK1 hK2 => ?_); simp; (first | refine hK1.out _ _ ?_ | refine hK2.out _ ?_ | refine ⟨by kernel_rfl, hK2.out _ ?_⟩); clear hK1 hK2 K1 K2; simp); (try with_reducible refine AR.nil ?_)
  refine ⟨chk_text _ _, hK.out _ ?_⟩
  clear hK K
  with_reducible (repeat (first | refine AW.seq ?_ | refine AW.block ?_ | refine AW.skip ?_ | refine AW.exit ?_ | refine AW.ret ?_ | refine AW.label ?_ | refine NX.then ?_ | refine NX.ret ?_ | refine NX.exit ?_ | refine NX.inRet ?_ | refine NX.inNormal ?_ | refine NX.inExit ?_ | refine NX.outExit (by decide) ?_))
  refine AW.re ty (by kernel_rfl) (by first | exact cx_N _ _ _ | assumption) (by first | exact cx_pz _ _ _ | assumption) 30 (by decide) (fun K hK => ?_)
  (try simp only [List.toList_toArray, toList_lit]); repeat (with_reducible refine AR.step (fun K1 K2 hK1 hK2 => ?_); simp; (first | refine hK1.out _ _ ?_ | refine hK2.out _ ?_ | refine ⟨by kernel_rfl, hK2.out _ ?_⟩); clear hK1 hK2 K1 K2; simp); (try with_reducible refine AR.nil ?_)
  refine ⟨chk_text _ _, hK.out _ ?_⟩
  clear hK K
  with_reducible (repeat (first | refine AW.seq ?_ | refine AW.block ?_ | refine AW.skip ?_ | refine AW.exit ?_ | refine AW.ret ?_ | refine AW.label ?_ | refine NX.then ?_ | refine NX.ret ?_ | refine NX.exit ?_ | refine NX.inRet ?_ | refine NX.inNormal ?_ | refine NX.inExit ?_ | refine NX.outExit (by decide) ?_))
  refine nx_ret (T := ty) (rs := [.tmp 4]) (zs := []) (ds := [dI (placeL l p : Nat)]) (rr := []) (.inr rfl) rfl (by kernel_rfl) (by kernel_rfl) (by simp) rfl
set_option maxHeartbeats 4000000 in
theorem has_ct (l : List Pr) (p : Pr) (hr : Rises l) (hrt : rightL l = true) (hn : l.length ≤ 1000000) : Ct Try.prog 65 [.c (RD l), PV p] none (.one (dB (decide (p ∈ l)))) := by
  have c1 := place_ct l p hr (by omega)
  have c2 := check_ct l
  rw [hrt] at c2
  have hm : (hgo : placeL l p < l.length) → (p ∈ l ↔ l[placeL l p] = p) := fun h => place_mem hr h
  have he := place_end (p := p) (l := l) hr
  generalize placeL l p = i at *
  by_cases hgo : i < l.length
  · have hm := hm hgo
    obtain ⟨x, hx⟩ : ∃ x, l[i] = x := ⟨_, rfl⟩
    rw [hx] at hm
    by_cases hxp : x = p
    · have e : decide (p ∈ l) = true := by rw [decide_eq_true_iff]; exact hm.2 hxp
      rw [e]
      have hb : decide (x = p) = true := by rw [decide_eq_true_iff]; exact hxp
      refine ct_intro Try.func65 rfl Try.ntmps65 (by simp) (fun W0 Z => ?_)
      with_reducible (repeat (first | refine AW.seq ?_ | refine AW.block ?_ | refine AW.skip ?_ | refine AW.exit ?_ | refine AW.ret ?_ | refine AW.label ?_ | refine NX.then ?_ | refine NX.ret ?_ | refine NX.exit ?_ | refine NX.inRet ?_ | refine NX.inNormal ?_ | refine NX.inExit ?_ | refine NX.outExit (by decide) ?_))
      refine AW.at_ (fun L hL => ?_)
      simp at hL
      subst hL
      refine AW.re ty (by kernel_rfl) (by first | exact cx_N _ _ _ | assumption) (by first | exact cx_pz _ _ _ | assumption) 1 (by decide) (fun K hK => ?_)
      (try simp only [List.toList_toArray, toList_lit]); repeat (with_reducible refine AR.step (fun K1 K2 hK1 hK2 => ?_); simp; (first | refine hK1.out _ _ ?_ | refine hK2.out _ ?_ | refine ⟨by kernel_rfl, hK2.out _ ?_⟩); clear hK1 hK2 K1 K2; simp); (try with_reducible refine AR.nil ?_)
      refine ⟨chk_text _ _, hK.out _ ?_⟩
      clear hK K
      with_reducible (repeat (first | refine AW.seq ?_ | refine AW.block ?_ | refine AW.skip ?_ | refine AW.exit ?_ | refine AW.ret ?_ | refine AW.label ?_ | refine NX.then ?_ | refine NX.ret ?_ | refine NX.exit ?_ | refine NX.inRet ?_ | refine NX.inNormal ?_ | refine NX.inExit ?_ | refine NX.outExit (by decide) ?_))
      refine AW.re ty (by kernel_rfl) (by first | exact cx_N _ _ _ | assumption) (by first | exact cx_pz _ _ _ | assumption) 10 (by decide) (fun K hK => ?_)
      (try simp only [List.toList_toArray, toList_lit]); repeat (with_reducible refine AR.step (fun K1 K2 hK1 hK2 => ?_); simp; (first | refine hK1.out _ _ ?_ | refine hK2.out _ ?_ | refine ⟨by kernel_rfl, hK2.out _ ?_⟩); clear hK1 hK2 K1 K2; simp); (try with_reducible refine AR.nil ?_)
      refine AR.step (fun K1 K2 hK1 hK2 => ?_)
      simp
      refine orr_l ⟨by kernel_rfl, .inl ⟨_, c1, ?_⟩⟩
      (try simp)
      refine hK1.out _ _ ?_
      clear hK1 hK2 K1 K2
      (try simp)
      (try simp only [List.toList_toArray, toList_lit]); repeat (with_reducible refine AR.step (fun K1 K2 hK1 hK2 => ?_); simp; (first | refine hK1.out _ _ ?_ | refine hK2.out _ ?_ | refine ⟨by kernel_rfl, hK2.out _ ?_⟩); clear hK1 hK2 K1 K2; simp); (try with_reducible refine AR.nil ?_)
      refine ⟨chk_text _ _, hK.out _ ?_⟩
      clear hK K
      with_reducible (repeat (first | refine AW.seq ?_ | refine AW.block ?_ | refine AW.skip ?_ | refine AW.exit ?_ | refine AW.ret ?_ | refine AW.label ?_ | refine NX.then ?_ | refine NX.ret ?_ | refine NX.exit ?_ | refine NX.inRet ?_ | refine NX.inNormal ?_ | refine NX.inExit ?_ | refine NX.outExit (by decide) ?_))
      refine AW.re ty (by kernel_rfl) (by first | exact cx_N _ _ _ | assumption) (by first | exact cx_pz _ _ _ | assumption) 20 (by decide) (fun K hK => ?_)
      (try simp only [List.toList_toArray, toList_lit]); repeat (with_reducible refine AR.step (fun K1 K2 hK1 hK2 => ?_); simp [hgo]; (first | refine hK1.out _ _ ?_ | refine hK2.out _ ?_ | refine ⟨by kernel_rfl, hK2.out _ ?_⟩); clear hK1 hK2 K1 K2; simp [hgo]); (try with_reducible refine AR.nil ?_)
      refine AR.step (fun K1 K2 hK1 hK2 => ?_)
      simp [hgo]
      refine ⟨i, PD x, rfl, by simp [hgo, hx], ?_⟩
      refine hK1.out _ _ ?_
      clear hK1 hK2 K1 K2
      (try simp [hgo])
      (try simp only [List.toList_toArray, toList_lit]); repeat (with_reducible refine AR.step (fun K1 K2 hK1 hK2 => ?_); simp [hgo]; (first | refine hK1.out _ _ ?_ | refine hK2.out _ ?_ | refine ⟨by kernel_rfl, hK2.out _ ?_⟩); clear hK1 hK2 K1 K2; simp [hgo]); (try with_reducible refine AR.nil ?_)
      refine AR.step (fun K1 K2 hK1 hK2 => ?_)
      simp [hgo]
      refine sba_eql x p hb ?_
      refine hK1.out _ _ ?_
      clear hK1 hK2 K1 K2
      (try simp [hgo])
      (try simp only [List.toList_toArray, toList_lit]); repeat (with_reducible refine AR.step (fun K1 K2 hK1 hK2 => ?_); simp [hgo]; (first | refine hK1.out _ _ ?_ | refine hK2.out _ ?_ | refine ⟨by kernel_rfl, hK2.out _ ?_⟩); clear hK1 hK2 K1 K2; simp [hgo]); (try with_reducible refine AR.nil ?_)
      refine AR.step (fun K1 K2 hK1 hK2 => ?_)
      simp [hgo]
      refine orr_l ⟨by kernel_rfl, .inl ⟨_, c2, ?_⟩⟩
      (try simp [hgo])
      refine hK1.out _ _ ?_
      clear hK1 hK2 K1 K2
      (try simp [hgo])
      (try simp only [List.toList_toArray, toList_lit]); repeat (with_reducible refine AR.step (fun K1 K2 hK1 hK2 => ?_); simp [hgo]; (first | refine hK1.out _ _ ?_ | refine hK2.out _ ?_ | refine ⟨by kernel_rfl, hK2.out _ ?_⟩); clear hK1 hK2 K1 K2; simp [hgo]); (try with_reducible refine AR.nil ?_)
      refine ⟨chk_drawn (by kernel_rfl) (by kernel_rfl), hK.out _ ?_⟩
      clear hK K
      with_reducible (repeat (first | refine AW.seq ?_ | refine AW.block ?_ | refine AW.skip ?_ | refine AW.exit ?_ | refine AW.ret ?_ | refine AW.label ?_ | refine NX.then ?_ | refine NX.ret ?_ | refine NX.exit ?_ | refine NX.inRet ?_ | refine NX.inNormal ?_ | refine NX.inExit ?_ | refine NX.outExit (by decide) ?_))
      refine nx_ret (T := ty) (rs := [.tmp 4]) (zs := []) (ds := [dB true]) (rr := []) (.inr rfl) rfl (by kernel_rfl) (by kernel_rfl) (by simp) rfl
    · have e : decide (p ∈ l) = false := by rw [decide_eq_false_iff_not]; exact fun h => hxp (hm.1 h)
      rw [e]
      have hb : decide (x = p) = false := by rw [decide_eq_false_iff_not]; exact hxp
      refine ct_intro Try.func65 rfl Try.ntmps65 (by simp) (fun W0 Z => ?_)
      with_reducible (repeat (first | refine AW.seq ?_ | refine AW.block ?_ | refine AW.skip ?_ | refine AW.exit ?_ | refine AW.ret ?_ | refine AW.label ?_ | refine NX.then ?_ | refine NX.ret ?_ | refine NX.exit ?_ | refine NX.inRet ?_ | refine NX.inNormal ?_ | refine NX.inExit ?_ | refine NX.outExit (by decide) ?_))
      refine AW.at_ (fun L hL => ?_)
      simp at hL
      subst hL
      refine AW.re ty (by kernel_rfl) (by first | exact cx_N _ _ _ | assumption) (by first | exact cx_pz _ _ _ | assumption) 1 (by decide) (fun K hK => ?_)
      (try simp only [List.toList_toArray, toList_lit]); repeat (with_reducible refine AR.step (fun K1 K2 hK1 hK2 => ?_); simp [hgo]; (first | refine hK1.out _ _ ?_ | refine hK2.out _ ?_ | refine ⟨by kernel_rfl, hK2.out _ ?_⟩); clear hK1 hK2 K1 K2; simp [hgo]); (try with_reducible refine AR.nil ?_)
      refine ⟨chk_text _ _, hK.out _ ?_⟩
      clear hK K
      with_reducible (repeat (first | refine AW.seq ?_ | refine AW.block ?_ | refine AW.skip ?_ | refine AW.exit ?_ | refine AW.ret ?_ | refine AW.label ?_ | refine NX.then ?_ | refine NX.ret ?_ | refine NX.exit ?_ | refine NX.inRet ?_ | refine NX.inNormal ?_ | refine NX.inExit ?_ | refine NX.outExit (by decide) ?_))
      refine AW.re ty (by kernel_rfl) (by first | exact cx_N _ _ _ | assumption) (by first | exact cx_pz _ _ _ | assumption) 10 (by decide) (fun K hK => ?_)
      (try simp only [List.toList_toArray, toList_lit]); repeat (with_reducible refine AR.step (fun K1 K2 hK1 hK2 => ?_); simp [hgo]; (first | refine hK1.out _ _ ?_ | refine hK2.out _ ?_ | refine ⟨by kernel_rfl, hK2.out _ ?_⟩); clear hK1 hK2 K1 K2; simp [hgo]); (try with_reducible refine AR.nil ?_)
      refine AR.step (fun K1 K2 hK1 hK2 => ?_)
      simp [hgo]
      refine orr_l ⟨by kernel_rfl, .inl ⟨_, c1, ?_⟩⟩
      (try simp [hgo])
      refine hK1.out _ _ ?_
      clear hK1 hK2 K1 K2
      (try simp [hgo])
      (try simp only [List.toList_toArray, toList_lit]); repeat (with_reducible refine AR.step (fun K1 K2 hK1 hK2 => ?_); simp [hgo]; (first | refine hK1.out _ _ ?_ | refine hK2.out _ ?_ | refine ⟨by kernel_rfl, hK2.out _ ?_⟩); clear hK1 hK2 K1 K2; simp [hgo]); (try with_reducible refine AR.nil ?_)
      refine ⟨chk_text _ _, hK.out _ ?_⟩
      clear hK K
      with_reducible (repeat (first | refine AW.seq ?_ | refine AW.block ?_ | refine AW.skip ?_ | refine AW.exit ?_ | refine AW.ret ?_ | refine AW.label ?_ | refine NX.then ?_ | refine NX.ret ?_ | refine NX.exit ?_ | refine NX.inRet ?_ | refine NX.inNormal ?_ | refine NX.inExit ?_ | refine NX.outExit (by decide) ?_))
      refine AW.re ty (by kernel_rfl) (by first | exact cx_N _ _ _ | assumption) (by first | exact cx_pz _ _ _ | assumption) 20 (by decide) (fun K hK => ?_)
      (try simp only [List.toList_toArray, toList_lit]); repeat (with_reducible refine AR.step (fun K1 K2 hK1 hK2 => ?_); simp [hgo]; (first | refine hK1.out _ _ ?_ | refine hK2.out _ ?_ | refine ⟨by kernel_rfl, hK2.out _ ?_⟩); clear hK1 hK2 K1 K2; simp [hgo]); (try with_reducible refine AR.nil ?_)
      refine AR.step (fun K1 K2 hK1 hK2 => ?_)
      simp [hgo]
      refine ⟨i, PD x, rfl, by simp [hgo, hx], ?_⟩
      refine hK1.out _ _ ?_
      clear hK1 hK2 K1 K2
      (try simp [hgo])
      (try simp only [List.toList_toArray, toList_lit]); repeat (with_reducible refine AR.step (fun K1 K2 hK1 hK2 => ?_); simp [hgo]; (first | refine hK1.out _ _ ?_ | refine hK2.out _ ?_ | refine ⟨by kernel_rfl, hK2.out _ ?_⟩); clear hK1 hK2 K1 K2; simp [hgo]); (try with_reducible refine AR.nil ?_)
      refine AR.step (fun K1 K2 hK1 hK2 => ?_)
      simp [hgo]
      refine sba_eql x p hb ?_
      refine hK1.out _ _ ?_
      clear hK1 hK2 K1 K2
      (try simp [hgo])
      (try simp only [List.toList_toArray, toList_lit]); repeat (with_reducible refine AR.step (fun K1 K2 hK1 hK2 => ?_); simp [hgo]; (first | refine hK1.out _ _ ?_ | refine hK2.out _ ?_ | refine ⟨by kernel_rfl, hK2.out _ ?_⟩); clear hK1 hK2 K1 K2; simp [hgo]); (try with_reducible refine AR.nil ?_)
      refine ⟨chk_drawn (by kernel_rfl) (by kernel_rfl), hK.out _ ?_⟩
      clear hK K
      with_reducible (repeat (first | refine AW.seq ?_ | refine AW.block ?_ | refine AW.skip ?_ | refine AW.exit ?_ | refine AW.ret ?_ | refine AW.label ?_ | refine NX.then ?_ | refine NX.ret ?_ | refine NX.exit ?_ | refine NX.inRet ?_ | refine NX.inNormal ?_ | refine NX.inExit ?_ | refine NX.outExit (by decide) ?_))
      refine nx_ret (T := ty) (rs := [.tmp 4]) (zs := []) (ds := [dB false]) (rr := []) (.inr rfl) rfl (by kernel_rfl) (by kernel_rfl) (by simp) rfl
  · have e : decide (p ∈ l) = false := by rw [decide_eq_false_iff_not]; exact he hgo
    rw [e]
    refine ct_intro Try.func65 rfl Try.ntmps65 (by simp) (fun W0 Z => ?_)
    with_reducible (repeat (first | refine AW.seq ?_ | refine AW.block ?_ | refine AW.skip ?_ | refine AW.exit ?_ | refine AW.ret ?_ | refine AW.label ?_ | refine NX.then ?_ | refine NX.ret ?_ | refine NX.exit ?_ | refine NX.inRet ?_ | refine NX.inNormal ?_ | refine NX.inExit ?_ | refine NX.outExit (by decide) ?_))
    refine AW.at_ (fun L hL => ?_)
    simp at hL
    subst hL
    refine AW.re ty (by kernel_rfl) (by first | exact cx_N _ _ _ | assumption) (by first | exact cx_pz _ _ _ | assumption) 1 (by decide) (fun K hK => ?_)
    (try simp only [List.toList_toArray, toList_lit]); repeat (with_reducible refine AR.step (fun K1 K2 hK1 hK2 => ?_); simp [hgo]; (first | refine hK1.out _ _ ?_ | refine hK2.out _ ?_ | refine ⟨by kernel_rfl, hK2.out _ ?_⟩); clear hK1 hK2 K1 K2; simp [hgo]); (try with_reducible refine AR.nil ?_)
    refine ⟨chk_text _ _, hK.out _ ?_⟩
    clear hK K
    with_reducible (repeat (first | refine AW.seq ?_ | refine AW.block ?_ | refine AW.skip ?_ | refine AW.exit ?_ | refine AW.ret ?_ | refine AW.label ?_ | refine NX.then ?_ | refine NX.ret ?_ | refine NX.exit ?_ | refine NX.inRet ?_ | refine NX.inNormal ?_ | refine NX.inExit ?_ | refine NX.outExit (by decide) ?_))
    refine AW.re ty (by kernel_rfl) (by first | exact cx_N _ _ _ | assumption) (by first | exact cx_pz _ _ _ | assumption) 10 (by decide) (fun K hK => ?_)
    (try simp only [List.toList_toArray, toList_lit]); repeat (with_reducible refine AR.step (fun K1 K2 hK1 hK2 => ?_); simp [hgo]; (first | refine hK1.out _ _ ?_ | refine hK2.out _ ?_ | refine ⟨by kernel_rfl, hK2.out _ ?_⟩); clear hK1 hK2 K1 K2; simp [hgo]); (try with_reducible refine AR.nil ?_)
    refine AR.step (fun K1 K2 hK1 hK2 => ?_)
    simp [hgo]
    refine orr_l ⟨by kernel_rfl, .inl ⟨_, c1, ?_⟩⟩
    (try simp [hgo])
    refine hK1.out _ _ ?_
    clear hK1 hK2 K1 K2
    (try simp [hgo])
    (try simp only [List.toList_toArray, toList_lit]); repeat (with_reducible refine AR.step (fun K1 K2 hK1 hK2 => ?_); simp [hgo]; (first | refine hK1.out _ _ ?_ | refine hK2.out _ ?_ | refine ⟨by kernel_rfl, hK2.out _ ?_⟩); clear hK1 hK2 K1 K2; simp [hgo]); (try with_reducible refine AR.nil ?_)
    refine ⟨chk_text _ _, hK.out _ ?_⟩
    clear hK K
    with_reducible (repeat (first | refine AW.seq ?_ | refine AW.block ?_ | refine AW.skip ?_ | refine AW.exit ?_ | refine AW.ret ?_ | refine AW.label ?_ | refine NX.then ?_ | refine NX.ret ?_ | refine NX.exit ?_ | refine NX.inRet ?_ | refine NX.inNormal ?_ | refine NX.inExit ?_ | refine NX.outExit (by decide) ?_))
    refine AW.re ty (by kernel_rfl) (by first | exact cx_N _ _ _ | assumption) (by first | exact cx_pz _ _ _ | assumption) 20 (by decide) (fun K hK => ?_)
    (try simp only [List.toList_toArray, toList_lit]); repeat (with_reducible refine AR.step (fun K1 K2 hK1 hK2 => ?_); simp [hgo]; (first | refine hK1.out _ _ ?_ | refine hK2.out _ ?_ | refine ⟨by kernel_rfl, hK2.out _ ?_⟩); clear hK1 hK2 K1 K2; simp [hgo]); (try with_reducible refine AR.nil ?_)
    refine ⟨chk_drawn (by kernel_rfl) (by kernel_rfl), hK.out _ ?_⟩
    clear hK K
    with_reducible (repeat (first | refine AW.seq ?_ | refine AW.block ?_ | refine AW.skip ?_ | refine AW.exit ?_ | refine AW.ret ?_ | refine AW.label ?_ | refine NX.then ?_ | refine NX.ret ?_ | refine NX.exit ?_ | refine NX.inRet ?_ | refine NX.inNormal ?_ | refine NX.inExit ?_ | refine NX.outExit (by decide) ?_))
    refine nx_ret (T := ty) (rs := [.tmp 4]) (zs := []) (ds := [dB false]) (rr := []) (.inr rfl) rfl (by kernel_rfl) (by kernel_rfl) (by simp) rfl
end Go.Proofs.Ytlkdkhmdmgchbaa
namespace Go.Proofs.Ytlkdkhmdmgchbaa
set_option linter.unusedSimpArgs false
set_option linter.unusedVariables false
open Go.RowKit
attribute [local simp ↓] arun_nil ob_some kva_av kfree_free khfree_free khown_own klive_live knm_false chk_true ya_true gsel_tt gsel_ff gsel_tf gsel_ft vb_bool vi_int vstr_string avps_ptr avps_seg avp_ptr avagg_agg avtup_tup avb_bool avown_own shs_struct shsa_struct shsa_arr sharr_arr shl_slice shla_slice shla_arr shls_slice shls_str shi_int bc_true bc_false hd1_cons opc_some opc_none opn_some opn_none unc_not unc_neg gd_none gd_some as_move as_assign as_pick as_bin as_un as_conv as_load as_faddr as_field as_extract as_iaddr as_slice as_alloc as_box as_store as_build as_rows as_call as_append as_lookup as_mapUpdate as_makeMap as_range as_next as_entry as_index as_fn as_len as_min as_max stMove stPick stBin stUn stConv stLoad stFaddr stField stExtract stIaddr stSlice stAlloc stBox stStore stBuild stIndex stRows stCall stAppend stFn stLen stMin stMax opd_tmp opd_const opd_func rawL_nil rawL_cons raw_c raw_st raw_a opr_e zr_nil zr_cons lvd_live hod_own obd_some obd_none kvd_av chd_true vid_int lk_cons lk_nil ins_nil ins_cons cells_zero cells_succ spread1_c spread1_own spread1_ptr spread1_fn spread1_seg spreadL_nil spreadL_cons spread_agg spread_c spread_own spread_seg spread_ptr spread_fn ex_zero ex_succ ops_e opb_none opb_int spreadD_agg spreadD_c spreadD_own spreadD_seg fillO_nil fillO_cons argsOf_nil argsOf_cons dvOf_c dvOf_seg dvOf_own dvOf_agg zrL_nil zrL_cons hdd_c hdd_seg hdd_own clz_e clv_raw clv_f callD_e dst0_n dst0_nil dst0_own goneH_e capc_ptr capc_seg capc_c capN_nil capN_cons capD_nil capD_cons deadZ_nil deadZ_cons
attribute [local simp] dok_some dok_none dflt_tmp dflt_vt dflt_cell dflt_zn dflt_nm dflt_hd dflt_df puts_nil puts_cons wr_some wr_none cst_agg cst_int cst_bool cst_string cst_slice cst_tuple cst_nilFunc cst_pointer cst_func bin_add bin_sub bin_mul bin_quo bin_rem bin_eql bin_neq bin_lss bin_leq bin_gtr bin_geq bin_bool bin_aggs binT_bool binT_aggs shbd_bool eqb_eql eqb_neq bin_slice bin_str_eql bin_str_neq bin_str_lss bin_str_add nz_v nz_n nz_s nz_p nz_f nz_st atz_v atz_n atz_s atz_p atz_f atz_st atz_agg atR_one atR_tup crow_nil crow_cons slc_c slc_n slc_own slc_nil raws setR placesT_nil placesT_cons zc chunk zsAll ocD_v ocD_n ocD_s ocD_p ocD_f ocD_st nrm_v nrm_n nrm_s nrm_p nrm_f nrm_st isV_one isV_tup isV_c isV_agg isV_v isV_n isV_s isV_p isV_f isV_st argRows Sh.agg zds_nil zds_e zds_v zds_s vcells_agg vcells_int vcells_bool vcells_string vcells_slice vcells_pointer toList_lit map_nilL map_consL nzr_e rowsOc_nil rowsOc_cons rowsOc_RD nzr_RD ty2 ty3 ty4 ty5 ty6 ty7 ty8 ty9 ty10 ty11 ty12 ty13 ty14 ty15 ty16 ty17 ty18 ty19 ty20 ty21 ty22 ty23 ty24 ty25 ty26 ty27 ty30 ty40 ty48 ty50 ty51 ty52 ty55 ty57 ty62 ty63 ty85 ty94 ty101 ty121 ty122 ty123 ty124 ty125 ty126 ty128 ty148 ty149 ty151 ty164 ty165 ty179 ty182 ty196 ty203 ty205 ty209 ty211 ty215 ty216 ty217 ty218 ty219 ty220 ty221 ty223 ty224 ty225 ty226 ty227 Value.oneCell'
set_option maxRecDepth 100000
abbrev uD (n : Int) : List D := [.v (.int .u64 n)]

set_option maxHeartbeats 4000000 in
theorem firsts1_ct (p : Pr) : Ct Try.prog 128 [PV p] none (.one (dU p.1)) := by
  refine ct_intro Try.func128 rfl Try.ntmps128 (by simp) (fun W0 Z => ?_)
  with_reducible (repeat (first | refine AW.seq ?_ | refine AW.block ?_ | refine AW.skip ?_ | refine AW.exit ?_ | refine AW.ret ?_ | refine AW.label ?_ | refine NX.then ?_ | refine NX.ret ?_ | refine NX.exit ?_ | refine NX.inRet ?_ | refine NX.inNormal ?_ | refine NX.inExit ?_ | refine NX.outExit (by decide) ?_))
  refine AW.at_ (fun L hL => ?_)
  simp at hL
  subst hL
  refine AW.re ty (by kernel_rfl) (by first | exact cx_N _ _ _ | assumption) (by first | exact cx_pz _ _ _ | assumption) 1 (by decide) (fun K hK => ?_)
  (try simp only [List.toList_toArray, toList_lit]); repeat (with_reducible refine AR.step (fun K1 K2 hK1 hK2 => ?_); simp; (first | refine hK1.out _ _ ?_ | refine hK2.out _ ?_ | refine ⟨by kernel_rfl, hK2.out _ ?_⟩); clear hK1 hK2 K1 K2; simp); (try with_reducible refine AR.nil ?_)
  refine ⟨chk_text _ _, hK.out _ ?_⟩
  clear hK K
  with_reducible (repeat (first | refine AW.seq ?_ | refine AW.block ?_ | refine AW.skip ?_ | refine AW.exit ?_ | refine AW.ret ?_ | refine AW.label ?_ | refine NX.then ?_ | refine NX.ret ?_ | refine NX.exit ?_ | refine NX.inRet ?_ | refine NX.inNormal ?_ | refine NX.inExit ?_ | refine NX.outExit (by decide) ?_))
  refine AW.re ty (by kernel_rfl) (by first | exact cx_N _ _ _ | assumption) (by first | exact cx_pz _ _ _ | assumption) 10 (by decide) (fun K hK => ?_)
  (try simp only [List.toList_toArray, toList_lit]); repeat (with_reducible refine AR.step (fun K1 K2 hK1 hK2 => ?_); simp; (first | refine hK1.out _ _ ?_ | refine hK2.out _ ?_ | refine ⟨by kernel_rfl, hK2.out _ ?_⟩); clear hK1 hK2 K1 K2; simp); (try with_reducible refine AR.nil ?_)
  refine ⟨chk_text _ _, hK.out _ ?_⟩
  clear hK K
  with_reducible (repeat (first | refine AW.seq ?_ | refine AW.block ?_ | refine AW.skip ?_ | refine AW.exit ?_ | refine AW.ret ?_ | refine AW.label ?_ | refine NX.then ?_ | refine NX.ret ?_ | refine NX.exit ?_ | refine NX.inRet ?_ | refine NX.inNormal ?_ | refine NX.inExit ?_ | refine NX.outExit (by decide) ?_))
  refine nx_ret (T := ty) (rs := [.tmp 2]) (zs := []) (ds := [dU p.1]) (rr := []) (.inr rfl) rfl (by kernel_rfl) (by kernel_rfl) (by simp) rfl
set_option maxHeartbeats 4000000 in
theorem seconds2_ct (p : Pr) : Ct Try.prog 126 [PV p] none (.one (dU p.2)) := by
  refine ct_intro Try.func126 rfl Try.ntmps126 (by simp) (fun W0 Z => ?_)
  with_reducible (repeat (first | refine AW.seq ?_ | refine AW.block ?_ | refine AW.skip ?_ | refine AW.exit ?_ | refine AW.ret ?_ | refine AW.label ?_ | refine NX.then ?_ | refine NX.ret ?_ | refine NX.exit ?_ | refine NX.inRet ?_ | refine NX.inNormal ?_ | refine NX.inExit ?_ | refine NX.outExit (by decide) ?_))
  refine AW.at_ (fun L hL => ?_)
  simp at hL
  subst hL
  refine AW.re ty (by kernel_rfl) (by first | exact cx_N _ _ _ | assumption) (by first | exact cx_pz _ _ _ | assumption) 1 (by decide) (fun K hK => ?_)
  (try simp only [List.toList_toArray, toList_lit]); repeat (with_reducible refine AR.step (fun K1 K2 hK1 hK2 => ?_); simp; (first | refine hK1.out _ _ ?_ | refine hK2.out _ ?_ | refine ⟨by kernel_rfl, hK2.out _ ?_⟩); clear hK1 hK2 K1 K2; simp); (try with_reducible refine AR.nil ?_)
  refine ⟨chk_text _ _, hK.out _ ?_⟩
  clear hK K
  with_reducible (repeat (first | refine AW.seq ?_ | refine AW.block ?_ | refine AW.skip ?_ | refine AW.exit ?_ | refine AW.ret ?_ | refine AW.label ?_ | refine NX.then ?_ | refine NX.ret ?_ | refine NX.exit ?_ | refine NX.inRet ?_ | refine NX.inNormal ?_ | refine NX.inExit ?_ | refine NX.outExit (by decide) ?_))
  refine AW.re ty (by kernel_rfl) (by first | exact cx_N _ _ _ | assumption) (by first | exact cx_pz _ _ _ | assumption) 10 (by decide) (fun K hK => ?_)
  (try simp only [List.toList_toArray, toList_lit]); repeat (with_reducible refine AR.step (fun K1 K2 hK1 hK2 => ?_); simp; (first | refine hK1.out _ _ ?_ | refine hK2.out _ ?_ | refine ⟨by kernel_rfl, hK2.out _ ?_⟩); clear hK1 hK2 K1 K2; simp); (try with_reducible refine AR.nil ?_)
  refine ⟨chk_text _ _, hK.out _ ?_⟩
  clear hK K
  with_reducible (repeat (first | refine AW.seq ?_ | refine AW.block ?_ | refine AW.skip ?_ | refine AW.exit ?_ | refine AW.ret ?_ | refine AW.label ?_ | refine NX.then ?_ | refine NX.ret ?_ | refine NX.exit ?_ | refine NX.inRet ?_ | refine NX.inNormal ?_ | refine NX.inExit ?_ | refine NX.outExit (by decide) ?_))
  refine nx_ret (T := ty) (rs := [.tmp 2]) (zs := []) (ds := [dU p.2]) (rr := []) (.inr rfl) rfl (by kernel_rfl) (by kernel_rfl) (by simp) rfl
set_option maxHeartbeats 4000000 in
theorem seconds1_ct (p : Pr) (s : Int) : Ct Try.prog 124 [PV p, .c (.p [.v (.int .u64 s)])] none (.one (dB (!decide (p.1 = s)))) := by
  refine ct_intro Try.func124 rfl Try.ntmps124 (by simp) (fun W0 Z => ?_)
  with_reducible (repeat (first | refine AW.seq ?_ | refine AW.block ?_ | refine AW.skip ?_ | refine AW.exit ?_ | refine AW.ret ?_ | refine AW.label ?_ | refine NX.then ?_ | refine NX.ret ?_ | refine NX.exit ?_ | refine NX.inRet ?_ | refine NX.inNormal ?_ | refine NX.inExit ?_ | refine NX.outExit (by decide) ?_))
  refine AW.at_ (fun L hL => ?_)
  simp at hL
  subst hL
  refine AW.re ty (by kernel_rfl) (by first | exact cx_N _ _ _ | assumption) (by first | exact cx_pz _ _ _ | assumption) 1 (by decide) (fun K hK => ?_)
  (try simp only [List.toList_toArray, toList_lit]); repeat (with_reducible refine AR.step (fun K1 K2 hK1 hK2 => ?_); simp; (first | refine hK1.out _ _ ?_ | refine hK2.out _ ?_ | refine ⟨by kernel_rfl, hK2.out _ ?_⟩); clear hK1 hK2 K1 K2; simp); (try with_reducible refine AR.nil ?_)
  refine ⟨chk_text _ _, hK.out _ ?_⟩
  clear hK K
  with_reducible (repeat (first | refine AW.seq ?_ | refine AW.block ?_ | refine AW.skip ?_ | refine AW.exit ?_ | refine AW.ret ?_ | refine AW.label ?_ | refine NX.then ?_ | refine NX.ret ?_ | refine NX.exit ?_ | refine NX.inRet ?_ | refine NX.inNormal ?_ | refine NX.inExit ?_ | refine NX.outExit (by decide) ?_))
  refine AW.re ty (by kernel_rfl) (by first | exact cx_N _ _ _ | assumption) (by first | exact cx_pz _ _ _ | assumption) 10 (by decide) (fun K hK => ?_)
  (try simp only [List.toList_toArray, toList_lit]); repeat (with_reducible refine AR.step (fun K1 K2 hK1 hK2 => ?_); simp; (first | refine hK1.out _ _ ?_ | refine hK2.out _ ?_ | refine ⟨by kernel_rfl, hK2.out _ ?_⟩); clear hK1 hK2 K1 K2; simp); (try with_reducible refine AR.nil ?_)
  refine ⟨chk_text _ _, hK.out _ ?_⟩
  clear hK K
  with_reducible (repeat (first | refine AW.seq ?_ | refine AW.block ?_ | refine AW.skip ?_ | refine AW.exit ?_ | refine AW.ret ?_ | refine AW.label ?_ | refine NX.then ?_ | refine NX.ret ?_ | refine NX.exit ?_ | refine NX.inRet ?_ | refine NX.inNormal ?_ | refine NX.inExit ?_ | refine NX.outExit (by decide) ?_))
  refine nx_ret (T := ty) (rs := [.tmp 3]) (zs := []) (ds := [dB (!decide (p.1 = s))]) (rr := []) (.inr rfl) rfl (by kernel_rfl) (by kernel_rfl) (by simp) rfl
def gf1S (l : List Pr) (k : Nat) : Row := [(.zn 0, .zn .live), (.zn 900, .zn .live), (.hd 900, .hd (.own 50 1 900 [] (mapR (fun p => uD p.1) l k))),
  (.tmp 1, .av (.c [] (.v (.func (.func 128) #[] #[])))), (.tmp 5, .av (.own 900)), (.tmp 8, .av (.c [0] (RD l))), (.tmp 9, .av (.c [] (.v (.int .i64 l.length)))), (.tmp 10, .av (.c [] (.v (.int .i64 k))))]
set_option maxHeartbeats 4000000 in
theorem gath1_ct (l : List Pr) (hn : l.length ≤ 1000000) : Ct Try.prog 125 [.c (RD l), .c (.v (.func (.func 128) #[] #[]))] (some 50) (.one (.c (UD (l.map (fun p => p.1))))) := by
  refine ct_intro Try.func125 rfl Try.ntmps125 (by simp) (fun W0 Z => ?_)
  with_reducible (repeat (first | refine AW.seq ?_ | refine AW.block ?_ | refine AW.skip ?_ | refine AW.exit ?_ | refine AW.ret ?_ | refine AW.label ?_ | refine NX.then ?_ | refine NX.ret ?_ | refine NX.exit ?_ | refine NX.inRet ?_ | refine NX.inNormal ?_ | refine NX.inExit ?_ | refine NX.outExit (by decide) ?_))
  refine AW.at_ (fun L hL => ?_)
  simp at hL
  subst hL
  refine AW.re ty (by kernel_rfl) (by first | exact cx_N _ _ _ | assumption) (by first | exact cx_pz _ _ _ | assumption) 1 (by decide) (fun K hK => ?_)
  (try simp only [List.toList_toArray, toList_lit]); repeat (with_reducible refine AR.step (fun K1 K2 hK1 hK2 => ?_); simp; (first | refine hK1.out _ _ ?_ | refine hK2.out _ ?_ | refine ⟨by kernel_rfl, hK2.out _ ?_⟩); clear hK1 hK2 K1 K2; simp); (try with_reducible refine AR.nil ?_)
  refine ⟨chk_text _ _, hK.out _ ?_⟩
  clear hK K
  with_reducible (repeat (first | refine AW.seq ?_ | refine AW.block ?_ | refine AW.skip ?_ | refine AW.exit ?_ | refine AW.ret ?_ | refine AW.label ?_ | refine NX.then ?_ | refine NX.ret ?_ | refine NX.exit ?_ | refine NX.inRet ?_ | refine NX.inNormal ?_ | refine NX.inExit ?_ | refine NX.outExit (by decide) ?_))
  refine AW.re ty (by kernel_rfl) (by first | exact cx_N _ _ _ | assumption) (by first | exact cx_pz _ _ _ | assumption) 10 (by decide) (fun K hK => ?_)
  (try simp only [List.toList_toArray, toList_lit]); repeat (with_reducible refine AR.step (fun K1 K2 hK1 hK2 => ?_); simp; (first | refine hK1.out _ _ ?_ | refine hK2.out _ ?_ | refine ⟨by kernel_rfl, hK2.out _ ?_⟩); clear hK1 hK2 K1 K2; simp); (try with_reducible refine AR.nil ?_)
  refine ⟨chk_text _ _, hK.out _ ?_⟩
  clear hK K
  with_reducible (repeat (first | refine AW.seq ?_ | refine AW.block ?_ | refine AW.skip ?_ | refine AW.exit ?_ | refine AW.ret ?_ | refine AW.label ?_ | refine NX.then ?_ | refine NX.ret ?_ | refine NX.exit ?_ | refine NX.inRet ?_ | refine NX.inNormal ?_ | refine NX.inExit ?_ | refine NX.outExit (by decide) ?_))
  refine AW.re ty (by kernel_rfl) (by first | exact cx_N _ _ _ | assumption) (by first | exact cx_pz _ _ _ | assumption) 20 (by decide) (fun K hK => ?_)
  (try simp only [List.toList_toArray, toList_lit]); repeat (with_reducible refine AR.step (fun K1 K2 hK1 hK2 => ?_); simp; (first | refine hK1.out _ _ ?_ | refine hK2.out _ ?_ | refine ⟨by kernel_rfl, hK2.out _ ?_⟩); clear hK1 hK2 K1 K2; simp); (try with_reducible refine AR.nil ?_)
  refine ⟨chk_text _ _, hK.out _ ?_⟩
  clear hK K
  with_reducible (repeat (first | refine AW.seq ?_ | refine AW.block ?_ | refine AW.skip ?_ | refine AW.exit ?_ | refine AW.ret ?_ | refine AW.label ?_ | refine NX.then ?_ | refine NX.ret ?_ | refine NX.exit ?_ | refine NX.inRet ?_ | refine NX.inNormal ?_ | refine NX.inExit ?_ | refine NX.outExit (by decide) ?_))
  refine AW.loop (X := { k : Nat // k ≤ l.length }) (fun x => gf1S l x.1) (fun x => l.length - x.1) ⟨0, by simp⟩ (fun _ _ h => AS.fold (fold_of (V := vw [] [(900, [])] [] [(900, none)]) (by first | exact cx_pz _ _ _ | assumption) (by kernel_rfl) (by rfl) (by simp [gf1S, mapR_0, foks_nil, foks_cons, fok_tmp, fok_vt, fok_cell, fok_nm, fok_zn, fok_hd, fok_df, Fv_c, Fv_seg, Fv_tup, Fv_agg, Fv_ptr, Fv_ptrs, Fv_fn, Fv_fnd, Fv_own, Fv_ownd, Fv_nown, Fv_vown, FvL_nil, FvL_cons, kvp_av, hdp_some, subz, frz, Uz, Nm, Uh, vw_nb, vw_zo, vw_zf, vw_hb, tb_nil, tb_cons, fzc_nil, fzc_cons, fzcaps_nil, fzcaps_cons])) h) (fun x => ?_)
  obtain ⟨k, hk⟩ := x
  refine AW.at_ (fun L hL => ?_)
  simp [gf1S] at hL
  subst hL
  with_reducible (repeat (first | refine AW.seq ?_ | refine AW.block ?_ | refine AW.skip ?_ | refine AW.exit ?_ | refine AW.ret ?_ | refine AW.label ?_ | refine NX.then ?_ | refine NX.ret ?_ | refine NX.exit ?_ | refine NX.inRet ?_ | refine NX.inNormal ?_ | refine NX.inExit ?_ | refine NX.outExit (by decide) ?_))
  by_cases hgo : k < l.length
  · skip
    refine AW.re ty (by kernel_rfl) (by first | exact cx_N _ _ _ | assumption) (by first | exact cx_pz _ _ _ | assumption) 200 (by decide) (fun K hK => ?_)
    (try simp only [List.toList_toArray, toList_lit]); repeat (with_reducible refine AR.step (fun K1 K2 hK1 hK2 => ?_); simp [hgo]; (first | refine hK1.out _ _ ?_ | refine hK2.out _ ?_ | refine ⟨by kernel_rfl, hK2.out _ ?_⟩); clear hK1 hK2 K1 K2; simp [hgo]); (try with_reducible refine AR.nil ?_)
    refine ⟨chk_text _ _, hK.out _ ?_⟩
    clear hK K
    with_reducible (repeat (first | refine AW.seq ?_ | refine AW.block ?_ | refine AW.skip ?_ | refine AW.exit ?_ | refine AW.ret ?_ | refine AW.label ?_ | refine NX.then ?_ | refine NX.ret ?_ | refine NX.exit ?_ | refine NX.inRet ?_ | refine NX.inNormal ?_ | refine NX.inExit ?_ | refine NX.outExit (by decide) ?_))
    refine AW.ct rfl ?_
    with_reducible (repeat (first | refine AW.seq ?_ | refine AW.block ?_ | refine AW.skip ?_ | refine AW.exit ?_ | refine AW.ret ?_ | refine AW.label ?_ | refine NX.then ?_ | refine NX.ret ?_ | refine NX.exit ?_ | refine NX.inRet ?_ | refine NX.inNormal ?_ | refine NX.inExit ?_ | refine NX.outExit (by decide) ?_))
    obtain ⟨x, hx⟩ : ∃ x, l[k] = x := ⟨_, rfl⟩
    have FT := mapR_s (fun p => uD p.1) l hgo
    rw [hx] at FT
    have FL := mapR_len (fun p => uD p.1) l k
    generalize mapR (fun p => uD p.1) l k = R at *
    refine AW.re ty (by kernel_rfl) (by first | exact cx_N _ _ _ | assumption) (by first | exact cx_pz _ _ _ | assumption) 210 (by decide) (fun K hK => ?_)
    (try simp only [List.toList_toArray, toList_lit]); repeat (with_reducible refine AR.step (fun K1 K2 hK1 hK2 => ?_); simp; (first | refine hK1.out _ _ ?_ | refine hK2.out _ ?_ | refine ⟨by kernel_rfl, hK2.out _ ?_⟩); clear hK1 hK2 K1 K2; simp); (try with_reducible refine AR.nil ?_)
    refine AR.step (fun K1 K2 hK1 hK2 => ?_)
    simp
    refine ⟨k, PD x, rfl, by simp [hgo, hx], ?_⟩
    refine hK1.out _ _ ?_
    clear hK1 hK2 K1 K2
    (try simp)
    (try simp only [List.toList_toArray, toList_lit]); repeat (with_reducible refine AR.step (fun K1 K2 hK1 hK2 => ?_); simp; (first | refine hK1.out _ _ ?_ | refine hK2.out _ ?_ | refine ⟨by kernel_rfl, hK2.out _ ?_⟩); clear hK1 hK2 K1 K2; simp); (try with_reducible refine AR.nil ?_)
    refine ⟨chk_text _ _, hK.out _ ?_⟩
    clear hK K
    with_reducible (repeat (first | refine AW.seq ?_ | refine AW.block ?_ | refine AW.skip ?_ | refine AW.exit ?_ | refine AW.ret ?_ | refine AW.label ?_ | refine NX.then ?_ | refine NX.ret ?_ | refine NX.exit ?_ | refine NX.inRet ?_ | refine NX.inNormal ?_ | refine NX.inExit ?_ | refine NX.outExit (by decide) ?_))
    have c1 := firsts1_ct x
    have w5 : IntKind.i64.wrap ((k : Int) + 1) = ((k + 1 : Nat) : Int) := by rw [i64_ok _ (by omega) (by omega)]; omega
    refine AW.re ty (by kernel_rfl) (by first | exact cx_N _ _ _ | assumption) (by first | exact cx_pz _ _ _ | assumption) 220 (by decide) (fun K hK => ?_)
    (try simp only [List.toList_toArray, toList_lit]); repeat (with_reducible refine AR.step (fun K1 K2 hK1 hK2 => ?_); simp; (first | refine hK1.out _ _ ?_ | refine hK2.out _ ?_ | refine ⟨by kernel_rfl, hK2.out _ ?_⟩); clear hK1 hK2 K1 K2; simp); (try with_reducible refine AR.nil ?_)
    refine AR.step (fun K1 K2 hK1 hK2 => ?_)
    simp
    refine orr_l ⟨by kernel_rfl, .inl ⟨_, c1, ?_⟩⟩
    (try simp)
    refine hK1.out _ _ ?_
    clear hK1 hK2 K1 K2
    (try simp)
    (try simp only [List.toList_toArray, toList_lit]); repeat (with_reducible refine AR.step (fun K1 K2 hK1 hK2 => ?_); simp; (first | refine hK1.out _ _ ?_ | refine hK2.out _ ?_ | refine ⟨by kernel_rfl, hK2.out _ ?_⟩); clear hK1 hK2 K1 K2; simp); (try with_reducible refine AR.nil ?_)
    refine AR.step (fun K1 K2 hK1 hK2 => ?_)
    simp
    refine ya_mk (by (simp [maxI]; omega)) ?_
    (try simp)
    refine hK1.out _ _ ?_
    clear hK1 hK2 K1 K2
    (try simp)
    (try simp only [List.toList_toArray, toList_lit]); repeat (with_reducible refine AR.step (fun K1 K2 hK1 hK2 => ?_); simp; (first | refine hK1.out _ _ ?_ | refine hK2.out _ ?_ | refine ⟨by kernel_rfl, hK2.out _ ?_⟩); clear hK1 hK2 K1 K2; simp); (try with_reducible refine AR.nil ?_)
    refine ⟨chk_text _ _, hK.out _ ?_⟩
    clear hK K
    with_reducible (repeat (first | refine AW.seq ?_ | refine AW.block ?_ | refine AW.skip ?_ | refine AW.exit ?_ | refine AW.ret ?_ | refine AW.label ?_ | refine NX.then ?_ | refine NX.ret ?_ | refine NX.exit ?_ | refine NX.inRet ?_ | refine NX.inNormal ?_ | refine NX.inExit ?_ | refine NX.outExit (by decide) ?_))
    refine AW.re ty (by kernel_rfl) (by first | exact cx_N _ _ _ | assumption) (by first | exact cx_pz _ _ _ | assumption) 240 (by decide) (fun K hK => ?_)
    (try simp only [List.toList_toArray, toList_lit]); repeat (with_reducible refine AR.step (fun K1 K2 hK1 hK2 => ?_); simp [w5]; (first | refine hK1.out _ _ ?_ | refine hK2.out _ ?_ | refine ⟨by kernel_rfl, hK2.out _ ?_⟩); clear hK1 hK2 K1 K2; simp [w5]); (try with_reducible refine AR.nil ?_)
    refine ⟨chk_text _ _, hK.out _ ?_⟩
    clear hK K
    with_reducible (repeat (first | refine AW.seq ?_ | refine AW.block ?_ | refine AW.skip ?_ | refine AW.exit ?_ | refine AW.ret ?_ | refine AW.label ?_ | refine NX.then ?_ | refine NX.ret ?_ | refine NX.exit ?_ | refine NX.inRet ?_ | refine NX.inNormal ?_ | refine NX.inExit ?_ | refine NX.outExit (by decide) ?_))
    exact NX.round ⟨k + 1, hgo⟩ (by show l.length - (k + 1) < l.length - k; omega) (fun _ _ h => AS.fold (fold_of (V := vw [] [(900, [225])] [] [(900, some 225)]) (by first | exact cx_pz _ _ _ | assumption) (by kernel_rfl) (by rfl) (by simp [gf1S, FT, foks_nil, foks_cons, fok_tmp, fok_vt, fok_cell, fok_nm, fok_zn, fok_hd, fok_df, Fv_c, Fv_seg, Fv_tup, Fv_agg, Fv_ptr, Fv_ptrs, Fv_fn, Fv_fnd, Fv_own, Fv_ownd, Fv_nown, Fv_vown, FvL_nil, FvL_cons, kvp_av, hdp_some, subz, frz, Uz, Nm, Uh, vw_nb, vw_zo, vw_zf, vw_hb, tb_nil, tb_cons, fzc_nil, fzc_cons, fzcaps_nil, fzcaps_cons])) h)
  · obtain rfl : k = l.length := by omega
    rw [mapR_all]
    have e2 : l.map (fun p => uD p.1) = (l.map (fun p => p.1)).map uD := by simp
    rw [e2]
    generalize l.map (fun p => p.1) = m
    refine AW.re ty (by kernel_rfl) (by first | exact cx_N _ _ _ | assumption) (by first | exact cx_pz _ _ _ | assumption) 300 (by decide) (fun K hK => ?_)
    (try simp only [List.toList_toArray, toList_lit]); repeat (with_reducible refine AR.step (fun K1 K2 hK1 hK2 => ?_); simp; (first | refine hK1.out _ _ ?_ | refine hK2.out _ ?_ | refine ⟨by kernel_rfl, hK2.out _ ?_⟩); clear hK1 hK2 K1 K2; simp); (try with_reducible refine AR.nil ?_)
    refine ⟨chk_text _ _, hK.out _ ?_⟩
    clear hK K
    with_reducible (repeat (first | refine AW.seq ?_ | refine AW.block ?_ | refine AW.skip ?_ | refine AW.exit ?_ | refine AW.ret ?_ | refine AW.label ?_ | refine NX.then ?_ | refine NX.ret ?_ | refine NX.exit ?_ | refine NX.inRet ?_ | refine NX.inNormal ?_ | refine NX.inExit ?_ | refine NX.outExit (by decide) ?_))
    refine AW.cf rfl ?_
    with_reducible (repeat (first | refine AW.seq ?_ | refine AW.block ?_ | refine AW.skip ?_ | refine AW.exit ?_ | refine AW.ret ?_ | refine AW.label ?_ | refine NX.then ?_ | refine NX.ret ?_ | refine NX.exit ?_ | refine NX.inRet ?_ | refine NX.inNormal ?_ | refine NX.inExit ?_ | refine NX.outExit (by decide) ?_))
    refine AW.re ty (by kernel_rfl) (by first | exact cx_N _ _ _ | assumption) (by first | exact cx_pz _ _ _ | assumption) 310 (by decide) (fun K hK => ?_)
    (try simp only [List.toList_toArray, toList_lit]); repeat (with_reducible refine AR.step (fun K1 K2 hK1 hK2 => ?_); simp; (first | refine hK1.out _ _ ?_ | refine hK2.out _ ?_ | refine ⟨by kernel_rfl, hK2.out _ ?_⟩); clear hK1 hK2 K1 K2; simp); (try with_reducible refine AR.nil ?_)
    refine ⟨chk_text _ _, hK.out _ ?_⟩
    clear hK K
    with_reducible (repeat (first | refine AW.seq ?_ | refine AW.block ?_ | refine AW.skip ?_ | refine AW.exit ?_ | refine AW.ret ?_ | refine AW.label ?_ | refine NX.then ?_ | refine NX.ret ?_ | refine NX.exit ?_ | refine NX.inRet ?_ | refine NX.inNormal ?_ | refine NX.inExit ?_ | refine NX.outExit (by decide) ?_))
    exact nx_reto (t := 4) (n := 900) (y := 900) (zs := []) (rr := [(.zn 900, .zn .live)]) (.inr rfl) rfl (by kernel_rfl) (by kernel_rfl) (by kernel_rfl) (by simp) rfl
def gf2S (l : List Pr) (k : Nat) : Row := [(.zn 0, .zn .live), (.zn 900, .zn .live), (.hd 900, .hd (.own 50 1 900 [] (mapR (fun p => uD p.2) l k))),
  (.tmp 1, .av (.c [] (.v (.func (.func 126) #[] #[])))), (.tmp 5, .av (.own 900)), (.tmp 8, .av (.c [0] (RD l))), (.tmp 9, .av (.c [] (.v (.int .i64 l.length)))), (.tmp 10, .av (.c [] (.v (.int .i64 k))))]
set_option maxHeartbeats 4000000 in
theorem gath2_ct (l : List Pr) (hn : l.length ≤ 1000000) : Ct Try.prog 125 [.c (RD l), .c (.v (.func (.func 126) #[] #[]))] (some 50) (.one (.c (UD (l.map (fun p => p.2))))) := by
  refine ct_intro Try.func125 rfl Try.ntmps125 (by simp) (fun W0 Z => ?_)
  with_reducible (repeat (first | refine AW.seq ?_ | refine AW.block ?_ | refine AW.skip ?_ | refine AW.exit ?_ | refine AW.ret ?_ | refine AW.label ?_ | refine NX.then ?_ | refine NX.ret ?_ | refine NX.exit ?_ | refine NX.inRet ?_ | refine NX.inNormal ?_ | refine NX.inExit ?_ | refine NX.outExit (by decide) ?_))
  refine AW.at_ (fun L hL => ?_)
  simp at hL
  subst hL
  refine AW.re ty (by kernel_rfl) (by first | exact cx_N _ _ _ | assumption) (by first | exact cx_pz _ _ _ | assumption) 1 (by decide) (fun K hK => ?_)
  (try simp only [List.toList_toArray, toList_lit]); repeat (with_reducible refine AR.step (fun K1 K2 hK1 hK2 => ?_); simp; (first | refine hK1.out _ _ ?_ | refine hK2.out _ ?_ | refine ⟨by kernel_rfl, hK2.out _ ?_⟩); clear hK1 hK2 K1 K2; simp); (try with_reducible refine AR.nil ?_)
  refine ⟨chk_text _ _, hK.out _ ?_⟩
  clear hK K
  with_reducible (repeat (first | refine AW.seq ?_ | refine AW.block ?_ | refine AW.skip ?_ | refine AW.exit ?_ | refine AW.ret ?_ | refine AW.label ?_ | refine NX.then ?_ | refine NX.ret ?_ | refine NX.exit ?_ | refine NX.inRet ?_ | refine NX.inNormal ?_ | refine NX.inExit ?_ | refine NX.outExit (by decide) ?_))
  refine AW.re ty (by kernel_rfl) (by first | exact cx_N _ _ _ | assumption) (by first | exact cx_pz _ _ _ | assumption) 10 (by decide) (fun K hK => ?_)
  (try simp only [List.toList_toArray, toList_lit]); repeat (with_reducible refine AR.step (fun K1 K2 hK1 hK2 => ?_); simp; (first | refine hK1.out _ _ ?_ | refine hK2.out _ ?_ | refine ⟨by kernel_rfl, hK2.out _ ?_⟩); clear hK1 hK2 K1 K2; simp); (try with_reducible refine AR.nil ?_)
  refine ⟨chk_text _ _, hK.out _ ?_⟩
  clear hK K
  with_reducible (repeat (first | refine AW.seq ?_ | refine AW.block ?_ | refine AW.skip ?_ | refine AW.exit ?_ | refine AW.ret ?_ | refine AW.label ?_ | refine NX.then ?_ | refine NX.ret ?_ | refine NX.exit ?_ | refine NX.inRet ?_ | refine NX.inNormal ?_ | refine NX.inExit ?_ | refine NX.outExit (by decide) ?_))
  refine AW.re ty (by kernel_rfl) (by first | exact cx_N _ _ _ | assumption) (by first | exact cx_pz _ _ _ | assumption) 20 (by decide) (fun K hK => ?_)
  (try simp only [List.toList_toArray, toList_lit]); repeat (with_reducible refine AR.step (fun K1 K2 hK1 hK2 => ?_); simp; (first | refine hK1.out _ _ ?_ | refine hK2.out _ ?_ | refine ⟨by kernel_rfl, hK2.out _ ?_⟩); clear hK1 hK2 K1 K2; simp); (try with_reducible refine AR.nil ?_)
  refine ⟨chk_text _ _, hK.out _ ?_⟩
  clear hK K
  with_reducible (repeat (first | refine AW.seq ?_ | refine AW.block ?_ | refine AW.skip ?_ | refine AW.exit ?_ | refine AW.ret ?_ | refine AW.label ?_ | refine NX.then ?_ | refine NX.ret ?_ | refine NX.exit ?_ | refine NX.inRet ?_ | refine NX.inNormal ?_ | refine NX.inExit ?_ | refine NX.outExit (by decide) ?_))
  refine AW.loop (X := { k : Nat // k ≤ l.length }) (fun x => gf2S l x.1) (fun x => l.length - x.1) ⟨0, by simp⟩ (fun _ _ h => AS.fold (fold_of (V := vw [] [(900, [])] [] [(900, none)]) (by first | exact cx_pz _ _ _ | assumption) (by kernel_rfl) (by rfl) (by simp [gf2S, mapR_0, foks_nil, foks_cons, fok_tmp, fok_vt, fok_cell, fok_nm, fok_zn, fok_hd, fok_df, Fv_c, Fv_seg, Fv_tup, Fv_agg, Fv_ptr, Fv_ptrs, Fv_fn, Fv_fnd, Fv_own, Fv_ownd, Fv_nown, Fv_vown, FvL_nil, FvL_cons, kvp_av, hdp_some, subz, frz, Uz, Nm, Uh, vw_nb, vw_zo, vw_zf, vw_hb, tb_nil, tb_cons, fzc_nil, fzc_cons, fzcaps_nil, fzcaps_cons])) h) (fun x => ?_)
  obtain ⟨k, hk⟩ := x
  refine AW.at_ (fun L hL => ?_)
  simp [gf2S] at hL
  subst hL
  with_reducible (repeat (first | refine AW.seq ?_ | refine AW.block ?_ | refine AW.skip ?_ | refine AW.exit ?_ | refine AW.ret ?_ | refine AW.label ?_ | refine NX.then ?_ | refine NX.ret ?_ | refine NX.exit ?_ | refine NX.inRet ?_ | refine NX.inNormal ?_ | refine NX.inExit ?_ | refine NX.outExit (by decide) ?_))
  by_cases hgo : k < l.length
  · skip
    refine AW.re ty (by kernel_rfl) (by first | exact cx_N _ _ _ | assumption) (by first | exact cx_pz _ _ _ | assumption) 200 (by decide) (fun K hK => ?_)
    (try simp only [List.toList_toArray, toList_lit]); repeat (with_reducible refine AR.step (fun K1 K2 hK1 hK2 => ?_); simp [hgo]; (first | refine hK1.out _ _ ?_ | refine hK2.out _ ?_ | refine ⟨by kernel_rfl, hK2.out _ ?_⟩); clear hK1 hK2 K1 K2; simp [hgo]); (try with_reducible refine AR.nil ?_)
    refine ⟨chk_text _ _, hK.out _ ?_⟩
    clear hK K
    with_reducible (repeat (first | refine AW.seq ?_ | refine AW.block ?_ | refine AW.skip ?_ | refine AW.exit ?_ | refine AW.ret ?_ | refine AW.label ?_ | refine NX.then ?_ | refine NX.ret ?_ | refine NX.exit ?_ | refine NX.inRet ?_ | refine NX.inNormal ?_ | refine NX.inExit ?_ | refine NX.outExit (by decide) ?_))
    refine AW.ct rfl ?_
    with_reducible (repeat (first | refine AW.seq ?_ | refine AW.block ?_ | refine AW.skip ?_ | refine AW.exit ?_ | refine AW.ret ?_ | refine AW.label ?_ | refine NX.then ?_ | refine NX.ret ?_ | refine NX.exit ?_ | refine NX.inRet ?_ | refine NX.inNormal ?_ | refine NX.inExit ?_ | refine NX.outExit (by decide) ?_))
    obtain ⟨x, hx⟩ : ∃ x, l[k] = x := ⟨_, rfl⟩
    have FT := mapR_s (fun p => uD p.2) l hgo
    rw [hx] at FT
    have FL := mapR_len (fun p => uD p.2) l k
    generalize mapR (fun p => uD p.2) l k = R at *
    refine AW.re ty (by kernel_rfl) (by first | exact cx_N _ _ _ | assumption) (by first | exact cx_pz _ _ _ | assumption) 210 (by decide) (fun K hK => ?_)
    (try simp only [List.toList_toArray, toList_lit]); repeat (with_reducible refine AR.step (fun K1 K2 hK1 hK2 => ?_); simp; (first | refine hK1.out _ _ ?_ | refine hK2.out _ ?_ | refine ⟨by kernel_rfl, hK2.out _ ?_⟩); clear hK1 hK2 K1 K2; simp); (try with_reducible refine AR.nil ?_)
    refine AR.step (fun K1 K2 hK1 hK2 => ?_)
    simp
    refine ⟨k, PD x, rfl, by simp [hgo, hx], ?_⟩
    refine hK1.out _ _ ?_
    clear hK1 hK2 K1 K2
    (try simp)
    (try simp only [List.toList_toArray, toList_lit]); repeat (with_reducible refine AR.step (fun K1 K2 hK1 hK2 => ?_); simp; (first | refine hK1.out _ _ ?_ | refine hK2.out _ ?_ | refine ⟨by kernel_rfl, hK2.out _ ?_⟩); clear hK1 hK2 K1 K2; simp); (try with_reducible refine AR.nil ?_)
    refine ⟨chk_text _ _, hK.out _ ?_⟩
    clear hK K
    with_reducible (repeat (first | refine AW.seq ?_ | refine AW.block ?_ | refine AW.skip ?_ | refine AW.exit ?_ | refine AW.ret ?_ | refine AW.label ?_ | refine NX.then ?_ | refine NX.ret ?_ | refine NX.exit ?_ | refine NX.inRet ?_ | refine NX.inNormal ?_ | refine NX.inExit ?_ | refine NX.outExit (by decide) ?_))
    have c1 := seconds2_ct x
    have w5 : IntKind.i64.wrap ((k : Int) + 1) = ((k + 1 : Nat) : Int) := by rw [i64_ok _ (by omega) (by omega)]; omega
    refine AW.re ty (by kernel_rfl) (by first | exact cx_N _ _ _ | assumption) (by first | exact cx_pz _ _ _ | assumption) 220 (by decide) (fun K hK => ?_)
    (try simp only [List.toList_toArray, toList_lit]); repeat (with_reducible refine AR.step (fun K1 K2 hK1 hK2 => ?_); simp; (first | refine hK1.out _ _ ?_ | refine hK2.out _ ?_ | refine ⟨by kernel_rfl, hK2.out _ ?_⟩); clear hK1 hK2 K1 K2; simp); (try with_reducible refine AR.nil ?_)
    refine AR.step (fun K1 K2 hK1 hK2 => ?_)
    simp
    refine orr_l ⟨by kernel_rfl, .inl ⟨_, c1, ?_⟩⟩
    (try simp)
    refine hK1.out _ _ ?_
    clear hK1 hK2 K1 K2
    (try simp)
    (try simp only [List.toList_toArray, toList_lit]); repeat (with_reducible refine AR.step (fun K1 K2 hK1 hK2 => ?_); simp; (first | refine hK1.out _ _ ?_ | refine hK2.out _ ?_ | refine ⟨by kernel_rfl, hK2.out _ ?_⟩); clear hK1 hK2 K1 K2; simp); (try with_reducible refine AR.nil ?_)
    refine AR.step (fun K1 K2 hK1 hK2 => ?_)
    simp
    refine ya_mk (by (simp [maxI]; omega)) ?_
    (try simp)
    refine hK1.out _ _ ?_
    clear hK1 hK2 K1 K2
    (try simp)
    (try simp only [List.toList_toArray, toList_lit]); repeat (with_reducible refine AR.step (fun K1 K2 hK1 hK2 => ?_); simp; (first | refine hK1.out _ _ ?_ | refine hK2.out _ ?_ | refine ⟨by kernel_rfl, hK2.out _ ?_⟩); clear hK1 hK2 K1 K2; simp); (try with_reducible refine AR.nil ?_)
    refine ⟨chk_text _ _, hK.out _ ?_⟩
    clear hK K
    with_reducible (repeat (first | refine AW.seq ?_ | refine AW.block ?_ | refine AW.skip ?_ | refine AW.exit ?_ | refine AW.ret ?_ | refine AW.label ?_ | refine NX.then ?_ | refine NX.ret ?_ | refine NX.exit ?_ | refine NX.inRet ?_ | refine NX.inNormal ?_ | refine NX.inExit ?_ | refine NX.outExit (by decide) ?_))
    refine AW.re ty (by kernel_rfl) (by first | exact cx_N _ _ _ | assumption) (by first | exact cx_pz _ _ _ | assumption) 240 (by decide) (fun K hK => ?_)
    (try simp only [List.toList_toArray, toList_lit]); repeat (with_reducible refine AR.step (fun K1 K2 hK1 hK2 => ?_); simp [w5]; (first | refine hK1.out _ _ ?_ | refine hK2.out _ ?_ | refine ⟨by kernel_rfl, hK2.out _ ?_⟩); clear hK1 hK2 K1 K2; simp [w5]); (try with_reducible refine AR.nil ?_)
    refine ⟨chk_text _ _, hK.out _ ?_⟩
    clear hK K
    with_reducible (repeat (first | refine AW.seq ?_ | refine AW.block ?_ | refine AW.skip ?_ | refine AW.exit ?_ | refine AW.ret ?_ | refine AW.label ?_ | refine NX.then ?_ | refine NX.ret ?_ | refine NX.exit ?_ | refine NX.inRet ?_ | refine NX.inNormal ?_ | refine NX.inExit ?_ | refine NX.outExit (by decide) ?_))
    exact NX.round ⟨k + 1, hgo⟩ (by show l.length - (k + 1) < l.length - k; omega) (fun _ _ h => AS.fold (fold_of (V := vw [] [(900, [225])] [] [(900, some 225)]) (by first | exact cx_pz _ _ _ | assumption) (by kernel_rfl) (by rfl) (by simp [gf2S, FT, foks_nil, foks_cons, fok_tmp, fok_vt, fok_cell, fok_nm, fok_zn, fok_hd, fok_df, Fv_c, Fv_seg, Fv_tup, Fv_agg, Fv_ptr, Fv_ptrs, Fv_fn, Fv_fnd, Fv_own, Fv_ownd, Fv_nown, Fv_vown, FvL_nil, FvL_cons, kvp_av, hdp_some, subz, frz, Uz, Nm, Uh, vw_nb, vw_zo, vw_zf, vw_hb, tb_nil, tb_cons, fzc_nil, fzc_cons, fzcaps_nil, fzcaps_cons])) h)
  · obtain rfl : k = l.length := by omega
    rw [mapR_all]
    have e2 : l.map (fun p => uD p.2) = (l.map (fun p => p.2)).map uD := by simp
    rw [e2]
    generalize l.map (fun p => p.2) = m
    refine AW.re ty (by kernel_rfl) (by first | exact cx_N _ _ _ | assumption) (by first | exact cx_pz _ _ _ | assumption) 300 (by decide) (fun K hK => ?_)
    (try simp only [List.toList_toArray, toList_lit]); repeat (with_reducible refine AR.step (fun K1 K2 hK1 hK2 => ?_); simp; (first | refine hK1.out _ _ ?_ | refine hK2.out _ ?_ | refine ⟨by kernel_rfl, hK2.out _ ?_⟩); clear hK1 hK2 K1 K2; simp); (try with_reducible refine AR.nil ?_)
    refine ⟨chk_text _ _, hK.out _ ?_⟩
    clear hK K
    with_reducible (repeat (first | refine AW.seq ?_ | refine AW.block ?_ | refine AW.skip ?_ | refine AW.exit ?_ | refine AW.ret ?_ | refine AW.label ?_ | refine NX.then ?_ | refine NX.ret ?_ | refine NX.exit ?_ | refine NX.inRet ?_ | refine NX.inNormal ?_ | refine NX.inExit ?_ | refine NX.outExit (by decide) ?_))
    refine AW.cf rfl ?_
    with_reducible (repeat (first | refine AW.seq ?_ | refine AW.block ?_ | refine AW.skip ?_ | refine AW.exit ?_ | refine AW.ret ?_ | refine AW.label ?_ | refine NX.then ?_ | refine NX.ret ?_ | refine NX.exit ?_ | refine NX.inRet ?_ | refine NX.inNormal ?_ | refine NX.inExit ?_ | refine NX.outExit (by decide) ?_))
    refine AW.re ty (by kernel_rfl) (by first | exact cx_N _ _ _ | assumption) (by first | exact cx_pz _ _ _ | assumption) 310 (by decide) (fun K hK => ?_)
    (try simp only [List.toList_toArray, toList_lit]); repeat (with_reducible refine AR.step (fun K1 K2 hK1 hK2 => ?_); simp; (first | refine hK1.out _ _ ?_ | refine hK2.out _ ?_ | refine ⟨by kernel_rfl, hK2.out _ ?_⟩); clear hK1 hK2 K1 K2; simp); (try with_reducible refine AR.nil ?_)
    refine ⟨chk_text _ _, hK.out _ ?_⟩
    clear hK K
    with_reducible (repeat (first | refine AW.seq ?_ | refine AW.block ?_ | refine AW.skip ?_ | refine AW.exit ?_ | refine AW.ret ?_ | refine AW.label ?_ | refine NX.then ?_ | refine NX.ret ?_ | refine NX.exit ?_ | refine NX.inRet ?_ | refine NX.inNormal ?_ | refine NX.inExit ?_ | refine NX.outExit (by decide) ?_))
    exact nx_reto (t := 4) (n := 900) (y := 900) (zs := []) (rr := [(.zn 900, .zn .live)]) (.inr rfl) rfl (by kernel_rfl) (by kernel_rfl) (by kernel_rfl) (by simp) rfl
end Go.Proofs.Ytlkdkhmdmgchbaa
namespace Go.Proofs.Ytlkdkhmdmgchbaa
set_option linter.unusedSimpArgs false
set_option linter.unusedVariables false
open Go.RowKit Go.Lib Go.Sort Go.Shelf

abbrev encU (n : Int) : Value := .int .u64 n
theorem rowat1_to {Z : Zone} {w : World} {v : Value} {l : List Int} {E : TypeId} (h : RowAt Z w v E 1 (l.map uD) True) : w.ownsRow 0 E 1 v l.length (l.map encU) := by
  obtain ⟨vals, h1, h2, h3, h4⟩ := h
  have hlen : vals.length = l.length := by simpa using h1.1
  have : vals = l.map encU := by
    refine List.ext_getElem (by simpa using hlen) fun t ht1 ht2 => ?_
    have ht : t < l.length := by omega
    have := (h4 trivial t (uD l[t]) 0 _ (by simp [ht]) rfl).raw
    simp only [Nat.mul_one, Nat.add_zero, List.getD_eq_getElem?_getD, List.getElem?_eq_getElem ht1, Option.getD_some] at this
    rw [this]; simp
  rw [this] at h1
  simpa using h1
/-- what Compact leaves of numbers. -/
def ddI (l : List Int) : List Int := compactUpTo l.toArray l.length
theorem ddI_len (l : List Int) : (ddI l).length ≤ l.length := by
  unfold ddI compactUpTo
  rw [List.length_map]
  refine Nat.le_trans (List.length_filter_le _ _) ?_
  simp
set_option maxRecDepth 100000 in
theorem compactU_nil (w : World) : Calls Try.prog 127 #[.slice none 0 0] w fun e w' => e = .returned (.slice none 0 0) ∧ w' = w := by
  go_enter Try.func127, Try.ntmps127
  go_wp2_with fail
  go_ret
  exact ⟨rfl, rfl⟩
theorem repd_u {Z : Zone} {w : World} {g n cap : Nat} {l : List Int} {cur : Array Value} {E : TypeId} (hz : Z g) (hg : w.heap[g]? = some (.cells cur E (0, 0))) (hn : n = l.length) (h1 : n ≤ cap) (h2 : cap ≤ maxI) (h3 : ∀ i (h : i < l.length), cur[i]? = some (encU l[i])) : RepD Z w (.slice (some ⟨g, 0, none⟩) n cap) (UD l) := by
  refine .row g 0 n cap 1 _ (fun i j => encU (l.getD i 0)) (by simpa using hn) h1 h2 (fun i r hr => ?_) (fun i r j x hi hj => ?_) (fun i r j x hi hj => ?_)
  · simp only [List.getElem?_map, Option.map_eq_some_iff] at hr
    obtain ⟨p, _, rfl⟩ := hr
    rfl
  · simp only [List.getElem?_map, Option.map_eq_some_iff] at hi
    obtain ⟨p, hp, rfl⟩ := hi
    obtain ⟨hlt, rfl⟩ := List.getElem?_eq_some_iff.1 hp
    match j, hj with
    | 0, hj =>
      refine ⟨hz, ?_⟩
      unfold World.cell?
      simp only [hg, Nat.zero_add, Nat.mul_one, Nat.add_zero, h3 i hlt]
      simp [hlt]
  · simp only [List.getElem?_map, Option.map_eq_some_iff] at hi
    obtain ⟨p, hp, rfl⟩ := hi
    obtain ⟨hlt, rfl⟩ := List.getElem?_eq_some_iff.1 hp
    match j, hj with
    | 0, hj =>
      simp at hj; subst hj
      have : l.getD i 0 = l[i] := by simp [hlt]
      rw [this]
      exact .v _
theorem compactU_own {Z : Zone} {w : World} {v : Value} {l : List Int} (h : RowAt Z w v 50 1 (l.map uD) True) (hn : l.length ≤ 1000000000) :
    Calls Try.prog 127 #[v] w fun e w' => ∃ v', e = .returned v' ∧ Keeps (fun k => v.ownBlock ≠ some k) w w' ∧ RepD (fun g => v.ownBlock = some g) w' v' (UD (ddI l)) ∧ ∀ g, v.ownBlock = some g → Soft w' g := by
  have how := rowat1_to h
  rcases how.2 with ⟨rfl, h0⟩ | ⟨g, cap, cur, rfl, -, hg, h1, h2, h3, h4⟩
  · have hl : l = [] := List.length_eq_zero_iff.1 h0
    subst hl
    refine (compactU_nil w).mono ?_
    rintro e w' ⟨rfl, rfl⟩
    exact ⟨_, rfl, Keeps.refl _ _, .nil _, fun g hg => by cases hg⟩
  · have hlt : g < w.heap.size := (Array.getElem?_eq_some_iff.1 hg).1
    have e0 : ∀ t, t < l.length → cur[t]? = (l.map encU)[t]? := fun t ht => by
      have := congrArg (fun x => x[t]?) h4
      simp only [Nat.mul_one] at this
      rw [List.getElem?_take, if_pos ht] at this
      rw [← this]; simp
    have hH : Holds encU w g 0 l.toArray := by
      intro j hj
      have hj' : j < l.length := by simpa using hj
      refine ⟨?_, ?_⟩
      · unfold World.cell?
        simp only [hg, Nat.zero_add, e0 j hj']
        simp [hj']
      · unfold World.frozen?
        simp only [hg]
        simp
    have hcon := AnyE.slices_Compact Try.compU encU (fun _ => rfl) (EqlAt.intD _ _ .u64) (NeqAt.intD _ _ .u64) 0 Try.zeroValue50 g 0 cap l.toArray w hH (by simp; omega) (by simpa using h1)
    change Calls Try.prog 127 _ _ _ at hcon
    have hs : l.toArray.size = l.length := by simp
    rw [hs] at hcon
    refine hcon.mono ?_
    rintro e w' ⟨rfl, q, hw⟩
    have hd := ddI_len l
    have hdd : compactUpTo l.toArray l.length = ddI l := rfl
    rw [hdd] at hw ⊢
    have hsz : (ddI l ++ List.replicate (l.length - (ddI l).length) (0 : Int)).toArray.size = l.length := by simp; omega
    have kb : w'.heap[g]? = some (.cells (putCells encU 0 (ddI l ++ List.replicate (l.length - (ddI l).length) (0 : Int)).toArray cur) 50 (0, 0)) := by
      rw [hw]
      unfold putRow mapBlock
      have : (Sort.ahead w q).heap[g]? = some (.cells cur 50 (0, 0)) := hg
      simp only [Array.getElem?_modify, if_true, this]
      rfl
    refine ⟨_, rfl, ⟨by rw [hw]; rfl, by rw [hw]; rfl, by rw [hw]; rfl, by rw [hw]; simp [Sort.ahead], fun k hk hne => ?_⟩, repd_u rfl kb rfl (by omega) h2 (fun i hi => ?_), fun k hk => ?_⟩
    · have hne' : g ≠ k := fun e => hne (by rw [e]; rfl)
      rw [hw]
      unfold putRow mapBlock
      simp only [Array.getElem?_modify]
      rw [if_neg hne']
      rfl
    · have hi2 : i < cur.size := by omega
      have e1 : (ddI l ++ List.replicate (l.length - (ddI l).length) (0 : Int)).toArray[i]! = (ddI l)[i] := by
        have hlt2 : i < (ddI l ++ List.replicate (l.length - (ddI l).length) (0 : Int)).toArray.size := by rw [hsz]; omega
        rw [getElem!_pos (ddI l ++ List.replicate (l.length - (ddI l).length) (0 : Int)).toArray i hlt2]
        rw [List.getElem_toArray, List.getElem_append_left hi]
      simp only [putCells, Array.getElem?_mapIdx, Array.getElem?_eq_getElem hi2, Option.map_some, Nat.zero_le, true_and, Nat.zero_add, Nat.sub_zero]
      rw [if_pos (by rw [hsz]; omega), e1]
    · cases hk
      exact .mk kb
end Go.Proofs.Ytlkdkhmdmgchbaa
