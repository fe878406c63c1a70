/- (second logic) RunTells: the walk. -/
import Derived.Test.YtlkdkhmdmgchbaaJV
import Derived.Test.YtlkdkhmdmgchbaaJY
namespace Go.Proofs.Ytlkdkhmdmgchbaa
set_option linter.unusedSimpArgs false
set_option linter.unusedVariables false
open Go.RowKit
attribute [local simp ↓] arun_nil ob_some kva_av kfree_free khfree_free khown_own klive_live knm_false chk_true ya_true gsel_tt gsel_ff gsel_tf gsel_ft vb_bool vi_int vstr_string avps_ptr avps_seg avp_ptr avagg_agg avtup_tup avb_bool avown_own shs_struct shsa_struct shsa_arr sharr_arr shl_slice shla_slice shla_arr shls_slice shls_str shi_int bc_true bc_false hd1_cons opc_some opc_none opn_some opn_none unc_not unc_neg gd_none gd_some as_move as_assign as_pick as_bin as_un as_conv as_load as_faddr as_field as_extract as_iaddr as_slice as_alloc as_box as_store as_build as_rows as_call as_append as_lookup as_mapUpdate as_makeMap as_range as_next as_entry as_index as_fn as_len as_min as_max stMove stPick stBin stUn stConv stLoad stFaddr stField stExtract stIaddr stSlice stAlloc stBox stStore stBuild stIndex stRows stCall stAppend stFn stLen stMin stMax opd_tmp opd_const opd_func rawL_nil rawL_cons raw_c raw_st raw_a opr_e zr_nil zr_cons lvd_live hod_own obd_some obd_none kvd_av chd_true vid_int lk_cons lk_nil ins_nil ins_cons cells_zero cells_succ spread1_c spread1_own spread1_ptr spread1_fn spread1_seg spreadL_nil spreadL_cons spread_agg spread_c spread_own spread_seg spread_ptr spread_fn ex_zero ex_succ ops_e opb_none opb_int spreadD_agg spreadD_c spreadD_own spreadD_seg fillO_nil fillO_cons argsOf_nil argsOf_cons dvOf_c dvOf_seg dvOf_own dvOf_agg zrL_nil zrL_cons hdd_c hdd_seg hdd_own clz_e clv_raw clv_f callD_e dst0_n dst0_nil dst0_own goneH_e capc_ptr capc_seg capc_c capN_nil capN_cons capD_nil capD_cons deadZ_nil deadZ_cons
attribute [local simp] dok_some dok_none dflt_tmp dflt_vt dflt_cell dflt_zn dflt_nm dflt_hd dflt_df puts_nil puts_cons wr_some wr_none cst_agg cst_int cst_bool cst_string cst_slice cst_tuple cst_nilFunc cst_pointer cst_func bin_add bin_sub bin_mul bin_quo bin_rem bin_eql bin_neq bin_lss bin_leq bin_gtr bin_geq bin_bool bin_aggs binT_bool binT_aggs shbd_bool eqb_eql eqb_neq bin_slice bin_str_eql bin_str_neq bin_str_lss bin_str_add nz_v nz_n nz_s nz_p nz_f nz_st atz_v atz_n atz_s atz_p atz_f atz_st atz_agg atR_one atR_tup crow_nil crow_cons slc_c slc_n slc_own slc_nil raws setR placesT_nil placesT_cons zc chunk zsAll ocD_v ocD_n ocD_s ocD_p ocD_f ocD_st nrm_v nrm_n nrm_s nrm_p nrm_f nrm_st isV_one isV_tup isV_c isV_agg isV_v isV_n isV_s isV_p isV_f isV_st argRows Sh.agg zds_nil zds_e zds_v zds_s vcells_agg vcells_int vcells_bool vcells_string vcells_slice vcells_pointer toList_lit map_nilL map_consL nzr_e rowsOc_nil rowsOc_cons rowsOc_RD nzr_RD ty2 ty3 ty4 ty5 ty6 ty7 ty8 ty9 ty10 ty11 ty12 ty13 ty14 ty15 ty16 ty17 ty18 ty19 ty20 ty21 ty22 ty23 ty24 ty25 ty26 ty27 ty30 ty40 ty48 ty50 ty51 ty52 ty55 ty57 ty62 ty63 ty85 ty94 ty101 ty121 ty122 ty123 ty124 ty125 ty126 ty128 ty148 ty149 ty151 ty164 ty165 ty179 ty182 ty196 ty203 ty205 ty209 ty211 ty215 ty216 ty217 ty218 ty219 ty220 ty221 ty223 ty224 ty225 ty226 ty227 Value.oneCell'
set_option maxRecDepth 100000
def tlB (l m q : List Pr) (nums : List Int) (b : Bool) (ka : AV) : Row := [(.zn 0, .zn .live), (.tmp 0, .av (.c [0] (RD l))), (.tmp 2, .av (.c [0] (UD nums))), (.zn 21, .zn .live), (.zn 100021, .zn .live), (.hd 21, .hd (.own 52 2 21 [100021] (m.map PD))), (.tmp 7, .av (.own 21)),
  (.tmp 8, .av (.c [] (.v (.bool b)))), (.tmp 9, .av ka), (.zn 41, .zn .live), (.zn 100041, .zn .live), (.hd 41, .hd (.own 52 2 41 [100041] (q.map PD))), (.tmp 1, .av (.own 41))]
def tlO (l m q : List Pr) (nums : List Int) (b : Bool) (ka : AV) (k : Nat) : Row := [(.tmp 29, .av (.own 41)), (.tmp 30, .av (.c [] (.v (.int .i64 q.length)))), (.tmp 31, .av (.c [] (.v (.int .i64 k))))] ++ tlB l m q nums b ka
def tlN (l m q : List Pr) (nums : List Int) (b : Bool) (ka : AV) (k : Nat) : Row := [(.tmp 81, .av (.c [0] (UD nums))), (.tmp 82, .av (.c [] (.v (.int .i64 nums.length)))), (.tmp 83, .av (.c [] (.v (.int .i64 k))))] ++ tlB l m q nums b ka
set_option maxHeartbeats 16000000 in
theorem tells_no (l m q : List Pr) (nums : List Int) (hm : l.take 40 = m) (pairs : List Pr) (hq : pairs.take 40 = q) (hml : m.length ≤ 40) (hql : q.length ≤ 40) (hN : nums.length ≤ maxI) (hr : rightL m = false) : Ct Try.prog 11 [.c (RD l), .c (RD pairs), .c (UD nums)] none (.one (dB true)) := by
  have cw := wakes03_ct
  have cf := few03_ct l
  rw [hm] at cf
  have cq := few03_ct pairs
  rw [hq] at cq
  have cr := rright_ct m
  rw [hr] at cr
  have gotn := fun p q => between_n m p q hr
  have hasn := fun p => has_wrong m p hr (by omega)
  have rhasn : ∀ p, Ct Try.prog 67 [.c (.v (.slice none 0 0)), PV p] none (.one (dB false)) := fun p => Ct.niln (sz := 2) (by have h := rhas_ct [] p; simp at h; exact h)
  have btn : ∀ p q, Ct Try.prog 68 [.c (.v (.slice none 0 0)), PV p, PV q] (some 52) (.one (.c (RD []))) := fun p q => Ct.niln (sz := 2) (rbetween_ct [] p q (by simp))
  have eqn : Ct Try.prog 40 [.c (.v (.slice none 0 0)), .c (RD [])] none (.one (dB true)) := Ct.niln (sz := 2) (by have h := equal_ct [] []; simp at h; exact h)
  have sen := fun a => seconds_ct' m a hr
  have rsen : ∀ a, Ct Try.prog 71 [.c (.v (.slice none 0 0)), dU a] (some 50) (.one (.c (UD []))) := fun a => Ct.niln (sz := 2) (rseconds_ct [] a (by simp))
  have equn : Ct Try.prog 69 [.c (.v (.slice none 0 0)), .c (UD [])] none (.one (dB true)) := Ct.niln (sz := 1) (by have h := equalU_ct [] [] (by simp) (by simp); simp at h; exact h)
  have ctn := turn_ct' m hr
  have crt : Ct Try.prog 72 [.c (.v (.slice none 0 0))] (some 52) (.one (.c (RD []))) := Ct.niln (sz := 2) (rturn_ct [] (by simp))
  have cfi := firsts_ct' m hr
  have crf : Ct Try.prog 74 [.c (.v (.slice none 0 0))] (some 50) (.one (.c (UD []))) := Ct.niln (sz := 2) (rfirsts_ct [] (by simp))
  have cem := equal_ct m m
  rw [decide_eq_true rfl] at cem
  have ceq := eqn
  have cefi := equn
  refine ct_intro Try.func11 rfl Try.ntmps11 (by simp) (fun W0 Z => ?_)
  with_reducible (repeat (first | refine AW.seq ?_ | refine AW.block ?_ | refine AW.skip ?_ | refine AW.exit ?_ | refine AW.ret ?_ | refine AW.label ?_ | refine NX.then ?_ | refine NX.ret ?_ | refine NX.exit ?_ | refine NX.inRet ?_ | refine NX.inNormal ?_ | refine NX.inExit ?_ | refine NX.outExit (by decide) ?_))
  refine AW.at_ (fun L hL => ?_)
  simp at hL
  subst hL
  refine AW.re ty (by kernel_rfl) (by first | exact cx_N _ _ _ | assumption) (by first | exact cx_pz _ _ _ | assumption) 1 (by decide) (fun K hK => ?_)
  (try simp only [List.toList_toArray, toList_lit]); repeat (with_reducible refine AR.step (fun K1 K2 hK1 hK2 => ?_); simp; (first | refine hK1.out _ _ ?_ | refine hK2.out _ ?_ | refine ⟨by kernel_rfl, hK2.out _ ?_⟩); clear hK1 hK2 K1 K2; simp); (try with_reducible refine AR.nil ?_)
  refine ⟨chk_text _ _, hK.out _ ?_⟩
  clear hK K
  with_reducible (repeat (first | refine AW.seq ?_ | refine AW.block ?_ | refine AW.skip ?_ | refine AW.exit ?_ | refine AW.ret ?_ | refine AW.label ?_ | refine NX.then ?_ | refine NX.ret ?_ | refine NX.exit ?_ | refine NX.inRet ?_ | refine NX.inNormal ?_ | refine NX.inExit ?_ | refine NX.outExit (by decide) ?_))
  refine AW.re ty (by kernel_rfl) (by first | exact cx_N _ _ _ | assumption) (by first | exact cx_pz _ _ _ | assumption) 10 (by decide) (fun K hK => ?_)
  (try simp only [List.toList_toArray, toList_lit]); repeat (with_reducible refine AR.step (fun K1 K2 hK1 hK2 => ?_); simp; (first | refine hK1.out _ _ ?_ | refine hK2.out _ ?_ | refine ⟨by kernel_rfl, hK2.out _ ?_⟩); clear hK1 hK2 K1 K2; simp); (try with_reducible refine AR.nil ?_)
  refine AR.step (fun K1 K2 hK1 hK2 => ?_)
  simp
  refine orr_l ⟨by kernel_rfl, .inl ⟨_, cw, ?_⟩⟩
  (try simp)
  refine hK1.out _ _ ?_
  clear hK1 hK2 K1 K2
  (try simp)
  (try simp only [List.toList_toArray, toList_lit]); repeat (with_reducible refine AR.step (fun K1 K2 hK1 hK2 => ?_); simp; (first | refine hK1.out _ _ ?_ | refine hK2.out _ ?_ | refine ⟨by kernel_rfl, hK2.out _ ?_⟩); clear hK1 hK2 K1 K2; simp); (try with_reducible refine AR.nil ?_)
  refine ⟨chk_text _ _, hK.out _ ?_⟩
  clear hK K
  with_reducible (repeat (first | refine AW.seq ?_ | refine AW.block ?_ | refine AW.skip ?_ | refine AW.exit ?_ | refine AW.ret ?_ | refine AW.label ?_ | refine NX.then ?_ | refine NX.ret ?_ | refine NX.exit ?_ | refine NX.inRet ?_ | refine NX.inNormal ?_ | refine NX.inExit ?_ | refine NX.outExit (by decide) ?_))
  refine AW.cf rfl ?_
  with_reducible (repeat (first | refine AW.seq ?_ | refine AW.block ?_ | refine AW.skip ?_ | refine AW.exit ?_ | refine AW.ret ?_ | refine AW.label ?_ | refine NX.then ?_ | refine NX.ret ?_ | refine NX.exit ?_ | refine NX.inRet ?_ | refine NX.inNormal ?_ | refine NX.inExit ?_ | refine NX.outExit (by decide) ?_))
  refine AW.re ty (by kernel_rfl) (by first | exact cx_N _ _ _ | assumption) (by first | exact cx_pz _ _ _ | assumption) 20 (by decide) (fun K hK => ?_)
  (try simp only [List.toList_toArray, toList_lit]); repeat (with_reducible refine AR.step (fun K1 K2 hK1 hK2 => ?_); simp; (first | refine hK1.out _ _ ?_ | refine hK2.out _ ?_ | refine ⟨by kernel_rfl, hK2.out _ ?_⟩); clear hK1 hK2 K1 K2; simp); (try with_reducible refine AR.nil ?_)
  refine AR.step (fun K1 K2 hK1 hK2 => ?_)
  simp
  refine orr_l ⟨by kernel_rfl, .inr (.inl ⟨_, _, _, cf, ?_⟩)⟩
  (try simp)
  refine hK1.out _ _ ?_
  clear hK1 hK2 K1 K2
  (try simp)
  (try simp only [List.toList_toArray, toList_lit]); repeat (with_reducible refine AR.step (fun K1 K2 hK1 hK2 => ?_); simp; (first | refine hK1.out _ _ ?_ | refine hK2.out _ ?_ | refine ⟨by kernel_rfl, hK2.out _ ?_⟩); clear hK1 hK2 K1 K2; simp); (try with_reducible refine AR.nil ?_)
  refine ⟨chk_text _ _, hK.out _ ?_⟩
  clear hK K
  with_reducible (repeat (first | refine AW.seq ?_ | refine AW.block ?_ | refine AW.skip ?_ | refine AW.exit ?_ | refine AW.ret ?_ | refine AW.label ?_ | refine NX.then ?_ | refine NX.ret ?_ | refine NX.exit ?_ | refine NX.inRet ?_ | refine NX.inNormal ?_ | refine NX.inExit ?_ | refine NX.outExit (by decide) ?_))
  refine AW.re ty (by kernel_rfl) (by first | exact cx_N _ _ _ | assumption) (by first | exact cx_pz _ _ _ | assumption) 24 (by decide) (fun K hK => ?_)
  (try simp only [List.toList_toArray, toList_lit]); repeat (with_reducible refine AR.step (fun K1 K2 hK1 hK2 => ?_); simp; (first | refine hK1.out _ _ ?_ | refine hK2.out _ ?_ | refine ⟨by kernel_rfl, hK2.out _ ?_⟩); clear hK1 hK2 K1 K2; simp); (try with_reducible refine AR.nil ?_)
  refine AR.step (fun K1 K2 hK1 hK2 => ?_)
  simp
  refine orr_l ⟨by kernel_rfl, .inl ⟨_, cr, ?_⟩⟩
  (try simp)
  refine hK1.out _ _ ?_
  clear hK1 hK2 K1 K2
  (try simp)
  (try simp only [List.toList_toArray, toList_lit]); repeat (with_reducible refine AR.step (fun K1 K2 hK1 hK2 => ?_); simp; (first | refine hK1.out _ _ ?_ | refine hK2.out _ ?_ | refine ⟨by kernel_rfl, hK2.out _ ?_⟩); clear hK1 hK2 K1 K2; simp); (try with_reducible refine AR.nil ?_)
  refine ⟨chk_text _ _, hK.out _ ?_⟩
  clear hK K
  with_reducible (repeat (first | refine AW.seq ?_ | refine AW.block ?_ | refine AW.skip ?_ | refine AW.exit ?_ | refine AW.ret ?_ | refine AW.label ?_ | refine NX.then ?_ | refine NX.ret ?_ | refine NX.exit ?_ | refine NX.inRet ?_ | refine NX.inNormal ?_ | refine NX.inExit ?_ | refine NX.outExit (by decide) ?_))
  refine AW.re ty (by kernel_rfl) (by first | exact cx_N _ _ _ | assumption) (by first | exact cx_pz _ _ _ | assumption) 30 (by decide) (fun K hK => ?_)
  (try simp only [List.toList_toArray, toList_lit]); repeat (with_reducible refine AR.step (fun K1 K2 hK1 hK2 => ?_); simp; (first | refine hK1.out _ _ ?_ | refine hK2.out _ ?_ | refine ⟨by kernel_rfl, hK2.out _ ?_⟩); clear hK1 hK2 K1 K2; simp); (try with_reducible refine AR.nil ?_)
  refine ⟨chk_text _ _, hK.out _ ?_⟩
  clear hK K
  with_reducible (repeat (first | refine AW.seq ?_ | refine AW.block ?_ | refine AW.skip ?_ | refine AW.exit ?_ | refine AW.ret ?_ | refine AW.label ?_ | refine NX.then ?_ | refine NX.ret ?_ | refine NX.exit ?_ | refine NX.inRet ?_ | refine NX.inNormal ?_ | refine NX.inExit ?_ | refine NX.outExit (by decide) ?_))
  refine AW.re ty (by kernel_rfl) (by first | exact cx_N _ _ _ | assumption) (by first | exact cx_pz _ _ _ | assumption) 32 (by decide) (fun K hK => ?_)
  (try simp only [List.toList_toArray, toList_lit]); repeat (with_reducible refine AR.step (fun K1 K2 hK1 hK2 => ?_); simp; (first | refine hK1.out _ _ ?_ | refine hK2.out _ ?_ | refine ⟨by kernel_rfl, hK2.out _ ?_⟩); clear hK1 hK2 K1 K2; simp); (try with_reducible refine AR.nil ?_)
  refine ⟨chk_text _ _, hK.out _ ?_⟩
  clear hK K
  with_reducible (repeat (first | refine AW.seq ?_ | refine AW.block ?_ | refine AW.skip ?_ | refine AW.exit ?_ | refine AW.ret ?_ | refine AW.label ?_ | refine NX.then ?_ | refine NX.ret ?_ | refine NX.exit ?_ | refine NX.inRet ?_ | refine NX.inNormal ?_ | refine NX.inExit ?_ | refine NX.outExit (by decide) ?_))
  refine AW.cf rfl ?_
  with_reducible (repeat (first | refine AW.seq ?_ | refine AW.block ?_ | refine AW.skip ?_ | refine AW.exit ?_ | refine AW.ret ?_ | refine AW.label ?_ | refine NX.then ?_ | refine NX.ret ?_ | refine NX.exit ?_ | refine NX.inRet ?_ | refine NX.inNormal ?_ | refine NX.inExit ?_ | refine NX.outExit (by decide) ?_))
  refine AW.re ty (by kernel_rfl) (by first | exact cx_N _ _ _ | assumption) (by first | exact cx_pz _ _ _ | assumption) 40 (by decide) (fun K hK => ?_)
  (try simp only [List.toList_toArray, toList_lit]); repeat (with_reducible refine AR.step (fun K1 K2 hK1 hK2 => ?_); simp; (first | refine hK1.out _ _ ?_ | refine hK2.out _ ?_ | refine ⟨by kernel_rfl, hK2.out _ ?_⟩); clear hK1 hK2 K1 K2; simp); (try with_reducible refine AR.nil ?_)
  refine AR.step (fun K1 K2 hK1 hK2 => ?_)
  simp
  refine orr_l ⟨by kernel_rfl, .inr (.inl ⟨_, _, _, cq, ?_⟩)⟩
  (try simp)
  refine hK1.out _ _ ?_
  clear hK1 hK2 K1 K2
  (try simp)
  (try simp only [List.toList_toArray, toList_lit]); repeat (with_reducible refine AR.step (fun K1 K2 hK1 hK2 => ?_); simp; (first | refine hK1.out _ _ ?_ | refine hK2.out _ ?_ | refine ⟨by kernel_rfl, hK2.out _ ?_⟩); clear hK1 hK2 K1 K2; simp); (try with_reducible refine AR.nil ?_)
  refine ⟨chk_text _ _, hK.out _ ?_⟩
  clear hK K
  with_reducible (repeat (first | refine AW.seq ?_ | refine AW.block ?_ | refine AW.skip ?_ | refine AW.exit ?_ | refine AW.ret ?_ | refine AW.label ?_ | refine NX.then ?_ | refine NX.ret ?_ | refine NX.exit ?_ | refine NX.inRet ?_ | refine NX.inNormal ?_ | refine NX.inExit ?_ | refine NX.outExit (by decide) ?_))
  refine AW.re ty (by kernel_rfl) (by first | exact cx_N _ _ _ | assumption) (by first | exact cx_pz _ _ _ | assumption) 50 (by decide) (fun K hK => ?_)
  (try simp only [List.toList_toArray, toList_lit]); repeat (with_reducible refine AR.step (fun K1 K2 hK1 hK2 => ?_); simp; (first | refine hK1.out _ _ ?_ | refine hK2.out _ ?_ | refine ⟨by kernel_rfl, hK2.out _ ?_⟩); clear hK1 hK2 K1 K2; simp); (try with_reducible refine AR.nil ?_)
  refine ⟨chk_text _ _, hK.out _ ?_⟩
  clear hK K
  with_reducible (repeat (first | refine AW.seq ?_ | refine AW.block ?_ | refine AW.skip ?_ | refine AW.exit ?_ | refine AW.ret ?_ | refine AW.label ?_ | refine NX.then ?_ | refine NX.ret ?_ | refine NX.exit ?_ | refine NX.inRet ?_ | refine NX.inNormal ?_ | refine NX.inExit ?_ | refine NX.outExit (by decide) ?_))
  refine AW.loop (X := { k : Nat // k ≤ q.length }) (fun x => tlO l m q nums false (.c [] (.v (.slice none 0 0))) x.1) (fun x => q.length - x.1) ⟨0, by simp⟩ (fun _ _ h => AS.fold (fold_of (V := vw [] [] [] []) (by first | exact cx_pz _ _ _ | assumption) (by kernel_rfl) (by rfl) (by simp [tlO, tlB, foks_nil, foks_cons, fok_tmp, fok_vt, fok_cell, fok_nm, fok_zn, fok_hd, fok_df, Fv_c, Fv_seg, Fv_tup, Fv_agg, Fv_ptr, Fv_ptrs, Fv_fn, Fv_fnd, Fv_own, Fv_ownd, Fv_nown, Fv_vown, FvL_nil, FvL_cons, kvp_av, hdp_some, subz, frz, Uz, Nm, Uh, vw_nb, vw_zo, vw_zf, vw_hb, tb_nil, tb_cons, fzc_nil, fzc_cons, fzcaps_nil, fzcaps_cons])) h) (fun x => ?_)
  obtain ⟨k, hk⟩ := x
  refine AW.at_ (fun L hL => ?_)
  simp [tlO, tlB] at hL
  subst hL
  with_reducible (repeat (first | refine AW.seq ?_ | refine AW.block ?_ | refine AW.skip ?_ | refine AW.exit ?_ | refine AW.ret ?_ | refine AW.label ?_ | refine NX.then ?_ | refine NX.ret ?_ | refine NX.exit ?_ | refine NX.inRet ?_ | refine NX.inNormal ?_ | refine NX.inExit ?_ | refine NX.outExit (by decide) ?_))
  by_cases hgo : k < q.length
  · have w5 : IntKind.i64.wrap ((k : Int) + 1) = ((k + 1 : Nat) : Int) := by rw [i64_ok _ (by omega) (by omega)]; omega
    obtain ⟨x, hx⟩ : ∃ x, q[k] = x := ⟨_, rfl⟩
    have hq0 : (q.length : Int) ≠ 0 := by omega
    have hq0' : q ≠ [] := by rintro rfl; simp at hgo
    have hj : (k + 1) % q.length < q.length := Nat.mod_lt _ (by omega)
    have wj : ((k : Int) + 1).tmod (q.length : Int) = (((k + 1) % q.length : Nat) : Int) := by rw [Int.tmod_eq_emod_of_nonneg (by omega)]; simp
    obtain ⟨j0, hj0⟩ : ∃ j0, (k + 1) % q.length = j0 := ⟨_, rfl⟩
    rw [hj0] at hj wj
    obtain ⟨y, hy⟩ : ∃ y, q[j0] = y := ⟨_, rfl⟩
    refine AW.re ty (by kernel_rfl) (by first | exact cx_N _ _ _ | assumption) (by first | exact cx_pz _ _ _ | assumption) 110 (by decide) (fun K hK => ?_)
    (try simp only [List.toList_toArray, toList_lit]); repeat (with_reducible refine AR.step (fun K1 K2 hK1 hK2 => ?_); simp [hgo]; (first | refine hK1.out _ _ ?_ | refine hK2.out _ ?_ | refine ⟨by kernel_rfl, hK2.out _ ?_⟩); clear hK1 hK2 K1 K2; simp [hgo]); (try with_reducible refine AR.nil ?_)
    refine ⟨chk_text _ _, hK.out _ ?_⟩
    clear hK K
    with_reducible (repeat (first | refine AW.seq ?_ | refine AW.block ?_ | refine AW.skip ?_ | refine AW.exit ?_ | refine AW.ret ?_ | refine AW.label ?_ | refine NX.then ?_ | refine NX.ret ?_ | refine NX.exit ?_ | refine NX.inRet ?_ | refine NX.inNormal ?_ | refine NX.inExit ?_ | refine NX.outExit (by decide) ?_))
    refine AW.ct rfl ?_
    with_reducible (repeat (first | refine AW.seq ?_ | refine AW.block ?_ | refine AW.skip ?_ | refine AW.exit ?_ | refine AW.ret ?_ | refine AW.label ?_ | refine NX.then ?_ | refine NX.ret ?_ | refine NX.exit ?_ | refine NX.inRet ?_ | refine NX.inNormal ?_ | refine NX.inExit ?_ | refine NX.outExit (by decide) ?_))
    refine AW.re ty (by kernel_rfl) (by first | exact cx_N _ _ _ | assumption) (by first | exact cx_pz _ _ _ | assumption) 120 (by decide) (fun K hK => ?_)
    (try simp only [List.toList_toArray, toList_lit]); repeat (with_reducible refine AR.step (fun K1 K2 hK1 hK2 => ?_); simp [hgo]; (first | refine hK1.out _ _ ?_ | refine hK2.out _ ?_ | refine ⟨by kernel_rfl, hK2.out _ ?_⟩); clear hK1 hK2 K1 K2; simp [hgo]); (try with_reducible refine AR.nil ?_)
    refine AR.step (fun K1 K2 hK1 hK2 => ?_)
    simp [hgo]
    refine ⟨k, PD x, rfl, by simp [hgo, hx], ?_⟩
    refine hK1.out _ _ ?_
    clear hK1 hK2 K1 K2
    (try simp [hgo])
    (try simp only [List.toList_toArray, toList_lit]); repeat (with_reducible refine AR.step (fun K1 K2 hK1 hK2 => ?_); simp [hgo]; (first | refine hK1.out _ _ ?_ | refine hK2.out _ ?_ | refine ⟨by kernel_rfl, hK2.out _ ?_⟩); clear hK1 hK2 K1 K2; simp [hgo]); (try with_reducible refine AR.nil ?_)
    refine ⟨chk_text _ _, hK.out _ ?_⟩
    clear hK K
    with_reducible (repeat (first | refine AW.seq ?_ | refine AW.block ?_ | refine AW.skip ?_ | refine AW.exit ?_ | refine AW.ret ?_ | refine AW.label ?_ | refine NX.then ?_ | refine NX.ret ?_ | refine NX.exit ?_ | refine NX.inRet ?_ | refine NX.inNormal ?_ | refine NX.inExit ?_ | refine NX.outExit (by decide) ?_))
    by_cases h10 : (k : Int) = 10
    · skip
      refine AW.re ty (by kernel_rfl) (by first | exact cx_N _ _ _ | assumption) (by first | exact cx_pz _ _ _ | assumption) 140 (by decide) (fun K hK => ?_)
      (try simp only [List.toList_toArray, toList_lit]); repeat (with_reducible refine AR.step (fun K1 K2 hK1 hK2 => ?_); simp [h10]; (first | refine hK1.out _ _ ?_ | refine hK2.out _ ?_ | refine ⟨by kernel_rfl, hK2.out _ ?_⟩); clear hK1 hK2 K1 K2; simp [h10]); (try with_reducible refine AR.nil ?_)
      refine ⟨chk_text _ _, hK.out _ ?_⟩
      clear hK K
      with_reducible (repeat (first | refine AW.seq ?_ | refine AW.block ?_ | refine AW.skip ?_ | refine AW.exit ?_ | refine AW.ret ?_ | refine AW.label ?_ | refine NX.then ?_ | refine NX.ret ?_ | refine NX.exit ?_ | refine NX.inRet ?_ | refine NX.inNormal ?_ | refine NX.inExit ?_ | refine NX.outExit (by decide) ?_))
      refine AW.ct rfl ?_
      with_reducible (repeat (first | refine AW.seq ?_ | refine AW.block ?_ | refine AW.skip ?_ | refine AW.exit ?_ | refine AW.ret ?_ | refine AW.label ?_ | refine NX.then ?_ | refine NX.ret ?_ | refine NX.exit ?_ | refine NX.inRet ?_ | refine NX.inNormal ?_ | refine NX.inExit ?_ | refine NX.outExit (by decide) ?_))
      refine AW.re ty (by kernel_rfl) (by first | exact cx_N _ _ _ | assumption) (by first | exact cx_pz _ _ _ | assumption) 600 (by decide) (fun K hK => ?_)
      (try simp only [List.toList_toArray, toList_lit]); repeat (with_reducible refine AR.step (fun K1 K2 hK1 hK2 => ?_); simp; (first | refine hK1.out _ _ ?_ | refine hK2.out _ ?_ | refine ⟨by kernel_rfl, hK2.out _ ?_⟩); clear hK1 hK2 K1 K2; simp); (try with_reducible refine AR.nil ?_)
      refine ⟨chk_text _ _, hK.out _ ?_⟩
      clear hK K
      with_reducible (repeat (first | refine AW.seq ?_ | refine AW.block ?_ | refine AW.skip ?_ | refine AW.exit ?_ | refine AW.ret ?_ | refine AW.label ?_ | refine NX.then ?_ | refine NX.ret ?_ | refine NX.exit ?_ | refine NX.inRet ?_ | refine NX.inNormal ?_ | refine NX.inExit ?_ | refine NX.outExit (by decide) ?_))
      refine AW.loop (X := { k : Nat // k ≤ nums.length }) (fun x => tlN l m q nums false (.c [] (.v (.slice none 0 0))) x.1) (fun x => nums.length - x.1) ⟨0, by simp⟩ (fun _ _ h => AS.fold (fold_of (V := vw [] [] [] []) (by first | exact cx_pz _ _ _ | assumption) (by kernel_rfl) (by rfl) (by simp [tlN, tlB, foks_nil, foks_cons, fok_tmp, fok_vt, fok_cell, fok_nm, fok_zn, fok_hd, fok_df, Fv_c, Fv_seg, Fv_tup, Fv_agg, Fv_ptr, Fv_ptrs, Fv_fn, Fv_fnd, Fv_own, Fv_ownd, Fv_nown, Fv_vown, FvL_nil, FvL_cons, kvp_av, hdp_some, subz, frz, Uz, Nm, Uh, vw_nb, vw_zo, vw_zf, vw_hb, tb_nil, tb_cons, fzc_nil, fzc_cons, fzcaps_nil, fzcaps_cons])) h) (fun x => ?_)
      obtain ⟨k3, hk3⟩ := x
      refine AW.at_ (fun L hL => ?_)
      simp [tlN, tlB] at hL
      subst hL
      with_reducible (repeat (first | refine AW.seq ?_ | refine AW.block ?_ | refine AW.skip ?_ | refine AW.exit ?_ | refine AW.ret ?_ | refine AW.label ?_ | refine NX.then ?_ | refine NX.ret ?_ | refine NX.exit ?_ | refine NX.inRet ?_ | refine NX.inNormal ?_ | refine NX.inExit ?_ | refine NX.outExit (by decide) ?_))
      by_cases hgo3 : k3 < nums.length
      · have w8 : IntKind.i64.wrap ((k3 : Int) + 1) = ((k3 + 1 : Nat) : Int) := by rw [i64_ok _ (by omega) (by unfold maxI at hN; omega)]; omega
        obtain ⟨a3, ha3⟩ : ∃ a3, nums[k3] = a3 := ⟨_, rfl⟩
        refine AW.re ty (by kernel_rfl) (by first | exact cx_N _ _ _ | assumption) (by first | exact cx_pz _ _ _ | assumption) 620 (by decide) (fun K hK => ?_)
        (try simp only [List.toList_toArray, toList_lit]); repeat (with_reducible refine AR.step (fun K1 K2 hK1 hK2 => ?_); simp [hgo3]; (first | refine hK1.out _ _ ?_ | refine hK2.out _ ?_ | refine ⟨by kernel_rfl, hK2.out _ ?_⟩); clear hK1 hK2 K1 K2; simp [hgo3]); (try with_reducible refine AR.nil ?_)
        refine ⟨chk_text _ _, hK.out _ ?_⟩
        clear hK K
        with_reducible (repeat (first | refine AW.seq ?_ | refine AW.block ?_ | refine AW.skip ?_ | refine AW.exit ?_ | refine AW.ret ?_ | refine AW.label ?_ | refine NX.then ?_ | refine NX.ret ?_ | refine NX.exit ?_ | refine NX.inRet ?_ | refine NX.inNormal ?_ | refine NX.inExit ?_ | refine NX.outExit (by decide) ?_))
        refine AW.ct rfl ?_
        with_reducible (repeat (first | refine AW.seq ?_ | refine AW.block ?_ | refine AW.skip ?_ | refine AW.exit ?_ | refine AW.ret ?_ | refine AW.label ?_ | refine NX.then ?_ | refine NX.ret ?_ | refine NX.exit ?_ | refine NX.inRet ?_ | refine NX.inNormal ?_ | refine NX.inExit ?_ | refine NX.outExit (by decide) ?_))
        refine AW.re ty (by kernel_rfl) (by first | exact cx_N _ _ _ | assumption) (by first | exact cx_pz _ _ _ | assumption) 630 (by decide) (fun K hK => ?_)
        (try simp only [List.toList_toArray, toList_lit]); repeat (with_reducible refine AR.step (fun K1 K2 hK1 hK2 => ?_); simp [hgo3]; (first | refine hK1.out _ _ ?_ | refine hK2.out _ ?_ | refine ⟨by kernel_rfl, hK2.out _ ?_⟩); clear hK1 hK2 K1 K2; simp [hgo3]); (try with_reducible refine AR.nil ?_)
        refine AR.step (fun K1 K2 hK1 hK2 => ?_)
        simp [hgo3]
        refine ⟨k3, uD a3, rfl, by simp [hgo3, ha3], ?_⟩
        refine hK1.out _ _ ?_
        clear hK1 hK2 K1 K2
        (try simp [hgo3])
        (try simp only [List.toList_toArray, toList_lit]); repeat (with_reducible refine AR.step (fun K1 K2 hK1 hK2 => ?_); simp [hgo3]; (first | refine hK1.out _ _ ?_ | refine hK2.out _ ?_ | refine ⟨by kernel_rfl, hK2.out _ ?_⟩); clear hK1 hK2 K1 K2; simp [hgo3]); (try with_reducible refine AR.nil ?_)
        refine ⟨chk_text _ _, hK.out _ ?_⟩
        clear hK K
        with_reducible (repeat (first | refine AW.seq ?_ | refine AW.block ?_ | refine AW.skip ?_ | refine AW.exit ?_ | refine AW.ret ?_ | refine AW.label ?_ | refine NX.then ?_ | refine NX.ret ?_ | refine NX.exit ?_ | refine NX.inRet ?_ | refine NX.inNormal ?_ | refine NX.inExit ?_ | refine NX.outExit (by decide) ?_))
        by_cases h10b : (k3 : Int) < 10
        · skip
          refine AW.re ty (by kernel_rfl) (by first | exact cx_N _ _ _ | assumption) (by first | exact cx_pz _ _ _ | assumption) 650 (by decide) (fun K hK => ?_)
          (try simp only [List.toList_toArray, toList_lit]); repeat (with_reducible refine AR.step (fun K1 K2 hK1 hK2 => ?_); simp [h10b]; (first | refine hK1.out _ _ ?_ | refine hK2.out _ ?_ | refine ⟨by kernel_rfl, hK2.out _ ?_⟩); clear hK1 hK2 K1 K2; simp [h10b]); (try with_reducible refine AR.nil ?_)
          refine AR.step (fun K1 K2 hK1 hK2 => ?_)
          simp [h10b]
          refine orr_l ⟨by kernel_rfl, .inl ⟨_, (sen a3), ?_⟩⟩
          (try simp [h10b])
          refine hK1.out _ _ ?_
          clear hK1 hK2 K1 K2
          (try simp [h10b])
          (try simp only [List.toList_toArray, toList_lit]); repeat (with_reducible refine AR.step (fun K1 K2 hK1 hK2 => ?_); simp [h10b]; (first | refine hK1.out _ _ ?_ | refine hK2.out _ ?_ | refine ⟨by kernel_rfl, hK2.out _ ?_⟩); clear hK1 hK2 K1 K2; simp [h10b]); (try with_reducible refine AR.nil ?_)
          refine AR.step (fun K1 K2 hK1 hK2 => ?_)
          simp [h10b]
          refine orr_l ⟨by kernel_rfl, .inr (.inl ⟨_, _, _, (rsen a3), ?_⟩)⟩
          (try simp [h10b])
          refine hK1.out _ _ ?_
          clear hK1 hK2 K1 K2
          (try simp [h10b])
          (try simp only [List.toList_toArray, toList_lit]); repeat (with_reducible refine AR.step (fun K1 K2 hK1 hK2 => ?_); simp [h10b]; (first | refine hK1.out _ _ ?_ | refine hK2.out _ ?_ | refine ⟨by kernel_rfl, hK2.out _ ?_⟩); clear hK1 hK2 K1 K2; simp [h10b]); (try with_reducible refine AR.nil ?_)
          refine AR.step (fun K1 K2 hK1 hK2 => ?_)
          simp [h10b]
          refine orr_l ⟨by kernel_rfl, .inl ⟨_, equn, ?_⟩⟩
          (try simp [h10b])
          refine hK1.out _ _ ?_
          clear hK1 hK2 K1 K2
          (try simp [h10b])
          (try simp only [List.toList_toArray, toList_lit]); repeat (with_reducible refine AR.step (fun K1 K2 hK1 hK2 => ?_); simp [h10b]; (first | refine hK1.out _ _ ?_ | refine hK2.out _ ?_ | refine ⟨by kernel_rfl, hK2.out _ ?_⟩); clear hK1 hK2 K1 K2; simp [h10b]); (try with_reducible refine AR.nil ?_)
          refine ⟨chk_text _ _, hK.out _ ?_⟩
          clear hK K
          with_reducible (repeat (first | refine AW.seq ?_ | refine AW.block ?_ | refine AW.skip ?_ | refine AW.exit ?_ | refine AW.ret ?_ | refine AW.label ?_ | refine NX.then ?_ | refine NX.ret ?_ | refine NX.exit ?_ | refine NX.inRet ?_ | refine NX.inNormal ?_ | refine NX.inExit ?_ | refine NX.outExit (by decide) ?_))
          refine AW.cf rfl ?_
          with_reducible (repeat (first | refine AW.seq ?_ | refine AW.block ?_ | refine AW.skip ?_ | refine AW.exit ?_ | refine AW.ret ?_ | refine AW.label ?_ | refine NX.then ?_ | refine NX.ret ?_ | refine NX.exit ?_ | refine NX.inRet ?_ | refine NX.inNormal ?_ | refine NX.inExit ?_ | refine NX.outExit (by decide) ?_))
          refine AW.re ty (by kernel_rfl) (by first | exact cx_N _ _ _ | assumption) (by first | exact cx_pz _ _ _ | assumption) 680 (by decide) (fun K hK => ?_)
          (try simp only [List.toList_toArray, toList_lit]); repeat (with_reducible refine AR.step (fun K1 K2 hK1 hK2 => ?_); simp [w8]; (first | refine hK1.out _ _ ?_ | refine hK2.out _ ?_ | refine ⟨by kernel_rfl, hK2.out _ ?_⟩); clear hK1 hK2 K1 K2; simp [w8]); (try with_reducible refine AR.nil ?_)
          refine ⟨chk_text _ _, hK.out _ ?_⟩
          clear hK K
          with_reducible (repeat (first | refine AW.seq ?_ | refine AW.block ?_ | refine AW.skip ?_ | refine AW.exit ?_ | refine AW.ret ?_ | refine AW.label ?_ | refine NX.then ?_ | refine NX.ret ?_ | refine NX.exit ?_ | refine NX.inRet ?_ | refine NX.inNormal ?_ | refine NX.inExit ?_ | refine NX.outExit (by decide) ?_))
          exact NX.round ⟨k3 + 1, hgo3⟩ (by show nums.length - (k3 + 1) < nums.length - k3; omega) (fun _ _ h => AS.fold (fold_of (V := vw [] [] [] []) (by first | exact cx_pz _ _ _ | assumption) (by kernel_rfl) (by rfl) (by simp [tlN, tlB, foks_nil, foks_cons, fok_tmp, fok_vt, fok_cell, fok_nm, fok_zn, fok_hd, fok_df, Fv_c, Fv_seg, Fv_tup, Fv_agg, Fv_ptr, Fv_ptrs, Fv_fn, Fv_fnd, Fv_own, Fv_ownd, Fv_nown, Fv_vown, FvL_nil, FvL_cons, kvp_av, hdp_some, subz, frz, Uz, Nm, Uh, vw_nb, vw_zo, vw_zf, vw_hb, tb_nil, tb_cons, fzc_nil, fzc_cons, fzcaps_nil, fzcaps_cons])) h)
        · skip
          refine AW.re ty (by kernel_rfl) (by first | exact cx_N _ _ _ | assumption) (by first | exact cx_pz _ _ _ | assumption) 650 (by decide) (fun K hK => ?_)
          (try simp only [List.toList_toArray, toList_lit]); repeat (with_reducible refine AR.step (fun K1 K2 hK1 hK2 => ?_); simp [h10b]; (first | refine hK1.out _ _ ?_ | refine hK2.out _ ?_ | refine ⟨by kernel_rfl, hK2.out _ ?_⟩); clear hK1 hK2 K1 K2; simp [h10b]); (try with_reducible refine AR.nil ?_)
          refine ⟨chk_text _ _, hK.out _ ?_⟩
          clear hK K
          with_reducible (repeat (first | refine AW.seq ?_ | refine AW.block ?_ | refine AW.skip ?_ | refine AW.exit ?_ | refine AW.ret ?_ | refine AW.label ?_ | refine NX.then ?_ | refine NX.ret ?_ | refine NX.exit ?_ | refine NX.inRet ?_ | refine NX.inNormal ?_ | refine NX.inExit ?_ | refine NX.outExit (by decide) ?_))
          refine AW.cf rfl ?_
          with_reducible (repeat (first | refine AW.seq ?_ | refine AW.block ?_ | refine AW.skip ?_ | refine AW.exit ?_ | refine AW.ret ?_ | refine AW.label ?_ | refine NX.then ?_ | refine NX.ret ?_ | refine NX.exit ?_ | refine NX.inRet ?_ | refine NX.inNormal ?_ | refine NX.inExit ?_ | refine NX.outExit (by decide) ?_))
          refine AW.re ty (by kernel_rfl) (by first | exact cx_N _ _ _ | assumption) (by first | exact cx_pz _ _ _ | assumption) 680 (by decide) (fun K hK => ?_)
          (try simp only [List.toList_toArray, toList_lit]); repeat (with_reducible refine AR.step (fun K1 K2 hK1 hK2 => ?_); simp [w8]; (first | refine hK1.out _ _ ?_ | refine hK2.out _ ?_ | refine ⟨by kernel_rfl, hK2.out _ ?_⟩); clear hK1 hK2 K1 K2; simp [w8]); (try with_reducible refine AR.nil ?_)
          refine ⟨chk_text _ _, hK.out _ ?_⟩
          clear hK K
          with_reducible (repeat (first | refine AW.seq ?_ | refine AW.block ?_ | refine AW.skip ?_ | refine AW.exit ?_ | refine AW.ret ?_ | refine AW.label ?_ | refine NX.then ?_ | refine NX.ret ?_ | refine NX.exit ?_ | refine NX.inRet ?_ | refine NX.inNormal ?_ | refine NX.inExit ?_ | refine NX.outExit (by decide) ?_))
          exact NX.round ⟨k3 + 1, hgo3⟩ (by show nums.length - (k3 + 1) < nums.length - k3; omega) (fun _ _ h => AS.fold (fold_of (V := vw [] [] [] []) (by first | exact cx_pz _ _ _ | assumption) (by kernel_rfl) (by rfl) (by simp [tlN, tlB, foks_nil, foks_cons, fok_tmp, fok_vt, fok_cell, fok_nm, fok_zn, fok_hd, fok_df, Fv_c, Fv_seg, Fv_tup, Fv_agg, Fv_ptr, Fv_ptrs, Fv_fn, Fv_fnd, Fv_own, Fv_ownd, Fv_nown, Fv_vown, FvL_nil, FvL_cons, kvp_av, hdp_some, subz, frz, Uz, Nm, Uh, vw_nb, vw_zo, vw_zf, vw_hb, tb_nil, tb_cons, fzc_nil, fzc_cons, fzcaps_nil, fzcaps_cons])) h)
      · obtain rfl : k3 = nums.length := by omega
        refine AW.re ty (by kernel_rfl) (by first | exact cx_N _ _ _ | assumption) (by first | exact cx_pz _ _ _ | assumption) 700 (by decide) (fun K hK => ?_)
        (try simp only [List.toList_toArray, toList_lit]); repeat (with_reducible refine AR.step (fun K1 K2 hK1 hK2 => ?_); simp; (first | refine hK1.out _ _ ?_ | refine hK2.out _ ?_ | refine ⟨by kernel_rfl, hK2.out _ ?_⟩); clear hK1 hK2 K1 K2; simp); (try with_reducible refine AR.nil ?_)
        refine ⟨chk_text _ _, hK.out _ ?_⟩
        clear hK K
        with_reducible (repeat (first | refine AW.seq ?_ | refine AW.block ?_ | refine AW.skip ?_ | refine AW.exit ?_ | refine AW.ret ?_ | refine AW.label ?_ | refine NX.then ?_ | refine NX.ret ?_ | refine NX.exit ?_ | refine NX.inRet ?_ | refine NX.inNormal ?_ | refine NX.inExit ?_ | refine NX.outExit (by decide) ?_))
        refine AW.cf rfl ?_
        with_reducible (repeat (first | refine AW.seq ?_ | refine AW.block ?_ | refine AW.skip ?_ | refine AW.exit ?_ | refine AW.ret ?_ | refine AW.label ?_ | refine NX.then ?_ | refine NX.ret ?_ | refine NX.exit ?_ | refine NX.inRet ?_ | refine NX.inNormal ?_ | refine NX.inExit ?_ | refine NX.outExit (by decide) ?_))
        refine AW.re ty (by kernel_rfl) (by first | exact cx_N _ _ _ | assumption) (by first | exact cx_pz _ _ _ | assumption) 720 (by decide) (fun K hK => ?_)
        (try simp only [List.toList_toArray, toList_lit]); repeat (with_reducible refine AR.step (fun K1 K2 hK1 hK2 => ?_); simp; (first | refine hK1.out _ _ ?_ | refine hK2.out _ ?_ | refine ⟨by kernel_rfl, hK2.out _ ?_⟩); clear hK1 hK2 K1 K2; simp); (try with_reducible refine AR.nil ?_)
        refine AR.step (fun K1 K2 hK1 hK2 => ?_)
        simp
        refine orr_l ⟨by kernel_rfl, .inl ⟨_, ctn, ?_⟩⟩
        (try simp)
        refine hK1.out _ _ ?_
        clear hK1 hK2 K1 K2
        (try simp)
        (try simp only [List.toList_toArray, toList_lit]); repeat (with_reducible refine AR.step (fun K1 K2 hK1 hK2 => ?_); simp; (first | refine hK1.out _ _ ?_ | refine hK2.out _ ?_ | refine ⟨by kernel_rfl, hK2.out _ ?_⟩); clear hK1 hK2 K1 K2; simp); (try with_reducible refine AR.nil ?_)
        refine ⟨chk_text _ _, hK.out _ ?_⟩
        clear hK K
        with_reducible (repeat (first | refine AW.seq ?_ | refine AW.block ?_ | refine AW.skip ?_ | refine AW.exit ?_ | refine AW.ret ?_ | refine AW.label ?_ | refine NX.then ?_ | refine NX.ret ?_ | refine NX.exit ?_ | refine NX.inRet ?_ | refine NX.inNormal ?_ | refine NX.inExit ?_ | refine NX.outExit (by decide) ?_))
        refine AW.re ty (by kernel_rfl) (by first | exact cx_N _ _ _ | assumption) (by first | exact cx_pz _ _ _ | assumption) 730 (by decide) (fun K hK => ?_)
        (try simp only [List.toList_toArray, toList_lit]); repeat (with_reducible refine AR.step (fun K1 K2 hK1 hK2 => ?_); simp; (first | refine hK1.out _ _ ?_ | refine hK2.out _ ?_ | refine ⟨by kernel_rfl, hK2.out _ ?_⟩); clear hK1 hK2 K1 K2; simp); (try with_reducible refine AR.nil ?_)
        refine ⟨chk_text _ _, hK.out _ ?_⟩
        clear hK K
        with_reducible (repeat (first | refine AW.seq ?_ | refine AW.block ?_ | refine AW.skip ?_ | refine AW.exit ?_ | refine AW.ret ?_ | refine AW.label ?_ | refine NX.then ?_ | refine NX.ret ?_ | refine NX.exit ?_ | refine NX.inRet ?_ | refine NX.inNormal ?_ | refine NX.inExit ?_ | refine NX.outExit (by decide) ?_))
        refine AW.cf rfl ?_
        with_reducible (repeat (first | refine AW.seq ?_ | refine AW.block ?_ | refine AW.skip ?_ | refine AW.exit ?_ | refine AW.ret ?_ | refine AW.label ?_ | refine NX.then ?_ | refine NX.ret ?_ | refine NX.exit ?_ | refine NX.inRet ?_ | refine NX.inNormal ?_ | refine NX.inExit ?_ | refine NX.outExit (by decide) ?_))
        refine AW.re ty (by kernel_rfl) (by first | exact cx_N _ _ _ | assumption) (by first | exact cx_pz _ _ _ | assumption) 740 (by decide) (fun K hK => ?_)
        (try simp only [List.toList_toArray, toList_lit]); repeat (with_reducible refine AR.step (fun K1 K2 hK1 hK2 => ?_); simp; (first | refine hK1.out _ _ ?_ | refine hK2.out _ ?_ | refine ⟨by kernel_rfl, hK2.out _ ?_⟩); clear hK1 hK2 K1 K2; simp); (try with_reducible refine AR.nil ?_)
        refine AR.step (fun K1 K2 hK1 hK2 => ?_)
        simp
        refine orr_l ⟨by kernel_rfl, .inr (.inl ⟨_, _, _, crt, ?_⟩)⟩
        (try simp)
        refine hK1.out _ _ ?_
        clear hK1 hK2 K1 K2
        (try simp)
        (try simp only [List.toList_toArray, toList_lit]); repeat (with_reducible refine AR.step (fun K1 K2 hK1 hK2 => ?_); simp; (first | refine hK1.out _ _ ?_ | refine hK2.out _ ?_ | refine ⟨by kernel_rfl, hK2.out _ ?_⟩); clear hK1 hK2 K1 K2; simp); (try with_reducible refine AR.nil ?_)
        refine AR.step (fun K1 K2 hK1 hK2 => ?_)
        simp
        refine orr_l ⟨by kernel_rfl, .inl ⟨_, ceq, ?_⟩⟩
        (try simp)
        refine hK1.out _ _ ?_
        clear hK1 hK2 K1 K2
        (try simp)
        (try simp only [List.toList_toArray, toList_lit]); repeat (with_reducible refine AR.step (fun K1 K2 hK1 hK2 => ?_); simp; (first | refine hK1.out _ _ ?_ | refine hK2.out _ ?_ | refine ⟨by kernel_rfl, hK2.out _ ?_⟩); clear hK1 hK2 K1 K2; simp); (try with_reducible refine AR.nil ?_)
        refine AR.step (fun K1 K2 hK1 hK2 => ?_)
        simp
        refine orr_l ⟨by kernel_rfl, .inl ⟨_, cfi, ?_⟩⟩
        (try simp)
        refine hK1.out _ _ ?_
        clear hK1 hK2 K1 K2
        (try simp)
        (try simp only [List.toList_toArray, toList_lit]); repeat (with_reducible refine AR.step (fun K1 K2 hK1 hK2 => ?_); simp; (first | refine hK1.out _ _ ?_ | refine hK2.out _ ?_ | refine ⟨by kernel_rfl, hK2.out _ ?_⟩); clear hK1 hK2 K1 K2; simp); (try with_reducible refine AR.nil ?_)
        refine AR.step (fun K1 K2 hK1 hK2 => ?_)
        simp
        refine orr_l ⟨by kernel_rfl, .inr (.inl ⟨_, _, _, crf, ?_⟩)⟩
        (try simp)
        refine hK1.out _ _ ?_
        clear hK1 hK2 K1 K2
        (try simp)
        (try simp only [List.toList_toArray, toList_lit]); repeat (with_reducible refine AR.step (fun K1 K2 hK1 hK2 => ?_); simp; (first | refine hK1.out _ _ ?_ | refine hK2.out _ ?_ | refine ⟨by kernel_rfl, hK2.out _ ?_⟩); clear hK1 hK2 K1 K2; simp); (try with_reducible refine AR.nil ?_)
        refine AR.step (fun K1 K2 hK1 hK2 => ?_)
        simp
        refine orr_l ⟨by kernel_rfl, .inl ⟨_, cefi, ?_⟩⟩
        (try simp)
        refine hK1.out _ _ ?_
        clear hK1 hK2 K1 K2
        (try simp)
        (try simp only [List.toList_toArray, toList_lit]); repeat (with_reducible refine AR.step (fun K1 K2 hK1 hK2 => ?_); simp; (first | refine hK1.out _ _ ?_ | refine hK2.out _ ?_ | refine ⟨by kernel_rfl, hK2.out _ ?_⟩); clear hK1 hK2 K1 K2; simp); (try with_reducible refine AR.nil ?_)
        refine AR.step (fun K1 K2 hK1 hK2 => ?_)
        simp
        refine orr_l ⟨by kernel_rfl, .inr (.inl ⟨_, _, _, cf, ?_⟩)⟩
        (try simp)
        refine hK1.out _ _ ?_
        clear hK1 hK2 K1 K2
        (try simp)
        (try simp only [List.toList_toArray, toList_lit]); repeat (with_reducible refine AR.step (fun K1 K2 hK1 hK2 => ?_); simp; (first | refine hK1.out _ _ ?_ | refine hK2.out _ ?_ | refine ⟨by kernel_rfl, hK2.out _ ?_⟩); clear hK1 hK2 K1 K2; simp); (try with_reducible refine AR.nil ?_)
        refine AR.step (fun K1 K2 hK1 hK2 => ?_)
        simp
        refine orr_l ⟨by kernel_rfl, .inl ⟨_, cem, ?_⟩⟩
        (try simp)
        refine hK1.out _ _ ?_
        clear hK1 hK2 K1 K2
        (try simp)
        (try simp only [List.toList_toArray, toList_lit]); repeat (with_reducible refine AR.step (fun K1 K2 hK1 hK2 => ?_); simp; (first | refine hK1.out _ _ ?_ | refine hK2.out _ ?_ | refine ⟨by kernel_rfl, hK2.out _ ?_⟩); clear hK1 hK2 K1 K2; simp); (try with_reducible refine AR.nil ?_)
        refine ⟨chk_text _ _, hK.out _ ?_⟩
        clear hK K
        with_reducible (repeat (first | refine AW.seq ?_ | refine AW.block ?_ | refine AW.skip ?_ | refine AW.exit ?_ | refine AW.ret ?_ | refine AW.label ?_ | refine NX.then ?_ | refine NX.ret ?_ | refine NX.exit ?_ | refine NX.inRet ?_ | refine NX.inNormal ?_ | refine NX.inExit ?_ | refine NX.outExit (by decide) ?_))
        refine nx_ret (T := ty) (rs := [.tmp 6]) (zs := []) (ds := [dB true]) (rr := []) (.inr rfl) rfl (by kernel_rfl) (by kernel_rfl) (by simp) rfl
    · skip
      refine AW.re ty (by kernel_rfl) (by first | exact cx_N _ _ _ | assumption) (by first | exact cx_pz _ _ _ | assumption) 140 (by decide) (fun K hK => ?_)
      (try simp only [List.toList_toArray, toList_lit]); repeat (with_reducible refine AR.step (fun K1 K2 hK1 hK2 => ?_); simp [h10]; (first | refine hK1.out _ _ ?_ | refine hK2.out _ ?_ | refine ⟨by kernel_rfl, hK2.out _ ?_⟩); clear hK1 hK2 K1 K2; simp [h10]); (try with_reducible refine AR.nil ?_)
      refine ⟨chk_text _ _, hK.out _ ?_⟩
      clear hK K
      with_reducible (repeat (first | refine AW.seq ?_ | refine AW.block ?_ | refine AW.skip ?_ | refine AW.exit ?_ | refine AW.ret ?_ | refine AW.label ?_ | refine NX.then ?_ | refine NX.ret ?_ | refine NX.exit ?_ | refine NX.inRet ?_ | refine NX.inNormal ?_ | refine NX.inExit ?_ | refine NX.outExit (by decide) ?_))
      refine AW.cf rfl ?_
      with_reducible (repeat (first | refine AW.seq ?_ | refine AW.block ?_ | refine AW.skip ?_ | refine AW.exit ?_ | refine AW.ret ?_ | refine AW.label ?_ | refine NX.then ?_ | refine NX.ret ?_ | refine NX.exit ?_ | refine NX.inRet ?_ | refine NX.inNormal ?_ | refine NX.inExit ?_ | refine NX.outExit (by decide) ?_))
      refine AW.re ty (by kernel_rfl) (by first | exact cx_N _ _ _ | assumption) (by first | exact cx_pz _ _ _ | assumption) 150 (by decide) (fun K hK => ?_)
      (try simp only [List.toList_toArray, toList_lit]); repeat (with_reducible refine AR.step (fun K1 K2 hK1 hK2 => ?_); simp [w5, wj, hq0, hq0']; (first | refine hK1.out _ _ ?_ | refine hK2.out _ ?_ | refine ⟨by kernel_rfl, hK2.out _ ?_⟩); clear hK1 hK2 K1 K2; simp [w5, wj, hq0, hq0']); (try with_reducible refine AR.nil ?_)
      refine AR.step (fun K1 K2 hK1 hK2 => ?_)
      simp [w5, wj, hq0, hq0']
      refine ⟨j0, PD y, rfl, by simp [hj, hy], ?_⟩
      refine hK1.out _ _ ?_
      clear hK1 hK2 K1 K2
      (try simp [w5, wj, hq0, hq0'])
      (try simp only [List.toList_toArray, toList_lit]); repeat (with_reducible refine AR.step (fun K1 K2 hK1 hK2 => ?_); simp [w5, wj, hq0, hq0']; (first | refine hK1.out _ _ ?_ | refine hK2.out _ ?_ | refine ⟨by kernel_rfl, hK2.out _ ?_⟩); clear hK1 hK2 K1 K2; simp [w5, wj, hq0, hq0']); (try with_reducible refine AR.nil ?_)
      refine ⟨chk_text _ _, hK.out _ ?_⟩
      clear hK K
      with_reducible (repeat (first | refine AW.seq ?_ | refine AW.block ?_ | refine AW.skip ?_ | refine AW.exit ?_ | refine AW.ret ?_ | refine AW.label ?_ | refine NX.then ?_ | refine NX.ret ?_ | refine NX.exit ?_ | refine NX.inRet ?_ | refine NX.inNormal ?_ | refine NX.inExit ?_ | refine NX.outExit (by decide) ?_))
      refine AW.re ty (by kernel_rfl) (by first | exact cx_N _ _ _ | assumption) (by first | exact cx_pz _ _ _ | assumption) 170 (by decide) (fun K hK => ?_)
      (try simp only [List.toList_toArray, toList_lit]); repeat (with_reducible refine AR.step (fun K1 K2 hK1 hK2 => ?_); simp; (first | refine hK1.out _ _ ?_ | refine hK2.out _ ?_ | refine ⟨by kernel_rfl, hK2.out _ ?_⟩); clear hK1 hK2 K1 K2; simp); (try with_reducible refine AR.nil ?_)
      refine AR.step (fun K1 K2 hK1 hK2 => ?_)
      simp
      refine orr_l ⟨by kernel_rfl, .inl ⟨_, (gotn x y), ?_⟩⟩
      (try simp)
      refine hK1.out _ _ ?_
      clear hK1 hK2 K1 K2
      (try simp)
      (try simp only [List.toList_toArray, toList_lit]); repeat (with_reducible refine AR.step (fun K1 K2 hK1 hK2 => ?_); simp; (first | refine hK1.out _ _ ?_ | refine hK2.out _ ?_ | refine ⟨by kernel_rfl, hK2.out _ ?_⟩); clear hK1 hK2 K1 K2; simp); (try with_reducible refine AR.nil ?_)
      refine ⟨chk_text _ _, hK.out _ ?_⟩
      clear hK K
      with_reducible (repeat (first | refine AW.seq ?_ | refine AW.block ?_ | refine AW.skip ?_ | refine AW.exit ?_ | refine AW.ret ?_ | refine AW.label ?_ | refine NX.then ?_ | refine NX.ret ?_ | refine NX.exit ?_ | refine NX.inRet ?_ | refine NX.inNormal ?_ | refine NX.inExit ?_ | refine NX.outExit (by decide) ?_))
      refine AW.re ty (by kernel_rfl) (by first | exact cx_N _ _ _ | assumption) (by first | exact cx_pz _ _ _ | assumption) 180 (by decide) (fun K hK => ?_)
      (try simp only [List.toList_toArray, toList_lit]); repeat (with_reducible refine AR.step (fun K1 K2 hK1 hK2 => ?_); simp; (first | refine hK1.out _ _ ?_ | refine hK2.out _ ?_ | refine ⟨by kernel_rfl, hK2.out _ ?_⟩); clear hK1 hK2 K1 K2; simp); (try with_reducible refine AR.nil ?_)
      refine AR.step (fun K1 K2 hK1 hK2 => ?_)
      simp
      refine orr_l ⟨by kernel_rfl, .inl ⟨_, (hasn x), ?_⟩⟩
      (try simp)
      refine hK1.out _ _ ?_
      clear hK1 hK2 K1 K2
      (try simp)
      (try simp only [List.toList_toArray, toList_lit]); repeat (with_reducible refine AR.step (fun K1 K2 hK1 hK2 => ?_); simp; (first | refine hK1.out _ _ ?_ | refine hK2.out _ ?_ | refine ⟨by kernel_rfl, hK2.out _ ?_⟩); clear hK1 hK2 K1 K2; simp); (try with_reducible refine AR.nil ?_)
      refine AR.step (fun K1 K2 hK1 hK2 => ?_)
      simp
      refine orr_l ⟨by kernel_rfl, .inl ⟨_, (rhasn x), ?_⟩⟩
      (try simp)
      refine hK1.out _ _ ?_
      clear hK1 hK2 K1 K2
      (try simp)
      (try simp only [List.toList_toArray, toList_lit]); repeat (with_reducible refine AR.step (fun K1 K2 hK1 hK2 => ?_); simp; (first | refine hK1.out _ _ ?_ | refine hK2.out _ ?_ | refine ⟨by kernel_rfl, hK2.out _ ?_⟩); clear hK1 hK2 K1 K2; simp); (try with_reducible refine AR.nil ?_)
      refine AR.step (fun K1 K2 hK1 hK2 => ?_)
      simp
      refine orr_l ⟨by kernel_rfl, .inr (.inl ⟨_, _, _, (btn x y), ?_⟩)⟩
      (try simp)
      refine hK1.out _ _ ?_
      clear hK1 hK2 K1 K2
      (try simp)
      (try simp only [List.toList_toArray, toList_lit]); repeat (with_reducible refine AR.step (fun K1 K2 hK1 hK2 => ?_); simp; (first | refine hK1.out _ _ ?_ | refine hK2.out _ ?_ | refine ⟨by kernel_rfl, hK2.out _ ?_⟩); clear hK1 hK2 K1 K2; simp); (try with_reducible refine AR.nil ?_)
      refine AR.step (fun K1 K2 hK1 hK2 => ?_)
      simp
      refine orr_l ⟨by kernel_rfl, .inl ⟨_, eqn, ?_⟩⟩
      (try simp)
      refine hK1.out _ _ ?_
      clear hK1 hK2 K1 K2
      (try simp)
      (try simp only [List.toList_toArray, toList_lit]); repeat (with_reducible refine AR.step (fun K1 K2 hK1 hK2 => ?_); simp; (first | refine hK1.out _ _ ?_ | refine hK2.out _ ?_ | refine ⟨by kernel_rfl, hK2.out _ ?_⟩); clear hK1 hK2 K1 K2; simp); (try with_reducible refine AR.nil ?_)
      refine ⟨chk_drawn (by kernel_rfl) (by kernel_rfl), hK.out _ ?_⟩
      clear hK K
      with_reducible (repeat (first | refine AW.seq ?_ | refine AW.block ?_ | refine AW.skip ?_ | refine AW.exit ?_ | refine AW.ret ?_ | refine AW.label ?_ | refine NX.then ?_ | refine NX.ret ?_ | refine NX.exit ?_ | refine NX.inRet ?_ | refine NX.inNormal ?_ | refine NX.inExit ?_ | refine NX.outExit (by decide) ?_))
      refine AW.cf rfl ?_
      with_reducible (repeat (first | refine AW.seq ?_ | refine AW.block ?_ | refine AW.skip ?_ | refine AW.exit ?_ | refine AW.ret ?_ | refine AW.label ?_ | refine NX.then ?_ | refine NX.ret ?_ | refine NX.exit ?_ | refine NX.inRet ?_ | refine NX.inNormal ?_ | refine NX.inExit ?_ | refine NX.outExit (by decide) ?_))
      refine AW.re ty (by kernel_rfl) (by first | exact cx_N _ _ _ | assumption) (by first | exact cx_pz _ _ _ | assumption) 190 (by decide) (fun K hK => ?_)
      (try simp only [List.toList_toArray, toList_lit]); repeat (with_reducible refine AR.step (fun K1 K2 hK1 hK2 => ?_); simp; (first | refine hK1.out _ _ ?_ | refine hK2.out _ ?_ | refine ⟨by kernel_rfl, hK2.out _ ?_⟩); clear hK1 hK2 K1 K2; simp); (try with_reducible refine AR.nil ?_)
      refine ⟨chk_text _ _, hK.out _ ?_⟩
      clear hK K
      with_reducible (repeat (first | refine AW.seq ?_ | refine AW.block ?_ | refine AW.skip ?_ | refine AW.exit ?_ | refine AW.ret ?_ | refine AW.label ?_ | refine NX.then ?_ | refine NX.ret ?_ | refine NX.exit ?_ | refine NX.inRet ?_ | refine NX.inNormal ?_ | refine NX.inExit ?_ | refine NX.outExit (by decide) ?_))
      refine AW.loop (X := Unit) (fun _ => [(.tmp 67, .av (.c [] (.v (.int .i64 0)))), (.tmp 68, .av (.c [] (.v (.int .i64 0))))] ++ tlO l m q nums false (.c [] (.v (.slice none 0 0))) k) (fun _ => 0) () (fun _ _ h => AS.fold (fold_of (V := vw [] [] [] []) (by first | exact cx_pz _ _ _ | assumption) (by kernel_rfl) (by rfl) (by simp [tlO, tlB, foks_nil, foks_cons, fok_tmp, fok_vt, fok_cell, fok_nm, fok_zn, fok_hd, fok_df, Fv_c, Fv_seg, Fv_tup, Fv_agg, Fv_ptr, Fv_ptrs, Fv_fn, Fv_fnd, Fv_own, Fv_ownd, Fv_nown, Fv_vown, FvL_nil, FvL_cons, kvp_av, hdp_some, subz, frz, Uz, Nm, Uh, vw_nb, vw_zo, vw_zf, vw_hb, tb_nil, tb_cons, fzc_nil, fzc_cons, fzcaps_nil, fzcaps_cons])) h) (fun _ => ?_)
      refine AW.at_ (fun L hL => ?_)
      simp [tlO, tlB] at hL
      subst hL
      with_reducible (repeat (first | refine AW.seq ?_ | refine AW.block ?_ | refine AW.skip ?_ | refine AW.exit ?_ | refine AW.ret ?_ | refine AW.label ?_ | refine NX.then ?_ | refine NX.ret ?_ | refine NX.exit ?_ | refine NX.inRet ?_ | refine NX.inNormal ?_ | refine NX.inExit ?_ | refine NX.outExit (by decide) ?_))
      refine AW.re ty (by kernel_rfl) (by first | exact cx_N _ _ _ | assumption) (by first | exact cx_pz _ _ _ | assumption) 300 (by decide) (fun K hK => ?_)
      (try simp only [List.toList_toArray, toList_lit]); repeat (with_reducible refine AR.step (fun K1 K2 hK1 hK2 => ?_); simp; (first | refine hK1.out _ _ ?_ | refine hK2.out _ ?_ | refine ⟨by kernel_rfl, hK2.out _ ?_⟩); clear hK1 hK2 K1 K2; simp); (try with_reducible refine AR.nil ?_)
      refine ⟨chk_text _ _, hK.out _ ?_⟩
      clear hK K
      with_reducible (repeat (first | refine AW.seq ?_ | refine AW.block ?_ | refine AW.skip ?_ | refine AW.exit ?_ | refine AW.ret ?_ | refine AW.label ?_ | refine NX.then ?_ | refine NX.ret ?_ | refine NX.exit ?_ | refine NX.inRet ?_ | refine NX.inNormal ?_ | refine NX.inExit ?_ | refine NX.outExit (by decide) ?_))
      refine AW.cf rfl ?_
      with_reducible (repeat (first | refine AW.seq ?_ | refine AW.block ?_ | refine AW.skip ?_ | refine AW.exit ?_ | refine AW.ret ?_ | refine AW.label ?_ | refine NX.then ?_ | refine NX.ret ?_ | refine NX.exit ?_ | refine NX.inRet ?_ | refine NX.inNormal ?_ | refine NX.inExit ?_ | refine NX.outExit (by decide) ?_))
      refine AW.re ty (by kernel_rfl) (by first | exact cx_N _ _ _ | assumption) (by first | exact cx_pz _ _ _ | assumption) 400 (by decide) (fun K hK => ?_)
      (try simp only [List.toList_toArray, toList_lit]); repeat (with_reducible refine AR.step (fun K1 K2 hK1 hK2 => ?_); simp [w5]; (first | refine hK1.out _ _ ?_ | refine hK2.out _ ?_ | refine ⟨by kernel_rfl, hK2.out _ ?_⟩); clear hK1 hK2 K1 K2; simp [w5]); (try with_reducible refine AR.nil ?_)
      refine ⟨chk_text _ _, hK.out _ ?_⟩
      clear hK K
      with_reducible (repeat (first | refine AW.seq ?_ | refine AW.block ?_ | refine AW.skip ?_ | refine AW.exit ?_ | refine AW.ret ?_ | refine AW.label ?_ | refine NX.then ?_ | refine NX.ret ?_ | refine NX.exit ?_ | refine NX.inRet ?_ | refine NX.inNormal ?_ | refine NX.inExit ?_ | refine NX.outExit (by decide) ?_))
      exact NX.round ⟨k + 1, hgo⟩ (by show q.length - (k + 1) < q.length - k; omega) (fun _ _ h => AS.fold (fold_of (V := vw [] [] [] []) (by first | exact cx_pz _ _ _ | assumption) (by kernel_rfl) (by rfl) (by simp [tlO, tlB, foks_nil, foks_cons, fok_tmp, fok_vt, fok_cell, fok_nm, fok_zn, fok_hd, fok_df, Fv_c, Fv_seg, Fv_tup, Fv_agg, Fv_ptr, Fv_ptrs, Fv_fn, Fv_fnd, Fv_own, Fv_ownd, Fv_nown, Fv_vown, FvL_nil, FvL_cons, kvp_av, hdp_some, subz, frz, Uz, Nm, Uh, vw_nb, vw_zo, vw_zf, vw_hb, tb_nil, tb_cons, fzc_nil, fzc_cons, fzcaps_nil, fzcaps_cons])) h)
  · obtain rfl : k = q.length := by omega
    refine AW.re ty (by kernel_rfl) (by first | exact cx_N _ _ _ | assumption) (by first | exact cx_pz _ _ _ | assumption) 500 (by decide) (fun K hK => ?_)
    (try simp only [List.toList_toArray, toList_lit]); repeat (with_reducible refine AR.step (fun K1 K2 hK1 hK2 => ?_); simp; (first | refine hK1.out _ _ ?_ | refine hK2.out _ ?_ | refine ⟨by kernel_rfl, hK2.out _ ?_⟩); clear hK1 hK2 K1 K2; simp); (try with_reducible refine AR.nil ?_)
    refine ⟨chk_text _ _, hK.out _ ?_⟩
    clear hK K
    with_reducible (repeat (first | refine AW.seq ?_ | refine AW.block ?_ | refine AW.skip ?_ | refine AW.exit ?_ | refine AW.ret ?_ | refine AW.label ?_ | refine NX.then ?_ | refine NX.ret ?_ | refine NX.exit ?_ | refine NX.inRet ?_ | refine NX.inNormal ?_ | refine NX.inExit ?_ | refine NX.outExit (by decide) ?_))
    refine AW.cf rfl ?_
    with_reducible (repeat (first | refine AW.seq ?_ | refine AW.block ?_ | refine AW.skip ?_ | refine AW.exit ?_ | refine AW.ret ?_ | refine AW.label ?_ | refine NX.then ?_ | refine NX.ret ?_ | refine NX.exit ?_ | refine NX.inRet ?_ | refine NX.inNormal ?_ | refine NX.inExit ?_ | refine NX.outExit (by decide) ?_))
    refine AW.re ty (by kernel_rfl) (by first | exact cx_N _ _ _ | assumption) (by first | exact cx_pz _ _ _ | assumption) 600 (by decide) (fun K hK => ?_)
    (try simp only [List.toList_toArray, toList_lit]); repeat (with_reducible refine AR.step (fun K1 K2 hK1 hK2 => ?_); simp; (first | refine hK1.out _ _ ?_ | refine hK2.out _ ?_ | refine ⟨by kernel_rfl, hK2.out _ ?_⟩); clear hK1 hK2 K1 K2; simp); (try with_reducible refine AR.nil ?_)
    refine ⟨chk_text _ _, hK.out _ ?_⟩
    clear hK K
    with_reducible (repeat (first | refine AW.seq ?_ | refine AW.block ?_ | refine AW.skip ?_ | refine AW.exit ?_ | refine AW.ret ?_ | refine AW.label ?_ | refine NX.then ?_ | refine NX.ret ?_ | refine NX.exit ?_ | refine NX.inRet ?_ | refine NX.inNormal ?_ | refine NX.inExit ?_ | refine NX.outExit (by decide) ?_))
    refine AW.loop (X := { k : Nat // k ≤ nums.length }) (fun x => tlN l m q nums false (.c [] (.v (.slice none 0 0))) x.1) (fun x => nums.length - x.1) ⟨0, by simp⟩ (fun _ _ h => AS.fold (fold_of (V := vw [] [] [] []) (by first | exact cx_pz _ _ _ | assumption) (by kernel_rfl) (by rfl) (by simp [tlN, tlB, foks_nil, foks_cons, fok_tmp, fok_vt, fok_cell, fok_nm, fok_zn, fok_hd, fok_df, Fv_c, Fv_seg, Fv_tup, Fv_agg, Fv_ptr, Fv_ptrs, Fv_fn, Fv_fnd, Fv_own, Fv_ownd, Fv_nown, Fv_vown, FvL_nil, FvL_cons, kvp_av, hdp_some, subz, frz, Uz, Nm, Uh, vw_nb, vw_zo, vw_zf, vw_hb, tb_nil, tb_cons, fzc_nil, fzc_cons, fzcaps_nil, fzcaps_cons])) h) (fun x => ?_)
    obtain ⟨k3, hk3⟩ := x
    refine AW.at_ (fun L hL => ?_)
    simp [tlN, tlB] at hL
    subst hL
    with_reducible (repeat (first | refine AW.seq ?_ | refine AW.block ?_ | refine AW.skip ?_ | refine AW.exit ?_ | refine AW.ret ?_ | refine AW.label ?_ | refine NX.then ?_ | refine NX.ret ?_ | refine NX.exit ?_ | refine NX.inRet ?_ | refine NX.inNormal ?_ | refine NX.inExit ?_ | refine NX.outExit (by decide) ?_))
    by_cases hgo3 : k3 < nums.length
    · have w8 : IntKind.i64.wrap ((k3 : Int) + 1) = ((k3 + 1 : Nat) : Int) := by rw [i64_ok _ (by omega) (by unfold maxI at hN; omega)]; omega
      obtain ⟨a3, ha3⟩ : ∃ a3, nums[k3] = a3 := ⟨_, rfl⟩
      refine AW.re ty (by kernel_rfl) (by first | exact cx_N _ _ _ | assumption) (by first | exact cx_pz _ _ _ | assumption) 620 (by decide) (fun K hK => ?_)
      (try simp only [List.toList_toArray, toList_lit]); repeat (with_reducible refine AR.step (fun K1 K2 hK1 hK2 => ?_); simp [hgo3]; (first | refine hK1.out _ _ ?_ | refine hK2.out _ ?_ | refine ⟨by kernel_rfl, hK2.out _ ?_⟩); clear hK1 hK2 K1 K2; simp [hgo3]); (try with_reducible refine AR.nil ?_)
      refine ⟨chk_text _ _, hK.out _ ?_⟩
      clear hK K
      with_reducible (repeat (first | refine AW.seq ?_ | refine AW.block ?_ | refine AW.skip ?_ | refine AW.exit ?_ | refine AW.ret ?_ | refine AW.label ?_ | refine NX.then ?_ | refine NX.ret ?_ | refine NX.exit ?_ | refine NX.inRet ?_ | refine NX.inNormal ?_ | refine NX.inExit ?_ | refine NX.outExit (by decide) ?_))
      refine AW.ct rfl ?_
      with_reducible (repeat (first | refine AW.seq ?_ | refine AW.block ?_ | refine AW.skip ?_ | refine AW.exit ?_ | refine AW.ret ?_ | refine AW.label ?_ | refine NX.then ?_ | refine NX.ret ?_ | refine NX.exit ?_ | refine NX.inRet ?_ | refine NX.inNormal ?_ | refine NX.inExit ?_ | refine NX.outExit (by decide) ?_))
      refine AW.re ty (by kernel_rfl) (by first | exact cx_N _ _ _ | assumption) (by first | exact cx_pz _ _ _ | assumption) 630 (by decide) (fun K hK => ?_)
      (try simp only [List.toList_toArray, toList_lit]); repeat (with_reducible refine AR.step (fun K1 K2 hK1 hK2 => ?_); simp [hgo3]; (first | refine hK1.out _ _ ?_ | refine hK2.out _ ?_ | refine ⟨by kernel_rfl, hK2.out _ ?_⟩); clear hK1 hK2 K1 K2; simp [hgo3]); (try with_reducible refine AR.nil ?_)
      refine AR.step (fun K1 K2 hK1 hK2 => ?_)
      simp [hgo3]
      refine ⟨k3, uD a3, rfl, by simp [hgo3, ha3], ?_⟩
      refine hK1.out _ _ ?_
      clear hK1 hK2 K1 K2
      (try simp [hgo3])
      (try simp only [List.toList_toArray, toList_lit]); repeat (with_reducible refine AR.step (fun K1 K2 hK1 hK2 => ?_); simp [hgo3]; (first | refine hK1.out _ _ ?_ | refine hK2.out _ ?_ | refine ⟨by kernel_rfl, hK2.out _ ?_⟩); clear hK1 hK2 K1 K2; simp [hgo3]); (try with_reducible refine AR.nil ?_)
      refine ⟨chk_text _ _, hK.out _ ?_⟩
      clear hK K
      with_reducible (repeat (first | refine AW.seq ?_ | refine AW.block ?_ | refine AW.skip ?_ | refine AW.exit ?_ | refine AW.ret ?_ | refine AW.label ?_ | refine NX.then ?_ | refine NX.ret ?_ | refine NX.exit ?_ | refine NX.inRet ?_ | refine NX.inNormal ?_ | refine NX.inExit ?_ | refine NX.outExit (by decide) ?_))
      by_cases h10b : (k3 : Int) < 10
      · skip
        refine AW.re ty (by kernel_rfl) (by first | exact cx_N _ _ _ | assumption) (by first | exact cx_pz _ _ _ | assumption) 650 (by decide) (fun K hK => ?_)
        (try simp only [List.toList_toArray, toList_lit]); repeat (with_reducible refine AR.step (fun K1 K2 hK1 hK2 => ?_); simp [h10b]; (first | refine hK1.out _ _ ?_ | refine hK2.out _ ?_ | refine ⟨by kernel_rfl, hK2.out _ ?_⟩); clear hK1 hK2 K1 K2; simp [h10b]); (try with_reducible refine AR.nil ?_)
        refine AR.step (fun K1 K2 hK1 hK2 => ?_)
        simp [h10b]
        refine orr_l ⟨by kernel_rfl, .inl ⟨_, (sen a3), ?_⟩⟩
        (try simp [h10b])
        refine hK1.out _ _ ?_
        clear hK1 hK2 K1 K2
        (try simp [h10b])
        (try simp only [List.toList_toArray, toList_lit]); repeat (with_reducible refine AR.step (fun K1 K2 hK1 hK2 => ?_); simp [h10b]; (first | refine hK1.out _ _ ?_ | refine hK2.out _ ?_ | refine ⟨by kernel_rfl, hK2.out _ ?_⟩); clear hK1 hK2 K1 K2; simp [h10b]); (try with_reducible refine AR.nil ?_)
        refine AR.step (fun K1 K2 hK1 hK2 => ?_)
        simp [h10b]
        refine orr_l ⟨by kernel_rfl, .inr (.inl ⟨_, _, _, (rsen a3), ?_⟩)⟩
        (try simp [h10b])
        refine hK1.out _ _ ?_
        clear hK1 hK2 K1 K2
        (try simp [h10b])
        (try simp only [List.toList_toArray, toList_lit]); repeat (with_reducible refine AR.step (fun K1 K2 hK1 hK2 => ?_); simp [h10b]; (first | refine hK1.out _ _ ?_ | refine hK2.out _ ?_ | refine ⟨by kernel_rfl, hK2.out _ ?_⟩); clear hK1 hK2 K1 K2; simp [h10b]); (try with_reducible refine AR.nil ?_)
        refine AR.step (fun K1 K2 hK1 hK2 => ?_)
        simp [h10b]
        refine orr_l ⟨by kernel_rfl, .inl ⟨_, equn, ?_⟩⟩
        (try simp [h10b])
        refine hK1.out _ _ ?_
        clear hK1 hK2 K1 K2
        (try simp [h10b])
        (try simp only [List.toList_toArray, toList_lit]); repeat (with_reducible refine AR.step (fun K1 K2 hK1 hK2 => ?_); simp [h10b]; (first | refine hK1.out _ _ ?_ | refine hK2.out _ ?_ | refine ⟨by kernel_rfl, hK2.out _ ?_⟩); clear hK1 hK2 K1 K2; simp [h10b]); (try with_reducible refine AR.nil ?_)
        refine ⟨chk_text _ _, hK.out _ ?_⟩
        clear hK K
        with_reducible (repeat (first | refine AW.seq ?_ | refine AW.block ?_ | refine AW.skip ?_ | refine AW.exit ?_ | refine AW.ret ?_ | refine AW.label ?_ | refine NX.then ?_ | refine NX.ret ?_ | refine NX.exit ?_ | refine NX.inRet ?_ | refine NX.inNormal ?_ | refine NX.inExit ?_ | refine NX.outExit (by decide) ?_))
        refine AW.cf rfl ?_
        with_reducible (repeat (first | refine AW.seq ?_ | refine AW.block ?_ | refine AW.skip ?_ | refine AW.exit ?_ | refine AW.ret ?_ | refine AW.label ?_ | refine NX.then ?_ | refine NX.ret ?_ | refine NX.exit ?_ | refine NX.inRet ?_ | refine NX.inNormal ?_ | refine NX.inExit ?_ | refine NX.outExit (by decide) ?_))
        refine AW.re ty (by kernel_rfl) (by first | exact cx_N _ _ _ | assumption) (by first | exact cx_pz _ _ _ | assumption) 680 (by decide) (fun K hK => ?_)
        (try simp only [List.toList_toArray, toList_lit]); repeat (with_reducible refine AR.step (fun K1 K2 hK1 hK2 => ?_); simp [w8]; (first | refine hK1.out _ _ ?_ | refine hK2.out _ ?_ | refine ⟨by kernel_rfl, hK2.out _ ?_⟩); clear hK1 hK2 K1 K2; simp [w8]); (try with_reducible refine AR.nil ?_)
        refine ⟨chk_text _ _, hK.out _ ?_⟩
        clear hK K
        with_reducible (repeat (first | refine AW.seq ?_ | refine AW.block ?_ | refine AW.skip ?_ | refine AW.exit ?_ | refine AW.ret ?_ | refine AW.label ?_ | refine NX.then ?_ | refine NX.ret ?_ | refine NX.exit ?_ | refine NX.inRet ?_ | refine NX.inNormal ?_ | refine NX.inExit ?_ | refine NX.outExit (by decide) ?_))
        exact NX.round ⟨k3 + 1, hgo3⟩ (by show nums.length - (k3 + 1) < nums.length - k3; omega) (fun _ _ h => AS.fold (fold_of (V := vw [] [] [] []) (by first | exact cx_pz _ _ _ | assumption) (by kernel_rfl) (by rfl) (by simp [tlN, tlB, foks_nil, foks_cons, fok_tmp, fok_vt, fok_cell, fok_nm, fok_zn, fok_hd, fok_df, Fv_c, Fv_seg, Fv_tup, Fv_agg, Fv_ptr, Fv_ptrs, Fv_fn, Fv_fnd, Fv_own, Fv_ownd, Fv_nown, Fv_vown, FvL_nil, FvL_cons, kvp_av, hdp_some, subz, frz, Uz, Nm, Uh, vw_nb, vw_zo, vw_zf, vw_hb, tb_nil, tb_cons, fzc_nil, fzc_cons, fzcaps_nil, fzcaps_cons])) h)
      · skip
        refine AW.re ty (by kernel_rfl) (by first | exact cx_N _ _ _ | assumption) (by first | exact cx_pz _ _ _ | assumption) 650 (by decide) (fun K hK => ?_)
        (try simp only [List.toList_toArray, toList_lit]); repeat (with_reducible refine AR.step (fun K1 K2 hK1 hK2 => ?_); simp [h10b]; (first | refine hK1.out _ _ ?_ | refine hK2.out _ ?_ | refine ⟨by kernel_rfl, hK2.out _ ?_⟩); clear hK1 hK2 K1 K2; simp [h10b]); (try with_reducible refine AR.nil ?_)
        refine ⟨chk_text _ _, hK.out _ ?_⟩
        clear hK K
        with_reducible (repeat (first | refine AW.seq ?_ | refine AW.block ?_ | refine AW.skip ?_ | refine AW.exit ?_ | refine AW.ret ?_ | refine AW.label ?_ | refine NX.then ?_ | refine NX.ret ?_ | refine NX.exit ?_ | refine NX.inRet ?_ | refine NX.inNormal ?_ | refine NX.inExit ?_ | refine NX.outExit (by decide) ?_))
        refine AW.cf rfl ?_
        with_reducible (repeat (first | refine AW.seq ?_ | refine AW.block ?_ | refine AW.skip ?_ | refine AW.exit ?_ | refine AW.ret ?_ | refine AW.label ?_ | refine NX.then ?_ | refine NX.ret ?_ | refine NX.exit ?_ | refine NX.inRet ?_ | refine NX.inNormal ?_ | refine NX.inExit ?_ | refine NX.outExit (by decide) ?_))
        refine AW.re ty (by kernel_rfl) (by first | exact cx_N _ _ _ | assumption) (by first | exact cx_pz _ _ _ | assumption) 680 (by decide) (fun K hK => ?_)
        (try simp only [List.toList_toArray, toList_lit]); repeat (with_reducible refine AR.step (fun K1 K2 hK1 hK2 => ?_); simp [w8]; (first | refine hK1.out _ _ ?_ | refine hK2.out _ ?_ | refine ⟨by kernel_rfl, hK2.out _ ?_⟩); clear hK1 hK2 K1 K2; simp [w8]); (try with_reducible refine AR.nil ?_)
        refine ⟨chk_text _ _, hK.out _ ?_⟩
        clear hK K
        with_reducible (repeat (first | refine AW.seq ?_ | refine AW.block ?_ | refine AW.skip ?_ | refine AW.exit ?_ | refine AW.ret ?_ | refine AW.label ?_ | refine NX.then ?_ | refine NX.ret ?_ | refine NX.exit ?_ | refine NX.inRet ?_ | refine NX.inNormal ?_ | refine NX.inExit ?_ | refine NX.outExit (by decide) ?_))
        exact NX.round ⟨k3 + 1, hgo3⟩ (by show nums.length - (k3 + 1) < nums.length - k3; omega) (fun _ _ h => AS.fold (fold_of (V := vw [] [] [] []) (by first | exact cx_pz _ _ _ | assumption) (by kernel_rfl) (by rfl) (by simp [tlN, tlB, foks_nil, foks_cons, fok_tmp, fok_vt, fok_cell, fok_nm, fok_zn, fok_hd, fok_df, Fv_c, Fv_seg, Fv_tup, Fv_agg, Fv_ptr, Fv_ptrs, Fv_fn, Fv_fnd, Fv_own, Fv_ownd, Fv_nown, Fv_vown, FvL_nil, FvL_cons, kvp_av, hdp_some, subz, frz, Uz, Nm, Uh, vw_nb, vw_zo, vw_zf, vw_hb, tb_nil, tb_cons, fzc_nil, fzc_cons, fzcaps_nil, fzcaps_cons])) h)
    · obtain rfl : k3 = nums.length := by omega
      refine AW.re ty (by kernel_rfl) (by first | exact cx_N _ _ _ | assumption) (by first | exact cx_pz _ _ _ | assumption) 700 (by decide) (fun K hK => ?_)
      (try simp only [List.toList_toArray, toList_lit]); repeat (with_reducible refine AR.step (fun K1 K2 hK1 hK2 => ?_); simp; (first | refine hK1.out _ _ ?_ | refine hK2.out _ ?_ | refine ⟨by kernel_rfl, hK2.out _ ?_⟩); clear hK1 hK2 K1 K2; simp); (try with_reducible refine AR.nil ?_)
      refine ⟨chk_text _ _, hK.out _ ?_⟩
      clear hK K
      with_reducible (repeat (first | refine AW.seq ?_ | refine AW.block ?_ | refine AW.skip ?_ | refine AW.exit ?_ | refine AW.ret ?_ | refine AW.label ?_ | refine NX.then ?_ | refine NX.ret ?_ | refine NX.exit ?_ | refine NX.inRet ?_ | refine NX.inNormal ?_ | refine NX.inExit ?_ | refine NX.outExit (by decide) ?_))
      refine AW.cf rfl ?_
      with_reducible (repeat (first | refine AW.seq ?_ | refine AW.block ?_ | refine AW.skip ?_ | refine AW.exit ?_ | refine AW.ret ?_ | refine AW.label ?_ | refine NX.then ?_ | refine NX.ret ?_ | refine NX.exit ?_ | refine NX.inRet ?_ | refine NX.inNormal ?_ | refine NX.inExit ?_ | refine NX.outExit (by decide) ?_))
      refine AW.re ty (by kernel_rfl) (by first | exact cx_N _ _ _ | assumption) (by first | exact cx_pz _ _ _ | assumption) 720 (by decide) (fun K hK => ?_)
      (try simp only [List.toList_toArray, toList_lit]); repeat (with_reducible refine AR.step (fun K1 K2 hK1 hK2 => ?_); simp; (first | refine hK1.out _ _ ?_ | refine hK2.out _ ?_ | refine ⟨by kernel_rfl, hK2.out _ ?_⟩); clear hK1 hK2 K1 K2; simp); (try with_reducible refine AR.nil ?_)
      refine AR.step (fun K1 K2 hK1 hK2 => ?_)
      simp
      refine orr_l ⟨by kernel_rfl, .inl ⟨_, ctn, ?_⟩⟩
      (try simp)
      refine hK1.out _ _ ?_
      clear hK1 hK2 K1 K2
      (try simp)
      (try simp only [List.toList_toArray, toList_lit]); repeat (with_reducible refine AR.step (fun K1 K2 hK1 hK2 => ?_); simp; (first | refine hK1.out _ _ ?_ | refine hK2.out _ ?_ | refine ⟨by kernel_rfl, hK2.out _ ?_⟩); clear hK1 hK2 K1 K2; simp); (try with_reducible refine AR.nil ?_)
      refine ⟨chk_text _ _, hK.out _ ?_⟩
      clear hK K
      with_reducible (repeat (first | refine AW.seq ?_ | refine AW.block ?_ | refine AW.skip ?_ | refine AW.exit ?_ | refine AW.ret ?_ | refine AW.label ?_ | refine NX.then ?_ | refine NX.ret ?_ | refine NX.exit ?_ | refine NX.inRet ?_ | refine NX.inNormal ?_ | refine NX.inExit ?_ | refine NX.outExit (by decide) ?_))
      refine AW.re ty (by kernel_rfl) (by first | exact cx_N _ _ _ | assumption) (by first | exact cx_pz _ _ _ | assumption) 730 (by decide) (fun K hK => ?_)
      (try simp only [List.toList_toArray, toList_lit]); repeat (with_reducible refine AR.step (fun K1 K2 hK1 hK2 => ?_); simp; (first | refine hK1.out _ _ ?_ | refine hK2.out _ ?_ | refine ⟨by kernel_rfl, hK2.out _ ?_⟩); clear hK1 hK2 K1 K2; simp); (try with_reducible refine AR.nil ?_)
      refine ⟨chk_text _ _, hK.out _ ?_⟩
      clear hK K
      with_reducible (repeat (first | refine AW.seq ?_ | refine AW.block ?_ | refine AW.skip ?_ | refine AW.exit ?_ | refine AW.ret ?_ | refine AW.label ?_ | refine NX.then ?_ | refine NX.ret ?_ | refine NX.exit ?_ | refine NX.inRet ?_ | refine NX.inNormal ?_ | refine NX.inExit ?_ | refine NX.outExit (by decide) ?_))
      refine AW.cf rfl ?_
      with_reducible (repeat (first | refine AW.seq ?_ | refine AW.block ?_ | refine AW.skip ?_ | refine AW.exit ?_ | refine AW.ret ?_ | refine AW.label ?_ | refine NX.then ?_ | refine NX.ret ?_ | refine NX.exit ?_ | refine NX.inRet ?_ | refine NX.inNormal ?_ | refine NX.inExit ?_ | refine NX.outExit (by decide) ?_))
      refine AW.re ty (by kernel_rfl) (by first | exact cx_N _ _ _ | assumption) (by first | exact cx_pz _ _ _ | assumption) 740 (by decide) (fun K hK => ?_)
      (try simp only [List.toList_toArray, toList_lit]); repeat (with_reducible refine AR.step (fun K1 K2 hK1 hK2 => ?_); simp; (first | refine hK1.out _ _ ?_ | refine hK2.out _ ?_ | refine ⟨by kernel_rfl, hK2.out _ ?_⟩); clear hK1 hK2 K1 K2; simp); (try with_reducible refine AR.nil ?_)
      refine AR.step (fun K1 K2 hK1 hK2 => ?_)
      simp
      refine orr_l ⟨by kernel_rfl, .inr (.inl ⟨_, _, _, crt, ?_⟩)⟩
      (try simp)
      refine hK1.out _ _ ?_
      clear hK1 hK2 K1 K2
      (try simp)
      (try simp only [List.toList_toArray, toList_lit]); repeat (with_reducible refine AR.step (fun K1 K2 hK1 hK2 => ?_); simp; (first | refine hK1.out _ _ ?_ | refine hK2.out _ ?_ | refine ⟨by kernel_rfl, hK2.out _ ?_⟩); clear hK1 hK2 K1 K2; simp); (try with_reducible refine AR.nil ?_)
      refine AR.step (fun K1 K2 hK1 hK2 => ?_)
      simp
      refine orr_l ⟨by kernel_rfl, .inl ⟨_, ceq, ?_⟩⟩
      (try simp)
      refine hK1.out _ _ ?_
      clear hK1 hK2 K1 K2
      (try simp)
      (try simp only [List.toList_toArray, toList_lit]); repeat (with_reducible refine AR.step (fun K1 K2 hK1 hK2 => ?_); simp; (first | refine hK1.out _ _ ?_ | refine hK2.out _ ?_ | refine ⟨by kernel_rfl, hK2.out _ ?_⟩); clear hK1 hK2 K1 K2; simp); (try with_reducible refine AR.nil ?_)
      refine AR.step (fun K1 K2 hK1 hK2 => ?_)
      simp
      refine orr_l ⟨by kernel_rfl, .inl ⟨_, cfi, ?_⟩⟩
      (try simp)
      refine hK1.out _ _ ?_
      clear hK1 hK2 K1 K2
      (try simp)
      (try simp only [List.toList_toArray, toList_lit]); repeat (with_reducible refine AR.step (fun K1 K2 hK1 hK2 => ?_); simp; (first | refine hK1.out _ _ ?_ | refine hK2.out _ ?_ | refine ⟨by kernel_rfl, hK2.out _ ?_⟩); clear hK1 hK2 K1 K2; simp); (try with_reducible refine AR.nil ?_)
      refine AR.step (fun K1 K2 hK1 hK2 => ?_)
      simp
      refine orr_l ⟨by kernel_rfl, .inr (.inl ⟨_, _, _, crf, ?_⟩)⟩
      (try simp)
      refine hK1.out _ _ ?_
      clear hK1 hK2 K1 K2
      (try simp)
      (try simp only [List.toList_toArray, toList_lit]); repeat (with_reducible refine AR.step (fun K1 K2 hK1 hK2 => ?_); simp; (first | refine hK1.out _ _ ?_ | refine hK2.out _ ?_ | refine ⟨by kernel_rfl, hK2.out _ ?_⟩); clear hK1 hK2 K1 K2; simp); (try with_reducible refine AR.nil ?_)
      refine AR.step (fun K1 K2 hK1 hK2 => ?_)
      simp
      refine orr_l ⟨by kernel_rfl, .inl ⟨_, cefi, ?_⟩⟩
      (try simp)
      refine hK1.out _ _ ?_
      clear hK1 hK2 K1 K2
      (try simp)
      (try simp only [List.toList_toArray, toList_lit]); repeat (with_reducible refine AR.step (fun K1 K2 hK1 hK2 => ?_); simp; (first | refine hK1.out _ _ ?_ | refine hK2.out _ ?_ | refine ⟨by kernel_rfl, hK2.out _ ?_⟩); clear hK1 hK2 K1 K2; simp); (try with_reducible refine AR.nil ?_)
      refine AR.step (fun K1 K2 hK1 hK2 => ?_)
      simp
      refine orr_l ⟨by kernel_rfl, .inr (.inl ⟨_, _, _, cf, ?_⟩)⟩
      (try simp)
      refine hK1.out _ _ ?_
      clear hK1 hK2 K1 K2
      (try simp)
      (try simp only [List.toList_toArray, toList_lit]); repeat (with_reducible refine AR.step (fun K1 K2 hK1 hK2 => ?_); simp; (first | refine hK1.out _ _ ?_ | refine hK2.out _ ?_ | refine ⟨by kernel_rfl, hK2.out _ ?_⟩); clear hK1 hK2 K1 K2; simp); (try with_reducible refine AR.nil ?_)
      refine AR.step (fun K1 K2 hK1 hK2 => ?_)
      simp
      refine orr_l ⟨by kernel_rfl, .inl ⟨_, cem, ?_⟩⟩
      (try simp)
      refine hK1.out _ _ ?_
      clear hK1 hK2 K1 K2
      (try simp)
      (try simp only [List.toList_toArray, toList_lit]); repeat (with_reducible refine AR.step (fun K1 K2 hK1 hK2 => ?_); simp; (first | refine hK1.out _ _ ?_ | refine hK2.out _ ?_ | refine ⟨by kernel_rfl, hK2.out _ ?_⟩); clear hK1 hK2 K1 K2; simp); (try with_reducible refine AR.nil ?_)
      refine ⟨chk_text _ _, hK.out _ ?_⟩
      clear hK K
      with_reducible (repeat (first | refine AW.seq ?_ | refine AW.block ?_ | refine AW.skip ?_ | refine AW.exit ?_ | refine AW.ret ?_ | refine AW.label ?_ | refine NX.then ?_ | refine NX.ret ?_ | refine NX.exit ?_ | refine NX.inRet ?_ | refine NX.inNormal ?_ | refine NX.inExit ?_ | refine NX.outExit (by decide) ?_))
      refine nx_ret (T := ty) (rs := [.tmp 6]) (zs := []) (ds := [dB true]) (rr := []) (.inr rfl) rfl (by kernel_rfl) (by kernel_rfl) (by simp) rfl
def tlV (l m q : List Pr) (nums : List Int) (b : Bool) (ka : AV) (k : Nat) (d : D) (n j : Nat) : Row := [(.zn 900, .zn .live), (.tmp 13, .av (.c [900] d)), (.tmp 67, .av (.c [] (.v (.int .i64 n)))), (.tmp 68, .av (.c [] (.v (.int .i64 j))))] ++ tlO l m q nums b ka k
set_option maxHeartbeats 16000000 in
theorem tells_yes (l m q : List Pr) (nums : List Int) (hm : l.take 40 = m) (pairs : List Pr) (hq : pairs.take 40 = q) (hml : m.length ≤ 40) (hql : q.length ≤ 40) (hmb : ∀ p ∈ m, 0 ≤ p.2) (hN : nums.length ≤ maxI) (hr : rightL m = true) : Ct Try.prog 11 [.c (RD l), .c (RD pairs), .c (UD nums)] none (.one (dB true)) := by
  have cw := wakes03_ct
  have cf := few03_ct l
  rw [hm] at cf
  have cq := few03_ct pairs
  rw [hq] at cq
  have cr := rright_ct m
  rw [hr] at cr
  have hri := right_rises hr
  have eqn : Ct Try.prog 40 [.c (.v (.slice none 0 0)), .c (RD [])] none (.one (dB true)) := Ct.niln (sz := 2) (by have h := equal_ct [] []; simp at h; exact h)
  have ctn := turn_ct m (by omega) hr
  have crt := rturn_ct m (by omega)
  have ceq := equal_ct (ofL (m.map turnP)) (ofL (m.map turnP))
  rw [decide_eq_true rfl] at ceq
  generalize ofL (m.map turnP) = T at ctn crt ceq
  have cfi := firsts_ct m (by omega) hr
  change Ct _ _ _ _ (.one (.c (UD (firL m)))) at cfi
  have crf := rfirsts_ct m (by omega)
  have hFl : (firL m).length ≤ 1000000 := by
    have := ddI_len (m.map fun p => p.1)
    rw [List.length_map] at this
    exact Nat.le_trans (show (firL m).length ≤ m.length from this) (by omega)
  have cefi := equalU_ct (firL m) (firL m) hFl hFl
  rw [decide_eq_true rfl] at cefi
  generalize firL m = F at cfi crf cefi
  have cem := equal_ct m m
  rw [decide_eq_true rfl] at cem
  refine ct_intro Try.func11 rfl Try.ntmps11 (by simp) (fun W0 Z => ?_)
  with_reducible (repeat (first | refine AW.seq ?_ | refine AW.block ?_ | refine AW.skip ?_ | refine AW.exit ?_ | refine AW.ret ?_ | refine AW.label ?_ | refine NX.then ?_ | refine NX.ret ?_ | refine NX.exit ?_ | refine NX.inRet ?_ | refine NX.inNormal ?_ | refine NX.inExit ?_ | refine NX.outExit (by decide) ?_))
  refine AW.at_ (fun L hL => ?_)
  simp at hL
  subst hL
  refine AW.re ty (by kernel_rfl) (by first | exact cx_N _ _ _ | assumption) (by first | exact cx_pz _ _ _ | assumption) 1 (by decide) (fun K hK => ?_)
  (try simp only [List.toList_toArray, toList_lit]); repeat (with_reducible refine AR.step (fun K1 K2 hK1 hK2 => ?_); simp; (first | refine hK1.out _ _ ?_ | refine hK2.out _ ?_ | refine ⟨by kernel_rfl, hK2.out _ ?_⟩); clear hK1 hK2 K1 K2; simp); (try with_reducible refine AR.nil ?_)
  refine ⟨chk_text _ _, hK.out _ ?_⟩
  clear hK K
  with_reducible (repeat (first | refine AW.seq ?_ | refine AW.block ?_ | refine AW.skip ?_ | refine AW.exit ?_ | refine AW.ret ?_ | refine AW.label ?_ | refine NX.then ?_ | refine NX.ret ?_ | refine NX.exit ?_ | refine NX.inRet ?_ | refine NX.inNormal ?_ | refine NX.inExit ?_ | refine NX.outExit (by decide) ?_))
  refine AW.re ty (by kernel_rfl) (by first | exact cx_N _ _ _ | assumption) (by first | exact cx_pz _ _ _ | assumption) 10 (by decide) (fun K hK => ?_)
  (try simp only [List.toList_toArray, toList_lit]); repeat (with_reducible refine AR.step (fun K1 K2 hK1 hK2 => ?_); simp; (first | refine hK1.out _ _ ?_ | refine hK2.out _ ?_ | refine ⟨by kernel_rfl, hK2.out _ ?_⟩); clear hK1 hK2 K1 K2; simp); (try with_reducible refine AR.nil ?_)
  refine AR.step (fun K1 K2 hK1 hK2 => ?_)
  simp
  refine orr_l ⟨by kernel_rfl, .inl ⟨_, cw, ?_⟩⟩
  (try simp)
  refine hK1.out _ _ ?_
  clear hK1 hK2 K1 K2
  (try simp)
  (try simp only [List.toList_toArray, toList_lit]); repeat (with_reducible refine AR.step (fun K1 K2 hK1 hK2 => ?_); simp; (first | refine hK1.out _ _ ?_ | refine hK2.out _ ?_ | refine ⟨by kernel_rfl, hK2.out _ ?_⟩); clear hK1 hK2 K1 K2; simp); (try with_reducible refine AR.nil ?_)
  refine ⟨chk_text _ _, hK.out _ ?_⟩
  clear hK K
  with_reducible (repeat (first | refine AW.seq ?_ | refine AW.block ?_ | refine AW.skip ?_ | refine AW.exit ?_ | refine AW.ret ?_ | refine AW.label ?_ | refine NX.then ?_ | refine NX.ret ?_ | refine NX.exit ?_ | refine NX.inRet ?_ | refine NX.inNormal ?_ | refine NX.inExit ?_ | refine NX.outExit (by decide) ?_))
  refine AW.cf rfl ?_
  with_reducible (repeat (first | refine AW.seq ?_ | refine AW.block ?_ | refine AW.skip ?_ | refine AW.exit ?_ | refine AW.ret ?_ | refine AW.label ?_ | refine NX.then ?_ | refine NX.ret ?_ | refine NX.exit ?_ | refine NX.inRet ?_ | refine NX.inNormal ?_ | refine NX.inExit ?_ | refine NX.outExit (by decide) ?_))
  refine AW.re ty (by kernel_rfl) (by first | exact cx_N _ _ _ | assumption) (by first | exact cx_pz _ _ _ | assumption) 20 (by decide) (fun K hK => ?_)
  (try simp only [List.toList_toArray, toList_lit]); repeat (with_reducible refine AR.step (fun K1 K2 hK1 hK2 => ?_); simp; (first | refine hK1.out _ _ ?_ | refine hK2.out _ ?_ | refine ⟨by kernel_rfl, hK2.out _ ?_⟩); clear hK1 hK2 K1 K2; simp); (try with_reducible refine AR.nil ?_)
  refine AR.step (fun K1 K2 hK1 hK2 => ?_)
  simp
  refine orr_l ⟨by kernel_rfl, .inr (.inl ⟨_, _, _, cf, ?_⟩)⟩
  (try simp)
  refine hK1.out _ _ ?_
  clear hK1 hK2 K1 K2
  (try simp)
  (try simp only [List.toList_toArray, toList_lit]); repeat (with_reducible refine AR.step (fun K1 K2 hK1 hK2 => ?_); simp; (first | refine hK1.out _ _ ?_ | refine hK2.out _ ?_ | refine ⟨by kernel_rfl, hK2.out _ ?_⟩); clear hK1 hK2 K1 K2; simp); (try with_reducible refine AR.nil ?_)
  refine ⟨chk_text _ _, hK.out _ ?_⟩
  clear hK K
  with_reducible (repeat (first | refine AW.seq ?_ | refine AW.block ?_ | refine AW.skip ?_ | refine AW.exit ?_ | refine AW.ret ?_ | refine AW.label ?_ | refine NX.then ?_ | refine NX.ret ?_ | refine NX.exit ?_ | refine NX.inRet ?_ | refine NX.inNormal ?_ | refine NX.inExit ?_ | refine NX.outExit (by decide) ?_))
  refine AW.re ty (by kernel_rfl) (by first | exact cx_N _ _ _ | assumption) (by first | exact cx_pz _ _ _ | assumption) 24 (by decide) (fun K hK => ?_)
  (try simp only [List.toList_toArray, toList_lit]); repeat (with_reducible refine AR.step (fun K1 K2 hK1 hK2 => ?_); simp; (first | refine hK1.out _ _ ?_ | refine hK2.out _ ?_ | refine ⟨by kernel_rfl, hK2.out _ ?_⟩); clear hK1 hK2 K1 K2; simp); (try with_reducible refine AR.nil ?_)
  refine AR.step (fun K1 K2 hK1 hK2 => ?_)
  simp
  refine orr_l ⟨by kernel_rfl, .inl ⟨_, cr, ?_⟩⟩
  (try simp)
  refine hK1.out _ _ ?_
  clear hK1 hK2 K1 K2
  (try simp)
  (try simp only [List.toList_toArray, toList_lit]); repeat (with_reducible refine AR.step (fun K1 K2 hK1 hK2 => ?_); simp; (first | refine hK1.out _ _ ?_ | refine hK2.out _ ?_ | refine ⟨by kernel_rfl, hK2.out _ ?_⟩); clear hK1 hK2 K1 K2; simp); (try with_reducible refine AR.nil ?_)
  refine ⟨chk_text _ _, hK.out _ ?_⟩
  clear hK K
  with_reducible (repeat (first | refine AW.seq ?_ | refine AW.block ?_ | refine AW.skip ?_ | refine AW.exit ?_ | refine AW.ret ?_ | refine AW.label ?_ | refine NX.then ?_ | refine NX.ret ?_ | refine NX.exit ?_ | refine NX.inRet ?_ | refine NX.inNormal ?_ | refine NX.inExit ?_ | refine NX.outExit (by decide) ?_))
  refine AW.re ty (by kernel_rfl) (by first | exact cx_N _ _ _ | assumption) (by first | exact cx_pz _ _ _ | assumption) 30 (by decide) (fun K hK => ?_)
  (try simp only [List.toList_toArray, toList_lit]); repeat (with_reducible refine AR.step (fun K1 K2 hK1 hK2 => ?_); simp; (first | refine hK1.out _ _ ?_ | refine hK2.out _ ?_ | refine ⟨by kernel_rfl, hK2.out _ ?_⟩); clear hK1 hK2 K1 K2; simp); (try with_reducible refine AR.nil ?_)
  refine ⟨chk_text _ _, hK.out _ ?_⟩
  clear hK K
  with_reducible (repeat (first | refine AW.seq ?_ | refine AW.block ?_ | refine AW.skip ?_ | refine AW.exit ?_ | refine AW.ret ?_ | refine AW.label ?_ | refine NX.then ?_ | refine NX.ret ?_ | refine NX.exit ?_ | refine NX.inRet ?_ | refine NX.inNormal ?_ | refine NX.inExit ?_ | refine NX.outExit (by decide) ?_))
  refine AW.re ty (by kernel_rfl) (by first | exact cx_N _ _ _ | assumption) (by first | exact cx_pz _ _ _ | assumption) 32 (by decide) (fun K hK => ?_)
  (try simp only [List.toList_toArray, toList_lit]); repeat (with_reducible refine AR.step (fun K1 K2 hK1 hK2 => ?_); simp; (first | refine hK1.out _ _ ?_ | refine hK2.out _ ?_ | refine ⟨by kernel_rfl, hK2.out _ ?_⟩); clear hK1 hK2 K1 K2; simp); (try with_reducible refine AR.nil ?_)
  refine ⟨chk_text _ _, hK.out _ ?_⟩
  clear hK K
  with_reducible (repeat (first | refine AW.seq ?_ | refine AW.block ?_ | refine AW.skip ?_ | refine AW.exit ?_ | refine AW.ret ?_ | refine AW.label ?_ | refine NX.then ?_ | refine NX.ret ?_ | refine NX.exit ?_ | refine NX.inRet ?_ | refine NX.inNormal ?_ | refine NX.inExit ?_ | refine NX.outExit (by decide) ?_))
  refine AW.ct rfl ?_
  with_reducible (repeat (first | refine AW.seq ?_ | refine AW.block ?_ | refine AW.skip ?_ | refine AW.exit ?_ | refine AW.ret ?_ | refine AW.label ?_ | refine NX.then ?_ | refine NX.ret ?_ | refine NX.exit ?_ | refine NX.inRet ?_ | refine NX.inNormal ?_ | refine NX.inExit ?_ | refine NX.outExit (by decide) ?_))
  refine AW.re ty (by kernel_rfl) (by first | exact cx_N _ _ _ | assumption) (by first | exact cx_pz _ _ _ | assumption) 36 (by decide) (fun K hK => ?_)
  (try simp only [List.toList_toArray, toList_lit]); repeat (with_reducible refine AR.step (fun K1 K2 hK1 hK2 => ?_); simp; (first | refine hK1.out _ _ ?_ | refine hK2.out _ ?_ | refine ⟨by kernel_rfl, hK2.out _ ?_⟩); clear hK1 hK2 K1 K2; simp); (try with_reducible refine AR.nil ?_)
  refine ⟨chk_text _ _, hK.out _ ?_⟩
  clear hK K
  with_reducible (repeat (first | refine AW.seq ?_ | refine AW.block ?_ | refine AW.skip ?_ | refine AW.exit ?_ | refine AW.ret ?_ | refine AW.label ?_ | refine NX.then ?_ | refine NX.ret ?_ | refine NX.exit ?_ | refine NX.inRet ?_ | refine NX.inNormal ?_ | refine NX.inExit ?_ | refine NX.outExit (by decide) ?_))
  refine AW.re ty (by kernel_rfl) (by first | exact cx_N _ _ _ | assumption) (by first | exact cx_pz _ _ _ | assumption) 40 (by decide) (fun K hK => ?_)
  (try simp only [List.toList_toArray, toList_lit]); repeat (with_reducible refine AR.step (fun K1 K2 hK1 hK2 => ?_); simp; (first | refine hK1.out _ _ ?_ | refine hK2.out _ ?_ | refine ⟨by kernel_rfl, hK2.out _ ?_⟩); clear hK1 hK2 K1 K2; simp); (try with_reducible refine AR.nil ?_)
  refine AR.step (fun K1 K2 hK1 hK2 => ?_)
  simp
  refine orr_l ⟨by kernel_rfl, .inr (.inl ⟨_, _, _, cq, ?_⟩)⟩
  (try simp)
  refine hK1.out _ _ ?_
  clear hK1 hK2 K1 K2
  (try simp)
  (try simp only [List.toList_toArray, toList_lit]); repeat (with_reducible refine AR.step (fun K1 K2 hK1 hK2 => ?_); simp; (first | refine hK1.out _ _ ?_ | refine hK2.out _ ?_ | refine ⟨by kernel_rfl, hK2.out _ ?_⟩); clear hK1 hK2 K1 K2; simp); (try with_reducible refine AR.nil ?_)
  refine ⟨chk_text _ _, hK.out _ ?_⟩
  clear hK K
  with_reducible (repeat (first | refine AW.seq ?_ | refine AW.block ?_ | refine AW.skip ?_ | refine AW.exit ?_ | refine AW.ret ?_ | refine AW.label ?_ | refine NX.then ?_ | refine NX.ret ?_ | refine NX.exit ?_ | refine NX.inRet ?_ | refine NX.inNormal ?_ | refine NX.inExit ?_ | refine NX.outExit (by decide) ?_))
  refine AW.re ty (by kernel_rfl) (by first | exact cx_N _ _ _ | assumption) (by first | exact cx_pz _ _ _ | assumption) 50 (by decide) (fun K hK => ?_)
  (try simp only [List.toList_toArray, toList_lit]); repeat (with_reducible refine AR.step (fun K1 K2 hK1 hK2 => ?_); simp; (first | refine hK1.out _ _ ?_ | refine hK2.out _ ?_ | refine ⟨by kernel_rfl, hK2.out _ ?_⟩); clear hK1 hK2 K1 K2; simp); (try with_reducible refine AR.nil ?_)
  refine ⟨chk_text _ _, hK.out _ ?_⟩
  clear hK K
  with_reducible (repeat (first | refine AW.seq ?_ | refine AW.block ?_ | refine AW.skip ?_ | refine AW.exit ?_ | refine AW.ret ?_ | refine AW.label ?_ | refine NX.then ?_ | refine NX.ret ?_ | refine NX.exit ?_ | refine NX.inRet ?_ | refine NX.inNormal ?_ | refine NX.inExit ?_ | refine NX.outExit (by decide) ?_))
  refine AW.loop (X := { k : Nat // k ≤ q.length }) (fun x => tlO l m q nums true (.own 21) x.1) (fun x => q.length - x.1) ⟨0, by simp⟩ (fun _ _ h => AS.fold (fold_of (V := vw [] [] [] []) (by first | exact cx_pz _ _ _ | assumption) (by kernel_rfl) (by rfl) (by simp [tlO, tlB, foks_nil, foks_cons, fok_tmp, fok_vt, fok_cell, fok_nm, fok_zn, fok_hd, fok_df, Fv_c, Fv_seg, Fv_tup, Fv_agg, Fv_ptr, Fv_ptrs, Fv_fn, Fv_fnd, Fv_own, Fv_ownd, Fv_nown, Fv_vown, FvL_nil, FvL_cons, kvp_av, hdp_some, subz, frz, Uz, Nm, Uh, vw_nb, vw_zo, vw_zf, vw_hb, tb_nil, tb_cons, fzc_nil, fzc_cons, fzcaps_nil, fzcaps_cons])) h) (fun x => ?_)
  obtain ⟨k, hk⟩ := x
  refine AW.at_ (fun L hL => ?_)
  simp [tlO, tlB] at hL
  subst hL
  with_reducible (repeat (first | refine AW.seq ?_ | refine AW.block ?_ | refine AW.skip ?_ | refine AW.exit ?_ | refine AW.ret ?_ | refine AW.label ?_ | refine NX.then ?_ | refine NX.ret ?_ | refine NX.exit ?_ | refine NX.inRet ?_ | refine NX.inNormal ?_ | refine NX.inExit ?_ | refine NX.outExit (by decide) ?_))
  by_cases hgo : k < q.length
  · have w5 : IntKind.i64.wrap ((k : Int) + 1) = ((k + 1 : Nat) : Int) := by rw [i64_ok _ (by omega) (by omega)]; omega
    obtain ⟨x, hx⟩ : ∃ x, q[k] = x := ⟨_, rfl⟩
    have hq0 : (q.length : Int) ≠ 0 := by omega
    have hq0' : q ≠ [] := by rintro rfl; simp at hgo
    have hj : (k + 1) % q.length < q.length := Nat.mod_lt _ (by omega)
    have wj : ((k : Int) + 1).tmod (q.length : Int) = (((k + 1) % q.length : Nat) : Int) := by rw [Int.tmod_eq_emod_of_nonneg (by omega)]; simp
    obtain ⟨j0, hj0⟩ : ∃ j0, (k + 1) % q.length = j0 := ⟨_, rfl⟩
    rw [hj0] at hj wj
    obtain ⟨y, hy⟩ : ∃ y, q[j0] = y := ⟨_, rfl⟩
    refine AW.re ty (by kernel_rfl) (by first | exact cx_N _ _ _ | assumption) (by first | exact cx_pz _ _ _ | assumption) 110 (by decide) (fun K hK => ?_)
    (try simp only [List.toList_toArray, toList_lit]); repeat (with_reducible refine AR.step (fun K1 K2 hK1 hK2 => ?_); simp [hgo]; (first | refine hK1.out _ _ ?_ | refine hK2.out _ ?_ | refine ⟨by kernel_rfl, hK2.out _ ?_⟩); clear hK1 hK2 K1 K2; simp [hgo]); (try with_reducible refine AR.nil ?_)
    refine ⟨chk_text _ _, hK.out _ ?_⟩
    clear hK K
    with_reducible (repeat (first | refine AW.seq ?_ | refine AW.block ?_ | refine AW.skip ?_ | refine AW.exit ?_ | refine AW.ret ?_ | refine AW.label ?_ | refine NX.then ?_ | refine NX.ret ?_ | refine NX.exit ?_ | refine NX.inRet ?_ | refine NX.inNormal ?_ | refine NX.inExit ?_ | refine NX.outExit (by decide) ?_))
    refine AW.ct rfl ?_
    with_reducible (repeat (first | refine AW.seq ?_ | refine AW.block ?_ | refine AW.skip ?_ | refine AW.exit ?_ | refine AW.ret ?_ | refine AW.label ?_ | refine NX.then ?_ | refine NX.ret ?_ | refine NX.exit ?_ | refine NX.inRet ?_ | refine NX.inNormal ?_ | refine NX.inExit ?_ | refine NX.outExit (by decide) ?_))
    refine AW.re ty (by kernel_rfl) (by first | exact cx_N _ _ _ | assumption) (by first | exact cx_pz _ _ _ | assumption) 120 (by decide) (fun K hK => ?_)
    (try simp only [List.toList_toArray, toList_lit]); repeat (with_reducible refine AR.step (fun K1 K2 hK1 hK2 => ?_); simp [hgo]; (first | refine hK1.out _ _ ?_ | refine hK2.out _ ?_ | refine ⟨by kernel_rfl, hK2.out _ ?_⟩); clear hK1 hK2 K1 K2; simp [hgo]); (try with_reducible refine AR.nil ?_)
    refine AR.step (fun K1 K2 hK1 hK2 => ?_)
    simp [hgo]
    refine ⟨k, PD x, rfl, by simp [hgo, hx], ?_⟩
    refine hK1.out _ _ ?_
    clear hK1 hK2 K1 K2
    (try simp [hgo])
    (try simp only [List.toList_toArray, toList_lit]); repeat (with_reducible refine AR.step (fun K1 K2 hK1 hK2 => ?_); simp [hgo]; (first | refine hK1.out _ _ ?_ | refine hK2.out _ ?_ | refine ⟨by kernel_rfl, hK2.out _ ?_⟩); clear hK1 hK2 K1 K2; simp [hgo]); (try with_reducible refine AR.nil ?_)
    refine ⟨chk_text _ _, hK.out _ ?_⟩
    clear hK K
    with_reducible (repeat (first | refine AW.seq ?_ | refine AW.block ?_ | refine AW.skip ?_ | refine AW.exit ?_ | refine AW.ret ?_ | refine AW.label ?_ | refine NX.then ?_ | refine NX.ret ?_ | refine NX.exit ?_ | refine NX.inRet ?_ | refine NX.inNormal ?_ | refine NX.inExit ?_ | refine NX.outExit (by decide) ?_))
    by_cases h10 : (k : Int) = 10
    · skip
      refine AW.re ty (by kernel_rfl) (by first | exact cx_N _ _ _ | assumption) (by first | exact cx_pz _ _ _ | assumption) 140 (by decide) (fun K hK => ?_)
      (try simp only [List.toList_toArray, toList_lit]); repeat (with_reducible refine AR.step (fun K1 K2 hK1 hK2 => ?_); simp [h10]; (first | refine hK1.out _ _ ?_ | refine hK2.out _ ?_ | refine ⟨by kernel_rfl, hK2.out _ ?_⟩); clear hK1 hK2 K1 K2; simp [h10]); (try with_reducible refine AR.nil ?_)
      refine ⟨chk_text _ _, hK.out _ ?_⟩
      clear hK K
      with_reducible (repeat (first | refine AW.seq ?_ | refine AW.block ?_ | refine AW.skip ?_ | refine AW.exit ?_ | refine AW.ret ?_ | refine AW.label ?_ | refine NX.then ?_ | refine NX.ret ?_ | refine NX.exit ?_ | refine NX.inRet ?_ | refine NX.inNormal ?_ | refine NX.inExit ?_ | refine NX.outExit (by decide) ?_))
      refine AW.ct rfl ?_
      with_reducible (repeat (first | refine AW.seq ?_ | refine AW.block ?_ | refine AW.skip ?_ | refine AW.exit ?_ | refine AW.ret ?_ | refine AW.label ?_ | refine NX.then ?_ | refine NX.ret ?_ | refine NX.exit ?_ | refine NX.inRet ?_ | refine NX.inNormal ?_ | refine NX.inExit ?_ | refine NX.outExit (by decide) ?_))
      refine AW.re ty (by kernel_rfl) (by first | exact cx_N _ _ _ | assumption) (by first | exact cx_pz _ _ _ | assumption) 600 (by decide) (fun K hK => ?_)
      (try simp only [List.toList_toArray, toList_lit]); repeat (with_reducible refine AR.step (fun K1 K2 hK1 hK2 => ?_); simp; (first | refine hK1.out _ _ ?_ | refine hK2.out _ ?_ | refine ⟨by kernel_rfl, hK2.out _ ?_⟩); clear hK1 hK2 K1 K2; simp); (try with_reducible refine AR.nil ?_)
      refine ⟨chk_text _ _, hK.out _ ?_⟩
      clear hK K
      with_reducible (repeat (first | refine AW.seq ?_ | refine AW.block ?_ | refine AW.skip ?_ | refine AW.exit ?_ | refine AW.ret ?_ | refine AW.label ?_ | refine NX.then ?_ | refine NX.ret ?_ | refine NX.exit ?_ | refine NX.inRet ?_ | refine NX.inNormal ?_ | refine NX.inExit ?_ | refine NX.outExit (by decide) ?_))
      refine AW.loop (X := { k : Nat // k ≤ nums.length }) (fun x => tlN l m q nums true (.own 21) x.1) (fun x => nums.length - x.1) ⟨0, by simp⟩ (fun _ _ h => AS.fold (fold_of (V := vw [] [] [] []) (by first | exact cx_pz _ _ _ | assumption) (by kernel_rfl) (by rfl) (by simp [tlN, tlB, foks_nil, foks_cons, fok_tmp, fok_vt, fok_cell, fok_nm, fok_zn, fok_hd, fok_df, Fv_c, Fv_seg, Fv_tup, Fv_agg, Fv_ptr, Fv_ptrs, Fv_fn, Fv_fnd, Fv_own, Fv_ownd, Fv_nown, Fv_vown, FvL_nil, FvL_cons, kvp_av, hdp_some, subz, frz, Uz, Nm, Uh, vw_nb, vw_zo, vw_zf, vw_hb, tb_nil, tb_cons, fzc_nil, fzc_cons, fzcaps_nil, fzcaps_cons])) h) (fun x => ?_)
      obtain ⟨k3, hk3⟩ := x
      refine AW.at_ (fun L hL => ?_)
      simp [tlN, tlB] at hL
      subst hL
      with_reducible (repeat (first | refine AW.seq ?_ | refine AW.block ?_ | refine AW.skip ?_ | refine AW.exit ?_ | refine AW.ret ?_ | refine AW.label ?_ | refine NX.then ?_ | refine NX.ret ?_ | refine NX.exit ?_ | refine NX.inRet ?_ | refine NX.inNormal ?_ | refine NX.inExit ?_ | refine NX.outExit (by decide) ?_))
      by_cases hgo3 : k3 < nums.length
      · have w8 : IntKind.i64.wrap ((k3 : Int) + 1) = ((k3 + 1 : Nat) : Int) := by rw [i64_ok _ (by omega) (by unfold maxI at hN; omega)]; omega
        obtain ⟨a3, ha3⟩ : ∃ a3, nums[k3] = a3 := ⟨_, rfl⟩
        refine AW.re ty (by kernel_rfl) (by first | exact cx_N _ _ _ | assumption) (by first | exact cx_pz _ _ _ | assumption) 620 (by decide) (fun K hK => ?_)
        (try simp only [List.toList_toArray, toList_lit]); repeat (with_reducible refine AR.step (fun K1 K2 hK1 hK2 => ?_); simp [hgo3]; (first | refine hK1.out _ _ ?_ | refine hK2.out _ ?_ | refine ⟨by kernel_rfl, hK2.out _ ?_⟩); clear hK1 hK2 K1 K2; simp [hgo3]); (try with_reducible refine AR.nil ?_)
        refine ⟨chk_text _ _, hK.out _ ?_⟩
        clear hK K
        with_reducible (repeat (first | refine AW.seq ?_ | refine AW.block ?_ | refine AW.skip ?_ | refine AW.exit ?_ | refine AW.ret ?_ | refine AW.label ?_ | refine NX.then ?_ | refine NX.ret ?_ | refine NX.exit ?_ | refine NX.inRet ?_ | refine NX.inNormal ?_ | refine NX.inExit ?_ | refine NX.outExit (by decide) ?_))
        refine AW.ct rfl ?_
        with_reducible (repeat (first | refine AW.seq ?_ | refine AW.block ?_ | refine AW.skip ?_ | refine AW.exit ?_ | refine AW.ret ?_ | refine AW.label ?_ | refine NX.then ?_ | refine NX.ret ?_ | refine NX.exit ?_ | refine NX.inRet ?_ | refine NX.inNormal ?_ | refine NX.inExit ?_ | refine NX.outExit (by decide) ?_))
        refine AW.re ty (by kernel_rfl) (by first | exact cx_N _ _ _ | assumption) (by first | exact cx_pz _ _ _ | assumption) 630 (by decide) (fun K hK => ?_)
        (try simp only [List.toList_toArray, toList_lit]); repeat (with_reducible refine AR.step (fun K1 K2 hK1 hK2 => ?_); simp [hgo3]; (first | refine hK1.out _ _ ?_ | refine hK2.out _ ?_ | refine ⟨by kernel_rfl, hK2.out _ ?_⟩); clear hK1 hK2 K1 K2; simp [hgo3]); (try with_reducible refine AR.nil ?_)
        refine AR.step (fun K1 K2 hK1 hK2 => ?_)
        simp [hgo3]
        refine ⟨k3, uD a3, rfl, by simp [hgo3, ha3], ?_⟩
        refine hK1.out _ _ ?_
        clear hK1 hK2 K1 K2
        (try simp [hgo3])
        (try simp only [List.toList_toArray, toList_lit]); repeat (with_reducible refine AR.step (fun K1 K2 hK1 hK2 => ?_); simp [hgo3]; (first | refine hK1.out _ _ ?_ | refine hK2.out _ ?_ | refine ⟨by kernel_rfl, hK2.out _ ?_⟩); clear hK1 hK2 K1 K2; simp [hgo3]); (try with_reducible refine AR.nil ?_)
        refine ⟨chk_text _ _, hK.out _ ?_⟩
        clear hK K
        with_reducible (repeat (first | refine AW.seq ?_ | refine AW.block ?_ | refine AW.skip ?_ | refine AW.exit ?_ | refine AW.ret ?_ | refine AW.label ?_ | refine NX.then ?_ | refine NX.ret ?_ | refine NX.exit ?_ | refine NX.inRet ?_ | refine NX.inNormal ?_ | refine NX.inExit ?_ | refine NX.outExit (by decide) ?_))
        by_cases h10b : (k3 : Int) < 10
        · have cs1 := seconds_ct m a3 hri hr (by omega)
          have cs2 := rseconds_ct m a3 (by omega)
          rw [← secL_is hri hmb a3] at cs2
          have hsl : (secL m a3).length ≤ 1000000 := by
            rw [secL_is hri hmb a3]
            unfold rsR
            rw [List.length_map, List.take_length]
            exact Nat.le_trans (List.length_filter_le _ _) (by omega)
          generalize secL m a3 = S at *
          have ces := equalU_ct S S hsl hsl
          rw [decide_eq_true rfl] at ces
          refine AW.re ty (by kernel_rfl) (by first | exact cx_N _ _ _ | assumption) (by first | exact cx_pz _ _ _ | assumption) 650 (by decide) (fun K hK => ?_)
          (try simp only [List.toList_toArray, toList_lit]); repeat (with_reducible refine AR.step (fun K1 K2 hK1 hK2 => ?_); simp [h10b]; (first | refine hK1.out _ _ ?_ | refine hK2.out _ ?_ | refine ⟨by kernel_rfl, hK2.out _ ?_⟩); clear hK1 hK2 K1 K2; simp [h10b]); (try with_reducible refine AR.nil ?_)
          refine AR.step (fun K1 K2 hK1 hK2 => ?_)
          simp [h10b]
          refine orr_l ⟨by kernel_rfl, .inr (.inl ⟨_, _, _, cs1, ?_⟩)⟩
          (try simp [h10b])
          refine hK1.out _ _ ?_
          clear hK1 hK2 K1 K2
          (try simp [h10b])
          (try simp only [List.toList_toArray, toList_lit]); repeat (with_reducible refine AR.step (fun K1 K2 hK1 hK2 => ?_); simp [h10b]; (first | refine hK1.out _ _ ?_ | refine hK2.out _ ?_ | refine ⟨by kernel_rfl, hK2.out _ ?_⟩); clear hK1 hK2 K1 K2; simp [h10b]); (try with_reducible refine AR.nil ?_)
          refine AR.step (fun K1 K2 hK1 hK2 => ?_)
          simp [h10b]
          refine orr_l ⟨by kernel_rfl, .inr (.inl ⟨_, _, _, cs2, ?_⟩)⟩
          (try simp [h10b])
          refine hK1.out _ _ ?_
          clear hK1 hK2 K1 K2
          (try simp [h10b])
          (try simp only [List.toList_toArray, toList_lit]); repeat (with_reducible refine AR.step (fun K1 K2 hK1 hK2 => ?_); simp [h10b]; (first | refine hK1.out _ _ ?_ | refine hK2.out _ ?_ | refine ⟨by kernel_rfl, hK2.out _ ?_⟩); clear hK1 hK2 K1 K2; simp [h10b]); (try with_reducible refine AR.nil ?_)
          refine AR.step (fun K1 K2 hK1 hK2 => ?_)
          simp [h10b]
          refine orr_l ⟨by kernel_rfl, .inl ⟨_, ces, ?_⟩⟩
          (try simp [h10b])
          refine hK1.out _ _ ?_
          clear hK1 hK2 K1 K2
          (try simp [h10b])
          (try simp only [List.toList_toArray, toList_lit]); repeat (with_reducible refine AR.step (fun K1 K2 hK1 hK2 => ?_); simp [h10b]; (first | refine hK1.out _ _ ?_ | refine hK2.out _ ?_ | refine ⟨by kernel_rfl, hK2.out _ ?_⟩); clear hK1 hK2 K1 K2; simp [h10b]); (try with_reducible refine AR.nil ?_)
          refine ⟨chk_text _ _, hK.out _ ?_⟩
          clear hK K
          with_reducible (repeat (first | refine AW.seq ?_ | refine AW.block ?_ | refine AW.skip ?_ | refine AW.exit ?_ | refine AW.ret ?_ | refine AW.label ?_ | refine NX.then ?_ | refine NX.ret ?_ | refine NX.exit ?_ | refine NX.inRet ?_ | refine NX.inNormal ?_ | refine NX.inExit ?_ | refine NX.outExit (by decide) ?_))
          refine AW.cf rfl ?_
          with_reducible (repeat (first | refine AW.seq ?_ | refine AW.block ?_ | refine AW.skip ?_ | refine AW.exit ?_ | refine AW.ret ?_ | refine AW.label ?_ | refine NX.then ?_ | refine NX.ret ?_ | refine NX.exit ?_ | refine NX.inRet ?_ | refine NX.inNormal ?_ | refine NX.inExit ?_ | refine NX.outExit (by decide) ?_))
          refine AW.re ty (by kernel_rfl) (by first | exact cx_N _ _ _ | assumption) (by first | exact cx_pz _ _ _ | assumption) 680 (by decide) (fun K hK => ?_)
          (try simp only [List.toList_toArray, toList_lit]); repeat (with_reducible refine AR.step (fun K1 K2 hK1 hK2 => ?_); simp [w8]; (first | refine hK1.out _ _ ?_ | refine hK2.out _ ?_ | refine ⟨by kernel_rfl, hK2.out _ ?_⟩); clear hK1 hK2 K1 K2; simp [w8]); (try with_reducible refine AR.nil ?_)
          refine ⟨chk_text _ _, hK.out _ ?_⟩
          clear hK K
          with_reducible (repeat (first | refine AW.seq ?_ | refine AW.block ?_ | refine AW.skip ?_ | refine AW.exit ?_ | refine AW.ret ?_ | refine AW.label ?_ | refine NX.then ?_ | refine NX.ret ?_ | refine NX.exit ?_ | refine NX.inRet ?_ | refine NX.inNormal ?_ | refine NX.inExit ?_ | refine NX.outExit (by decide) ?_))
          exact NX.round ⟨k3 + 1, hgo3⟩ (by show nums.length - (k3 + 1) < nums.length - k3; omega) (fun _ _ h => AS.fold (fold_of (V := vw [] [] [] []) (by first | exact cx_pz _ _ _ | assumption) (by kernel_rfl) (by rfl) (by simp [tlN, tlB, foks_nil, foks_cons, fok_tmp, fok_vt, fok_cell, fok_nm, fok_zn, fok_hd, fok_df, Fv_c, Fv_seg, Fv_tup, Fv_agg, Fv_ptr, Fv_ptrs, Fv_fn, Fv_fnd, Fv_own, Fv_ownd, Fv_nown, Fv_vown, FvL_nil, FvL_cons, kvp_av, hdp_some, subz, frz, Uz, Nm, Uh, vw_nb, vw_zo, vw_zf, vw_hb, tb_nil, tb_cons, fzc_nil, fzc_cons, fzcaps_nil, fzcaps_cons])) h)
        · skip
          refine AW.re ty (by kernel_rfl) (by first | exact cx_N _ _ _ | assumption) (by first | exact cx_pz _ _ _ | assumption) 650 (by decide) (fun K hK => ?_)
          (try simp only [List.toList_toArray, toList_lit]); repeat (with_reducible refine AR.step (fun K1 K2 hK1 hK2 => ?_); simp [h10b]; (first | refine hK1.out _ _ ?_ | refine hK2.out _ ?_ | refine ⟨by kernel_rfl, hK2.out _ ?_⟩); clear hK1 hK2 K1 K2; simp [h10b]); (try with_reducible refine AR.nil ?_)
          refine ⟨chk_text _ _, hK.out _ ?_⟩
          clear hK K
          with_reducible (repeat (first | refine AW.seq ?_ | refine AW.block ?_ | refine AW.skip ?_ | refine AW.exit ?_ | refine AW.ret ?_ | refine AW.label ?_ | refine NX.then ?_ | refine NX.ret ?_ | refine NX.exit ?_ | refine NX.inRet ?_ | refine NX.inNormal ?_ | refine NX.inExit ?_ | refine NX.outExit (by decide) ?_))
          refine AW.cf rfl ?_
          with_reducible (repeat (first | refine AW.seq ?_ | refine AW.block ?_ | refine AW.skip ?_ | refine AW.exit ?_ | refine AW.ret ?_ | refine AW.label ?_ | refine NX.then ?_ | refine NX.ret ?_ | refine NX.exit ?_ | refine NX.inRet ?_ | refine NX.inNormal ?_ | refine NX.inExit ?_ | refine NX.outExit (by decide) ?_))
          refine AW.re ty (by kernel_rfl) (by first | exact cx_N _ _ _ | assumption) (by first | exact cx_pz _ _ _ | assumption) 680 (by decide) (fun K hK => ?_)
          (try simp only [List.toList_toArray, toList_lit]); repeat (with_reducible refine AR.step (fun K1 K2 hK1 hK2 => ?_); simp [w8]; (first | refine hK1.out _ _ ?_ | refine hK2.out _ ?_ | refine ⟨by kernel_rfl, hK2.out _ ?_⟩); clear hK1 hK2 K1 K2; simp [w8]); (try with_reducible refine AR.nil ?_)
          refine ⟨chk_text _ _, hK.out _ ?_⟩
          clear hK K
          with_reducible (repeat (first | refine AW.seq ?_ | refine AW.block ?_ | refine AW.skip ?_ | refine AW.exit ?_ | refine AW.ret ?_ | refine AW.label ?_ | refine NX.then ?_ | refine NX.ret ?_ | refine NX.exit ?_ | refine NX.inRet ?_ | refine NX.inNormal ?_ | refine NX.inExit ?_ | refine NX.outExit (by decide) ?_))
          exact NX.round ⟨k3 + 1, hgo3⟩ (by show nums.length - (k3 + 1) < nums.length - k3; omega) (fun _ _ h => AS.fold (fold_of (V := vw [] [] [] []) (by first | exact cx_pz _ _ _ | assumption) (by kernel_rfl) (by rfl) (by simp [tlN, tlB, foks_nil, foks_cons, fok_tmp, fok_vt, fok_cell, fok_nm, fok_zn, fok_hd, fok_df, Fv_c, Fv_seg, Fv_tup, Fv_agg, Fv_ptr, Fv_ptrs, Fv_fn, Fv_fnd, Fv_own, Fv_ownd, Fv_nown, Fv_vown, FvL_nil, FvL_cons, kvp_av, hdp_some, subz, frz, Uz, Nm, Uh, vw_nb, vw_zo, vw_zf, vw_hb, tb_nil, tb_cons, fzc_nil, fzc_cons, fzcaps_nil, fzcaps_cons])) h)
      · obtain rfl : k3 = nums.length := by omega
        refine AW.re ty (by kernel_rfl) (by first | exact cx_N _ _ _ | assumption) (by first | exact cx_pz _ _ _ | assumption) 700 (by decide) (fun K hK => ?_)
        (try simp only [List.toList_toArray, toList_lit]); repeat (with_reducible refine AR.step (fun K1 K2 hK1 hK2 => ?_); simp; (first | refine hK1.out _ _ ?_ | refine hK2.out _ ?_ | refine ⟨by kernel_rfl, hK2.out _ ?_⟩); clear hK1 hK2 K1 K2; simp); (try with_reducible refine AR.nil ?_)
        refine ⟨chk_text _ _, hK.out _ ?_⟩
        clear hK K
        with_reducible (repeat (first | refine AW.seq ?_ | refine AW.block ?_ | refine AW.skip ?_ | refine AW.exit ?_ | refine AW.ret ?_ | refine AW.label ?_ | refine NX.then ?_ | refine NX.ret ?_ | refine NX.exit ?_ | refine NX.inRet ?_ | refine NX.inNormal ?_ | refine NX.inExit ?_ | refine NX.outExit (by decide) ?_))
        refine AW.cf rfl ?_
        with_reducible (repeat (first | refine AW.seq ?_ | refine AW.block ?_ | refine AW.skip ?_ | refine AW.exit ?_ | refine AW.ret ?_ | refine AW.label ?_ | refine NX.then ?_ | refine NX.ret ?_ | refine NX.exit ?_ | refine NX.inRet ?_ | refine NX.inNormal ?_ | refine NX.inExit ?_ | refine NX.outExit (by decide) ?_))
        refine AW.re ty (by kernel_rfl) (by first | exact cx_N _ _ _ | assumption) (by first | exact cx_pz _ _ _ | assumption) 720 (by decide) (fun K hK => ?_)
        (try simp only [List.toList_toArray, toList_lit]); repeat (with_reducible refine AR.step (fun K1 K2 hK1 hK2 => ?_); simp; (first | refine hK1.out _ _ ?_ | refine hK2.out _ ?_ | refine ⟨by kernel_rfl, hK2.out _ ?_⟩); clear hK1 hK2 K1 K2; simp); (try with_reducible refine AR.nil ?_)
        refine AR.step (fun K1 K2 hK1 hK2 => ?_)
        simp
        refine orr_l ⟨by kernel_rfl, .inl ⟨_, ctn, ?_⟩⟩
        (try simp)
        refine hK1.out _ _ ?_
        clear hK1 hK2 K1 K2
        (try simp)
        (try simp only [List.toList_toArray, toList_lit]); repeat (with_reducible refine AR.step (fun K1 K2 hK1 hK2 => ?_); simp; (first | refine hK1.out _ _ ?_ | refine hK2.out _ ?_ | refine ⟨by kernel_rfl, hK2.out _ ?_⟩); clear hK1 hK2 K1 K2; simp); (try with_reducible refine AR.nil ?_)
        refine ⟨chk_text _ _, hK.out _ ?_⟩
        clear hK K
        with_reducible (repeat (first | refine AW.seq ?_ | refine AW.block ?_ | refine AW.skip ?_ | refine AW.exit ?_ | refine AW.ret ?_ | refine AW.label ?_ | refine NX.then ?_ | refine NX.ret ?_ | refine NX.exit ?_ | refine NX.inRet ?_ | refine NX.inNormal ?_ | refine NX.inExit ?_ | refine NX.outExit (by decide) ?_))
        refine AW.re ty (by kernel_rfl) (by first | exact cx_N _ _ _ | assumption) (by first | exact cx_pz _ _ _ | assumption) 730 (by decide) (fun K hK => ?_)
        (try simp only [List.toList_toArray, toList_lit]); repeat (with_reducible refine AR.step (fun K1 K2 hK1 hK2 => ?_); simp; (first | refine hK1.out _ _ ?_ | refine hK2.out _ ?_ | refine ⟨by kernel_rfl, hK2.out _ ?_⟩); clear hK1 hK2 K1 K2; simp); (try with_reducible refine AR.nil ?_)
        refine ⟨chk_text _ _, hK.out _ ?_⟩
        clear hK K
        with_reducible (repeat (first | refine AW.seq ?_ | refine AW.block ?_ | refine AW.skip ?_ | refine AW.exit ?_ | refine AW.ret ?_ | refine AW.label ?_ | refine NX.then ?_ | refine NX.ret ?_ | refine NX.exit ?_ | refine NX.inRet ?_ | refine NX.inNormal ?_ | refine NX.inExit ?_ | refine NX.outExit (by decide) ?_))
        refine AW.cf rfl ?_
        with_reducible (repeat (first | refine AW.seq ?_ | refine AW.block ?_ | refine AW.skip ?_ | refine AW.exit ?_ | refine AW.ret ?_ | refine AW.label ?_ | refine NX.then ?_ | refine NX.ret ?_ | refine NX.exit ?_ | refine NX.inRet ?_ | refine NX.inNormal ?_ | refine NX.inExit ?_ | refine NX.outExit (by decide) ?_))
        refine AW.re ty (by kernel_rfl) (by first | exact cx_N _ _ _ | assumption) (by first | exact cx_pz _ _ _ | assumption) 740 (by decide) (fun K hK => ?_)
        (try simp only [List.toList_toArray, toList_lit]); repeat (with_reducible refine AR.step (fun K1 K2 hK1 hK2 => ?_); simp; (first | refine hK1.out _ _ ?_ | refine hK2.out _ ?_ | refine ⟨by kernel_rfl, hK2.out _ ?_⟩); clear hK1 hK2 K1 K2; simp); (try with_reducible refine AR.nil ?_)
        refine AR.step (fun K1 K2 hK1 hK2 => ?_)
        simp
        refine orr_l ⟨by kernel_rfl, .inr (.inl ⟨_, _, _, crt, ?_⟩)⟩
        (try simp)
        refine hK1.out _ _ ?_
        clear hK1 hK2 K1 K2
        (try simp)
        (try simp only [List.toList_toArray, toList_lit]); repeat (with_reducible refine AR.step (fun K1 K2 hK1 hK2 => ?_); simp; (first | refine hK1.out _ _ ?_ | refine hK2.out _ ?_ | refine ⟨by kernel_rfl, hK2.out _ ?_⟩); clear hK1 hK2 K1 K2; simp); (try with_reducible refine AR.nil ?_)
        refine AR.step (fun K1 K2 hK1 hK2 => ?_)
        simp
        refine orr_l ⟨by kernel_rfl, .inl ⟨_, ceq, ?_⟩⟩
        (try simp)
        refine hK1.out _ _ ?_
        clear hK1 hK2 K1 K2
        (try simp)
        (try simp only [List.toList_toArray, toList_lit]); repeat (with_reducible refine AR.step (fun K1 K2 hK1 hK2 => ?_); simp; (first | refine hK1.out _ _ ?_ | refine hK2.out _ ?_ | refine ⟨by kernel_rfl, hK2.out _ ?_⟩); clear hK1 hK2 K1 K2; simp); (try with_reducible refine AR.nil ?_)
        refine AR.step (fun K1 K2 hK1 hK2 => ?_)
        simp
        refine orr_l ⟨by kernel_rfl, .inl ⟨_, cfi, ?_⟩⟩
        (try simp)
        refine hK1.out _ _ ?_
        clear hK1 hK2 K1 K2
        (try simp)
        (try simp only [List.toList_toArray, toList_lit]); repeat (with_reducible refine AR.step (fun K1 K2 hK1 hK2 => ?_); simp; (first | refine hK1.out _ _ ?_ | refine hK2.out _ ?_ | refine ⟨by kernel_rfl, hK2.out _ ?_⟩); clear hK1 hK2 K1 K2; simp); (try with_reducible refine AR.nil ?_)
        refine AR.step (fun K1 K2 hK1 hK2 => ?_)
        simp
        refine orr_l ⟨by kernel_rfl, .inr (.inl ⟨_, _, _, crf, ?_⟩)⟩
        (try simp)
        refine hK1.out _ _ ?_
        clear hK1 hK2 K1 K2
        (try simp)
        (try simp only [List.toList_toArray, toList_lit]); repeat (with_reducible refine AR.step (fun K1 K2 hK1 hK2 => ?_); simp; (first | refine hK1.out _ _ ?_ | refine hK2.out _ ?_ | refine ⟨by kernel_rfl, hK2.out _ ?_⟩); clear hK1 hK2 K1 K2; simp); (try with_reducible refine AR.nil ?_)
        refine AR.step (fun K1 K2 hK1 hK2 => ?_)
        simp
        refine orr_l ⟨by kernel_rfl, .inl ⟨_, cefi, ?_⟩⟩
        (try simp)
        refine hK1.out _ _ ?_
        clear hK1 hK2 K1 K2
        (try simp)
        (try simp only [List.toList_toArray, toList_lit]); repeat (with_reducible refine AR.step (fun K1 K2 hK1 hK2 => ?_); simp; (first | refine hK1.out _ _ ?_ | refine hK2.out _ ?_ | refine ⟨by kernel_rfl, hK2.out _ ?_⟩); clear hK1 hK2 K1 K2; simp); (try with_reducible refine AR.nil ?_)
        refine AR.step (fun K1 K2 hK1 hK2 => ?_)
        simp
        refine orr_l ⟨by kernel_rfl, .inr (.inl ⟨_, _, _, cf, ?_⟩)⟩
        (try simp)
        refine hK1.out _ _ ?_
        clear hK1 hK2 K1 K2
        (try simp)
        (try simp only [List.toList_toArray, toList_lit]); repeat (with_reducible refine AR.step (fun K1 K2 hK1 hK2 => ?_); simp; (first | refine hK1.out _ _ ?_ | refine hK2.out _ ?_ | refine ⟨by kernel_rfl, hK2.out _ ?_⟩); clear hK1 hK2 K1 K2; simp); (try with_reducible refine AR.nil ?_)
        refine AR.step (fun K1 K2 hK1 hK2 => ?_)
        simp
        refine orr_l ⟨by kernel_rfl, .inl ⟨_, cem, ?_⟩⟩
        (try simp)
        refine hK1.out _ _ ?_
        clear hK1 hK2 K1 K2
        (try simp)
        (try simp only [List.toList_toArray, toList_lit]); repeat (with_reducible refine AR.step (fun K1 K2 hK1 hK2 => ?_); simp; (first | refine hK1.out _ _ ?_ | refine hK2.out _ ?_ | refine ⟨by kernel_rfl, hK2.out _ ?_⟩); clear hK1 hK2 K1 K2; simp); (try with_reducible refine AR.nil ?_)
        refine ⟨chk_text _ _, hK.out _ ?_⟩
        clear hK K
        with_reducible (repeat (first | refine AW.seq ?_ | refine AW.block ?_ | refine AW.skip ?_ | refine AW.exit ?_ | refine AW.ret ?_ | refine AW.label ?_ | refine NX.then ?_ | refine NX.ret ?_ | refine NX.exit ?_ | refine NX.inRet ?_ | refine NX.inNormal ?_ | refine NX.inExit ?_ | refine NX.outExit (by decide) ?_))
        refine nx_ret (T := ty) (rs := [.tmp 6]) (zs := []) (ds := [dB true]) (rr := []) (.inr rfl) rfl (by kernel_rfl) (by kernel_rfl) (by simp) rfl
    · skip
      refine AW.re ty (by kernel_rfl) (by first | exact cx_N _ _ _ | assumption) (by first | exact cx_pz _ _ _ | assumption) 140 (by decide) (fun K hK => ?_)
      (try simp only [List.toList_toArray, toList_lit]); repeat (with_reducible refine AR.step (fun K1 K2 hK1 hK2 => ?_); simp [h10]; (first | refine hK1.out _ _ ?_ | refine hK2.out _ ?_ | refine ⟨by kernel_rfl, hK2.out _ ?_⟩); clear hK1 hK2 K1 K2; simp [h10]); (try with_reducible refine AR.nil ?_)
      refine ⟨chk_text _ _, hK.out _ ?_⟩
      clear hK K
      with_reducible (repeat (first | refine AW.seq ?_ | refine AW.block ?_ | refine AW.skip ?_ | refine AW.exit ?_ | refine AW.ret ?_ | refine AW.label ?_ | refine NX.then ?_ | refine NX.ret ?_ | refine NX.exit ?_ | refine NX.inRet ?_ | refine NX.inNormal ?_ | refine NX.inExit ?_ | refine NX.outExit (by decide) ?_))
      refine AW.cf rfl ?_
      with_reducible (repeat (first | refine AW.seq ?_ | refine AW.block ?_ | refine AW.skip ?_ | refine AW.exit ?_ | refine AW.ret ?_ | refine AW.label ?_ | refine NX.then ?_ | refine NX.ret ?_ | refine NX.exit ?_ | refine NX.inRet ?_ | refine NX.inNormal ?_ | refine NX.inExit ?_ | refine NX.outExit (by decide) ?_))
      refine AW.re ty (by kernel_rfl) (by first | exact cx_N _ _ _ | assumption) (by first | exact cx_pz _ _ _ | assumption) 150 (by decide) (fun K hK => ?_)
      (try simp only [List.toList_toArray, toList_lit]); repeat (with_reducible refine AR.step (fun K1 K2 hK1 hK2 => ?_); simp [w5, wj, hq0, hq0']; (first | refine hK1.out _ _ ?_ | refine hK2.out _ ?_ | refine ⟨by kernel_rfl, hK2.out _ ?_⟩); clear hK1 hK2 K1 K2; simp [w5, wj, hq0, hq0']); (try with_reducible refine AR.nil ?_)
      refine AR.step (fun K1 K2 hK1 hK2 => ?_)
      simp [w5, wj, hq0, hq0']
      refine ⟨j0, PD y, rfl, by simp [hj, hy], ?_⟩
      refine hK1.out _ _ ?_
      clear hK1 hK2 K1 K2
      (try simp [w5, wj, hq0, hq0'])
      (try simp only [List.toList_toArray, toList_lit]); repeat (with_reducible refine AR.step (fun K1 K2 hK1 hK2 => ?_); simp [w5, wj, hq0, hq0']; (first | refine hK1.out _ _ ?_ | refine hK2.out _ ?_ | refine ⟨by kernel_rfl, hK2.out _ ?_⟩); clear hK1 hK2 K1 K2; simp [w5, wj, hq0, hq0']); (try with_reducible refine AR.nil ?_)
      refine ⟨chk_text _ _, hK.out _ ?_⟩
      clear hK K
      with_reducible (repeat (first | refine AW.seq ?_ | refine AW.block ?_ | refine AW.skip ?_ | refine AW.exit ?_ | refine AW.ret ?_ | refine AW.label ?_ | refine NX.then ?_ | refine NX.ret ?_ | refine NX.exit ?_ | refine NX.inRet ?_ | refine NX.inNormal ?_ | refine NX.inExit ?_ | refine NX.outExit (by decide) ?_))
      by_cases hlt : lt x y
      · have cb := between_ct m x y hri hr (by omega) hlt
        have hbl : (btwL m x y).length ≤ 40 := by
          unfold btwL
          rw [List.length_drop, List.length_take]
          omega
        have hbe := btwL_is hri x y
        have crb := rbetween_ct m x y (by omega)
        rw [← hbe] at crb
        clear hbe
        have cha := has_ct m x hri hr (by omega)
        have crh := rhas_ct m x
        generalize btwL m x y = bt at *
        have ce := equal_ct bt bt
        rw [decide_eq_true rfl] at ce
        generalize decide (x ∈ m) = hin at cha crh
        refine AW.re ty (by kernel_rfl) (by first | exact cx_N _ _ _ | assumption) (by first | exact cx_pz _ _ _ | assumption) 170 (by decide) (fun K hK => ?_)
        (try simp only [List.toList_toArray, toList_lit]); repeat (with_reducible refine AR.step (fun K1 K2 hK1 hK2 => ?_); simp; (first | refine hK1.out _ _ ?_ | refine hK2.out _ ?_ | refine ⟨by kernel_rfl, hK2.out _ ?_⟩); clear hK1 hK2 K1 K2; simp); (try with_reducible refine AR.nil ?_)
        refine AR.step (fun K1 K2 hK1 hK2 => ?_)
        simp
        refine orr_l ⟨by kernel_rfl, .inr (.inl ⟨_, _, _, cb, ?_⟩)⟩
        (try simp)
        refine hK1.out _ _ ?_
        clear hK1 hK2 K1 K2
        (try simp)
        (try simp only [List.toList_toArray, toList_lit]); repeat (with_reducible refine AR.step (fun K1 K2 hK1 hK2 => ?_); simp; (first | refine hK1.out _ _ ?_ | refine hK2.out _ ?_ | refine ⟨by kernel_rfl, hK2.out _ ?_⟩); clear hK1 hK2 K1 K2; simp); (try with_reducible refine AR.nil ?_)
        refine ⟨chk_text _ _, hK.out _ ?_⟩
        clear hK K
        with_reducible (repeat (first | refine AW.seq ?_ | refine AW.block ?_ | refine AW.skip ?_ | refine AW.exit ?_ | refine AW.ret ?_ | refine AW.label ?_ | refine NX.then ?_ | refine NX.ret ?_ | refine NX.exit ?_ | refine NX.inRet ?_ | refine NX.inNormal ?_ | refine NX.inExit ?_ | refine NX.outExit (by decide) ?_))
        refine AW.re ty (by kernel_rfl) (by first | exact cx_N _ _ _ | assumption) (by first | exact cx_pz _ _ _ | assumption) 180 (by decide) (fun K hK => ?_)
        (try simp only [List.toList_toArray, toList_lit]); repeat (with_reducible refine AR.step (fun K1 K2 hK1 hK2 => ?_); simp; (first | refine hK1.out _ _ ?_ | refine hK2.out _ ?_ | refine ⟨by kernel_rfl, hK2.out _ ?_⟩); clear hK1 hK2 K1 K2; simp); (try with_reducible refine AR.nil ?_)
        refine AR.step (fun K1 K2 hK1 hK2 => ?_)
        simp
        refine orr_l ⟨by kernel_rfl, .inl ⟨_, cha, ?_⟩⟩
        (try simp)
        refine hK1.out _ _ ?_
        clear hK1 hK2 K1 K2
        (try simp)
        (try simp only [List.toList_toArray, toList_lit]); repeat (with_reducible refine AR.step (fun K1 K2 hK1 hK2 => ?_); simp; (first | refine hK1.out _ _ ?_ | refine hK2.out _ ?_ | refine ⟨by kernel_rfl, hK2.out _ ?_⟩); clear hK1 hK2 K1 K2; simp); (try with_reducible refine AR.nil ?_)
        refine AR.step (fun K1 K2 hK1 hK2 => ?_)
        simp
        refine orr_l ⟨by kernel_rfl, .inl ⟨_, crh, ?_⟩⟩
        (try simp)
        refine hK1.out _ _ ?_
        clear hK1 hK2 K1 K2
        (try simp)
        (try simp only [List.toList_toArray, toList_lit]); repeat (with_reducible refine AR.step (fun K1 K2 hK1 hK2 => ?_); simp; (first | refine hK1.out _ _ ?_ | refine hK2.out _ ?_ | refine ⟨by kernel_rfl, hK2.out _ ?_⟩); clear hK1 hK2 K1 K2; simp); (try with_reducible refine AR.nil ?_)
        refine AR.step (fun K1 K2 hK1 hK2 => ?_)
        simp
        refine orr_l ⟨by kernel_rfl, .inr (.inl ⟨_, _, _, crb, ?_⟩)⟩
        (try simp)
        refine hK1.out _ _ ?_
        clear hK1 hK2 K1 K2
        (try simp)
        (try simp only [List.toList_toArray, toList_lit]); repeat (with_reducible refine AR.step (fun K1 K2 hK1 hK2 => ?_); simp; (first | refine hK1.out _ _ ?_ | refine hK2.out _ ?_ | refine ⟨by kernel_rfl, hK2.out _ ?_⟩); clear hK1 hK2 K1 K2; simp); (try with_reducible refine AR.nil ?_)
        refine AR.step (fun K1 K2 hK1 hK2 => ?_)
        simp
        refine orr_l ⟨by kernel_rfl, .inl ⟨_, ce, ?_⟩⟩
        (try simp)
        refine hK1.out _ _ ?_
        clear hK1 hK2 K1 K2
        (try simp)
        (try simp only [List.toList_toArray, toList_lit]); repeat (with_reducible refine AR.step (fun K1 K2 hK1 hK2 => ?_); simp; (first | refine hK1.out _ _ ?_ | refine hK2.out _ ?_ | refine ⟨by kernel_rfl, hK2.out _ ?_⟩); clear hK1 hK2 K1 K2; simp); (try with_reducible refine AR.nil ?_)
        refine ⟨chk_drawn (by kernel_rfl) (by kernel_rfl), hK.out _ ?_⟩
        clear hK K
        with_reducible (repeat (first | refine AW.seq ?_ | refine AW.block ?_ | refine AW.skip ?_ | refine AW.exit ?_ | refine AW.ret ?_ | refine AW.label ?_ | refine NX.then ?_ | refine NX.ret ?_ | refine NX.exit ?_ | refine NX.inRet ?_ | refine NX.inNormal ?_ | refine NX.inExit ?_ | refine NX.outExit (by decide) ?_))
        refine AW.cf rfl ?_
        with_reducible (repeat (first | refine AW.seq ?_ | refine AW.block ?_ | refine AW.skip ?_ | refine AW.exit ?_ | refine AW.ret ?_ | refine AW.label ?_ | refine NX.then ?_ | refine NX.ret ?_ | refine NX.exit ?_ | refine NX.inRet ?_ | refine NX.inNormal ?_ | refine NX.inExit ?_ | refine NX.outExit (by decide) ?_))
        refine AW.re ty (by kernel_rfl) (by first | exact cx_N _ _ _ | assumption) (by first | exact cx_pz _ _ _ | assumption) 240 (by decide) (fun K hK => ?_)
        (try simp only [List.toList_toArray, toList_lit]); repeat (with_reducible refine AR.step (fun K1 K2 hK1 hK2 => ?_); simp; (first | refine hK1.out _ _ ?_ | refine hK2.out _ ?_ | refine ⟨by kernel_rfl, hK2.out _ ?_⟩); clear hK1 hK2 K1 K2; simp); (try with_reducible refine AR.nil ?_)
        refine ⟨chk_text _ _, hK.out _ ?_⟩
        clear hK K
        with_reducible (repeat (first | refine AW.seq ?_ | refine AW.block ?_ | refine AW.skip ?_ | refine AW.exit ?_ | refine AW.ret ?_ | refine AW.label ?_ | refine NX.then ?_ | refine NX.ret ?_ | refine NX.exit ?_ | refine NX.inRet ?_ | refine NX.inNormal ?_ | refine NX.inExit ?_ | refine NX.outExit (by decide) ?_))
        refine AW.view (L' := tlV l m q nums true (.own 21) k (RD bt) bt.length 0) (fun _ _ h => AS.fold (fold_of (V := vw [] [(900, [173, 100173])] [] []) (by first | exact cx_pz _ _ _ | assumption) (by kernel_rfl) (by rfl) (by simp [tlV, tlO, tlB, foks_nil, foks_cons, fok_tmp, fok_vt, fok_cell, fok_nm, fok_zn, fok_hd, fok_df, Fv_c, Fv_seg, Fv_tup, Fv_agg, Fv_ptr, Fv_ptrs, Fv_fn, Fv_fnd, Fv_own, Fv_ownd, Fv_nown, Fv_vown, FvL_nil, FvL_cons, kvp_av, hdp_some, subz, frz, Uz, Nm, Uh, vw_nb, vw_zo, vw_zf, vw_hb, tb_nil, tb_cons, fzc_nil, fzc_cons, fzcaps_nil, fzcaps_cons])) h) ?_
        refine AW.conv 13 (d' := .s 2 (uR bt.length)) rfl (fun Z w v h => ud_RD bt h) ?_
        refine AW.loop (X := { j : Nat // j ≤ bt.length }) (fun z => tlV l m q nums true (.own 21) k (.s 2 (uR bt.length)) bt.length z.1) (fun z => bt.length - z.1) ⟨0, by simp⟩ (fun _ _ h => AS.fold (fold_of (V := vw [] [] [] []) (by first | exact cx_pz _ _ _ | assumption) (by kernel_rfl) (by rfl) (by simp [tlV, tlO, tlB, foks_nil, foks_cons, fok_tmp, fok_vt, fok_cell, fok_nm, fok_zn, fok_hd, fok_df, Fv_c, Fv_seg, Fv_tup, Fv_agg, Fv_ptr, Fv_ptrs, Fv_fn, Fv_fnd, Fv_own, Fv_ownd, Fv_nown, Fv_vown, FvL_nil, FvL_cons, kvp_av, hdp_some, subz, frz, Uz, Nm, Uh, vw_nb, vw_zo, vw_zf, vw_hb, tb_nil, tb_cons, fzc_nil, fzc_cons, fzcaps_nil, fzcaps_cons])) h) (fun z => ?_)
        obtain ⟨j, hj⟩ := z
        refine AW.at_ (fun L hL => ?_)
        simp [tlV, tlO, tlB] at hL
        subst hL
        with_reducible (repeat (first | refine AW.seq ?_ | refine AW.block ?_ | refine AW.skip ?_ | refine AW.exit ?_ | refine AW.ret ?_ | refine AW.label ?_ | refine NX.then ?_ | refine NX.ret ?_ | refine NX.exit ?_ | refine NX.inRet ?_ | refine NX.inNormal ?_ | refine NX.inExit ?_ | refine NX.outExit (by decide) ?_))
        by_cases hgo2 : j < bt.length
        · have w6 : IntKind.i64.wrap ((j : Int) + 1) = ((j + 1 : Nat) : Int) := by rw [i64_ok _ (by omega) (by omega)]; omega
          refine AW.re ty (by kernel_rfl) (by first | exact cx_N _ _ _ | assumption) (by first | exact cx_pz _ _ _ | assumption) 300 (by decide) (fun K hK => ?_)
          (try simp only [List.toList_toArray, toList_lit]); repeat (with_reducible refine AR.step (fun K1 K2 hK1 hK2 => ?_); simp [hgo2]; (first | refine hK1.out _ _ ?_ | refine hK2.out _ ?_ | refine ⟨by kernel_rfl, hK2.out _ ?_⟩); clear hK1 hK2 K1 K2; simp [hgo2]); (try with_reducible refine AR.nil ?_)
          refine ⟨chk_text _ _, hK.out _ ?_⟩
          clear hK K
          with_reducible (repeat (first | refine AW.seq ?_ | refine AW.block ?_ | refine AW.skip ?_ | refine AW.exit ?_ | refine AW.ret ?_ | refine AW.label ?_ | refine NX.then ?_ | refine NX.ret ?_ | refine NX.exit ?_ | refine NX.inRet ?_ | refine NX.inNormal ?_ | refine NX.inExit ?_ | refine NX.outExit (by decide) ?_))
          refine AW.ct rfl ?_
          with_reducible (repeat (first | refine AW.seq ?_ | refine AW.block ?_ | refine AW.skip ?_ | refine AW.exit ?_ | refine AW.ret ?_ | refine AW.label ?_ | refine NX.then ?_ | refine NX.ret ?_ | refine NX.exit ?_ | refine NX.inRet ?_ | refine NX.inNormal ?_ | refine NX.inExit ?_ | refine NX.outExit (by decide) ?_))
          refine AW.re ty (by kernel_rfl) (by first | exact cx_N _ _ _ | assumption) (by first | exact cx_pz _ _ _ | assumption) 310 (by decide) (fun K hK => ?_)
          (try simp only [List.toList_toArray, toList_lit]); repeat (with_reducible refine AR.step (fun K1 K2 hK1 hK2 => ?_); simp [hgo2]; (first | refine hK1.out _ _ ?_ | refine hK2.out _ ?_ | refine ⟨by kernel_rfl, hK2.out _ ?_⟩); clear hK1 hK2 K1 K2; simp [hgo2]); (try with_reducible refine AR.nil ?_)
          refine ⟨chk_text _ _, hK.out _ ?_⟩
          clear hK K
          with_reducible (repeat (first | refine AW.seq ?_ | refine AW.block ?_ | refine AW.skip ?_ | refine AW.exit ?_ | refine AW.ret ?_ | refine AW.label ?_ | refine NX.then ?_ | refine NX.ret ?_ | refine NX.exit ?_ | refine NX.inRet ?_ | refine NX.inNormal ?_ | refine NX.inExit ?_ | refine NX.outExit (by decide) ?_))
          refine AW.re ty (by kernel_rfl) (by first | exact cx_N _ _ _ | assumption) (by first | exact cx_pz _ _ _ | assumption) 320 (by decide) (fun K hK => ?_)
          (try simp only [List.toList_toArray, toList_lit]); repeat (with_reducible refine AR.step (fun K1 K2 hK1 hK2 => ?_); simp; (first | refine hK1.out _ _ ?_ | refine hK2.out _ ?_ | refine ⟨by kernel_rfl, hK2.out _ ?_⟩); clear hK1 hK2 K1 K2; simp); (try with_reducible refine AR.nil ?_)
          refine AR.step (fun K1 K2 hK1 hK2 => ?_)
          simp
          refine ⟨j, [.st isU, .st isU], rfl, uR_get hgo2, ?_⟩
          refine hK1.out _ _ ?_
          clear hK1 hK2 K1 K2
          (try simp)
          (try simp only [List.toList_toArray, toList_lit]); repeat (with_reducible refine AR.step (fun K1 K2 hK1 hK2 => ?_); simp; (first | refine hK1.out _ _ ?_ | refine hK2.out _ ?_ | refine ⟨by kernel_rfl, hK2.out _ ?_⟩); clear hK1 hK2 K1 K2; simp); (try with_reducible refine AR.nil ?_)
          refine AR.step (fun K1 K2 hK1 hK2 => ?_)
          simp
          refine hatch_add rfl rfl rfl ?_
          refine hK1.out _ _ ?_
          clear hK1 hK2 K1 K2
          (try simp)
          (try simp only [List.toList_toArray, toList_lit]); repeat (with_reducible refine AR.step (fun K1 K2 hK1 hK2 => ?_); simp; (first | refine hK1.out _ _ ?_ | refine hK2.out _ ?_ | refine ⟨by kernel_rfl, hK2.out _ ?_⟩); clear hK1 hK2 K1 K2; simp); (try with_reducible refine AR.nil ?_)
          refine AR.step (fun K1 K2 hK1 hK2 => ?_)
          simp
          refine ⟨j, [.st isU, .st isU], rfl, uR_get hgo2, ?_⟩
          refine hK1.out _ _ ?_
          clear hK1 hK2 K1 K2
          (try simp)
          (try simp only [List.toList_toArray, toList_lit]); repeat (with_reducible refine AR.step (fun K1 K2 hK1 hK2 => ?_); simp; (first | refine hK1.out _ _ ?_ | refine hK2.out _ ?_ | refine ⟨by kernel_rfl, hK2.out _ ?_⟩); clear hK1 hK2 K1 K2; simp); (try with_reducible refine AR.nil ?_)
          refine AR.step (fun K1 K2 hK1 hK2 => ?_)
          simp [kept]
          refine hatch_st [(13, .s 2 (uR bt.length))] (T := ty) rfl rfl rfl rfl rfl rfl rfl (by simp) (by simp [nums_uR]) ?_
          refine hK1.out _ _ ?_
          clear hK1 hK2 K1 K2
          (try simp [kept])
          (try simp only [List.toList_toArray, toList_lit]); repeat (with_reducible refine AR.step (fun K1 K2 hK1 hK2 => ?_); simp [kept]; (first | refine hK1.out _ _ ?_ | refine hK2.out _ ?_ | refine ⟨by kernel_rfl, hK2.out _ ?_⟩); clear hK1 hK2 K1 K2; simp [kept]); (try with_reducible refine AR.nil ?_)
          refine ⟨chk_text _ _, hK.out _ ?_⟩
          clear hK K
          with_reducible (repeat (first | refine AW.seq ?_ | refine AW.block ?_ | refine AW.skip ?_ | refine AW.exit ?_ | refine AW.ret ?_ | refine AW.label ?_ | refine NX.then ?_ | refine NX.ret ?_ | refine NX.exit ?_ | refine NX.inRet ?_ | refine NX.inNormal ?_ | refine NX.inExit ?_ | refine NX.outExit (by decide) ?_))
          refine AW.re ty (by kernel_rfl) (by first | exact cx_N _ _ _ | assumption) (by first | exact cx_pz _ _ _ | assumption) 340 (by decide) (fun K hK => ?_)
          (try simp only [List.toList_toArray, toList_lit]); repeat (with_reducible refine AR.step (fun K1 K2 hK1 hK2 => ?_); simp [w6]; (first | refine hK1.out _ _ ?_ | refine hK2.out _ ?_ | refine ⟨by kernel_rfl, hK2.out _ ?_⟩); clear hK1 hK2 K1 K2; simp [w6]); (try with_reducible refine AR.nil ?_)
          refine ⟨chk_text _ _, hK.out _ ?_⟩
          clear hK K
          with_reducible (repeat (first | refine AW.seq ?_ | refine AW.block ?_ | refine AW.skip ?_ | refine AW.exit ?_ | refine AW.ret ?_ | refine AW.label ?_ | refine NX.then ?_ | refine NX.ret ?_ | refine NX.exit ?_ | refine NX.inRet ?_ | refine NX.inNormal ?_ | refine NX.inExit ?_ | refine NX.outExit (by decide) ?_))
          exact NX.round ⟨j + 1, hgo2⟩ (by show bt.length - (j + 1) < bt.length - j; omega) (fun _ _ h => AS.fold (fold_of (V := vw [] [(900, [328])] [] []) (by first | exact cx_pz _ _ _ | assumption) (by kernel_rfl) (by rfl) (by simp [tlV, tlO, tlB, foks_nil, foks_cons, fok_tmp, fok_vt, fok_cell, fok_nm, fok_zn, fok_hd, fok_df, Fv_c, Fv_seg, Fv_tup, Fv_agg, Fv_ptr, Fv_ptrs, Fv_fn, Fv_fnd, Fv_own, Fv_ownd, Fv_nown, Fv_vown, FvL_nil, FvL_cons, kvp_av, hdp_some, subz, frz, Uz, Nm, Uh, vw_nb, vw_zo, vw_zf, vw_hb, tb_nil, tb_cons, fzc_nil, fzc_cons, fzcaps_nil, fzcaps_cons])) h)
        · obtain rfl : j = bt.length := by omega
          refine AW.re ty (by kernel_rfl) (by first | exact cx_N _ _ _ | assumption) (by first | exact cx_pz _ _ _ | assumption) 350 (by decide) (fun K hK => ?_)
          (try simp only [List.toList_toArray, toList_lit]); repeat (with_reducible refine AR.step (fun K1 K2 hK1 hK2 => ?_); simp; (first | refine hK1.out _ _ ?_ | refine hK2.out _ ?_ | refine ⟨by kernel_rfl, hK2.out _ ?_⟩); clear hK1 hK2 K1 K2; simp); (try with_reducible refine AR.nil ?_)
          refine ⟨chk_text _ _, hK.out _ ?_⟩
          clear hK K
          with_reducible (repeat (first | refine AW.seq ?_ | refine AW.block ?_ | refine AW.skip ?_ | refine AW.exit ?_ | refine AW.ret ?_ | refine AW.label ?_ | refine NX.then ?_ | refine NX.ret ?_ | refine NX.exit ?_ | refine NX.inRet ?_ | refine NX.inNormal ?_ | refine NX.inExit ?_ | refine NX.outExit (by decide) ?_))
          refine AW.cf rfl ?_
          with_reducible (repeat (first | refine AW.seq ?_ | refine AW.block ?_ | refine AW.skip ?_ | refine AW.exit ?_ | refine AW.ret ?_ | refine AW.label ?_ | refine NX.then ?_ | refine NX.ret ?_ | refine NX.exit ?_ | refine NX.inRet ?_ | refine NX.inNormal ?_ | refine NX.inExit ?_ | refine NX.outExit (by decide) ?_))
          refine AW.re ty (by kernel_rfl) (by first | exact cx_N _ _ _ | assumption) (by first | exact cx_pz _ _ _ | assumption) 400 (by decide) (fun K hK => ?_)
          (try simp only [List.toList_toArray, toList_lit]); repeat (with_reducible refine AR.step (fun K1 K2 hK1 hK2 => ?_); simp [w5]; (first | refine hK1.out _ _ ?_ | refine hK2.out _ ?_ | refine ⟨by kernel_rfl, hK2.out _ ?_⟩); clear hK1 hK2 K1 K2; simp [w5]); (try with_reducible refine AR.nil ?_)
          refine ⟨chk_text _ _, hK.out _ ?_⟩
          clear hK K
          with_reducible (repeat (first | refine AW.seq ?_ | refine AW.block ?_ | refine AW.skip ?_ | refine AW.exit ?_ | refine AW.ret ?_ | refine AW.label ?_ | refine NX.then ?_ | refine NX.ret ?_ | refine NX.exit ?_ | refine NX.inRet ?_ | refine NX.inNormal ?_ | refine NX.inExit ?_ | refine NX.outExit (by decide) ?_))
          exact NX.round ⟨k + 1, hgo⟩ (by show q.length - (k + 1) < q.length - k; omega) (fun _ _ h => AS.fold (fold_of (V := vw [] [] [] []) (by first | exact cx_pz _ _ _ | assumption) (by kernel_rfl) (by rfl) (by simp [tlO, tlB, foks_nil, foks_cons, fok_tmp, fok_vt, fok_cell, fok_nm, fok_zn, fok_hd, fok_df, Fv_c, Fv_seg, Fv_tup, Fv_agg, Fv_ptr, Fv_ptrs, Fv_fn, Fv_fnd, Fv_own, Fv_ownd, Fv_nown, Fv_vown, FvL_nil, FvL_cons, kvp_av, hdp_some, subz, frz, Uz, Nm, Uh, vw_nb, vw_zo, vw_zf, vw_hb, tb_nil, tb_cons, fzc_nil, fzc_cons, fzcaps_nil, fzcaps_cons])) h)
      · have gotn := between_ct' m x y hr hlt
        have hbe : m.filter (btwP x y) = [] := by
          rw [List.filter_eq_nil_iff]
          intro p _ hp
          simp only [btwP, Bool.and_eq_true, Bool.not_eq_true', decide_eq_false_iff_not, decide_eq_true_eq] at hp
          rcases lt_tri p x with h1 | h1 | h1
          · exact hp.1 h1
          · subst h1; exact hlt hp.2
          · exact hlt (lt_tr h1 hp.2)
        have crb := rbetween_ct m x y (by omega)
        rw [hbe] at crb
        clear hbe
        have cha := has_ct m x hri hr (by omega)
        have crh := rhas_ct m x
        generalize decide (x ∈ m) = hin at cha crh
        refine AW.re ty (by kernel_rfl) (by first | exact cx_N _ _ _ | assumption) (by first | exact cx_pz _ _ _ | assumption) 170 (by decide) (fun K hK => ?_)
        (try simp only [List.toList_toArray, toList_lit]); repeat (with_reducible refine AR.step (fun K1 K2 hK1 hK2 => ?_); simp; (first | refine hK1.out _ _ ?_ | refine hK2.out _ ?_ | refine ⟨by kernel_rfl, hK2.out _ ?_⟩); clear hK1 hK2 K1 K2; simp); (try with_reducible refine AR.nil ?_)
        refine AR.step (fun K1 K2 hK1 hK2 => ?_)
        simp
        refine orr_l ⟨by kernel_rfl, .inl ⟨_, gotn, ?_⟩⟩
        (try simp)
        refine hK1.out _ _ ?_
        clear hK1 hK2 K1 K2
        (try simp)
        (try simp only [List.toList_toArray, toList_lit]); repeat (with_reducible refine AR.step (fun K1 K2 hK1 hK2 => ?_); simp; (first | refine hK1.out _ _ ?_ | refine hK2.out _ ?_ | refine ⟨by kernel_rfl, hK2.out _ ?_⟩); clear hK1 hK2 K1 K2; simp); (try with_reducible refine AR.nil ?_)
        refine ⟨chk_text _ _, hK.out _ ?_⟩
        clear hK K
        with_reducible (repeat (first | refine AW.seq ?_ | refine AW.block ?_ | refine AW.skip ?_ | refine AW.exit ?_ | refine AW.ret ?_ | refine AW.label ?_ | refine NX.then ?_ | refine NX.ret ?_ | refine NX.exit ?_ | refine NX.inRet ?_ | refine NX.inNormal ?_ | refine NX.inExit ?_ | refine NX.outExit (by decide) ?_))
        refine AW.re ty (by kernel_rfl) (by first | exact cx_N _ _ _ | assumption) (by first | exact cx_pz _ _ _ | assumption) 180 (by decide) (fun K hK => ?_)
        (try simp only [List.toList_toArray, toList_lit]); repeat (with_reducible refine AR.step (fun K1 K2 hK1 hK2 => ?_); simp; (first | refine hK1.out _ _ ?_ | refine hK2.out _ ?_ | refine ⟨by kernel_rfl, hK2.out _ ?_⟩); clear hK1 hK2 K1 K2; simp); (try with_reducible refine AR.nil ?_)
        refine AR.step (fun K1 K2 hK1 hK2 => ?_)
        simp
        refine orr_l ⟨by kernel_rfl, .inl ⟨_, cha, ?_⟩⟩
        (try simp)
        refine hK1.out _ _ ?_
        clear hK1 hK2 K1 K2
        (try simp)
        (try simp only [List.toList_toArray, toList_lit]); repeat (with_reducible refine AR.step (fun K1 K2 hK1 hK2 => ?_); simp; (first | refine hK1.out _ _ ?_ | refine hK2.out _ ?_ | refine ⟨by kernel_rfl, hK2.out _ ?_⟩); clear hK1 hK2 K1 K2; simp); (try with_reducible refine AR.nil ?_)
        refine AR.step (fun K1 K2 hK1 hK2 => ?_)
        simp
        refine orr_l ⟨by kernel_rfl, .inl ⟨_, crh, ?_⟩⟩
        (try simp)
        refine hK1.out _ _ ?_
        clear hK1 hK2 K1 K2
        (try simp)
        (try simp only [List.toList_toArray, toList_lit]); repeat (with_reducible refine AR.step (fun K1 K2 hK1 hK2 => ?_); simp; (first | refine hK1.out _ _ ?_ | refine hK2.out _ ?_ | refine ⟨by kernel_rfl, hK2.out _ ?_⟩); clear hK1 hK2 K1 K2; simp); (try with_reducible refine AR.nil ?_)
        refine AR.step (fun K1 K2 hK1 hK2 => ?_)
        simp
        refine orr_l ⟨by kernel_rfl, .inr (.inl ⟨_, _, _, crb, ?_⟩)⟩
        (try simp)
        refine hK1.out _ _ ?_
        clear hK1 hK2 K1 K2
        (try simp)
        (try simp only [List.toList_toArray, toList_lit]); repeat (with_reducible refine AR.step (fun K1 K2 hK1 hK2 => ?_); simp; (first | refine hK1.out _ _ ?_ | refine hK2.out _ ?_ | refine ⟨by kernel_rfl, hK2.out _ ?_⟩); clear hK1 hK2 K1 K2; simp); (try with_reducible refine AR.nil ?_)
        refine AR.step (fun K1 K2 hK1 hK2 => ?_)
        simp
        refine orr_l ⟨by kernel_rfl, .inl ⟨_, eqn, ?_⟩⟩
        (try simp)
        refine hK1.out _ _ ?_
        clear hK1 hK2 K1 K2
        (try simp)
        (try simp only [List.toList_toArray, toList_lit]); repeat (with_reducible refine AR.step (fun K1 K2 hK1 hK2 => ?_); simp; (first | refine hK1.out _ _ ?_ | refine hK2.out _ ?_ | refine ⟨by kernel_rfl, hK2.out _ ?_⟩); clear hK1 hK2 K1 K2; simp); (try with_reducible refine AR.nil ?_)
        refine ⟨chk_drawn (by kernel_rfl) (by kernel_rfl), hK.out _ ?_⟩
        clear hK K
        with_reducible (repeat (first | refine AW.seq ?_ | refine AW.block ?_ | refine AW.skip ?_ | refine AW.exit ?_ | refine AW.ret ?_ | refine AW.label ?_ | refine NX.then ?_ | refine NX.ret ?_ | refine NX.exit ?_ | refine NX.inRet ?_ | refine NX.inNormal ?_ | refine NX.inExit ?_ | refine NX.outExit (by decide) ?_))
        refine AW.cf rfl ?_
        with_reducible (repeat (first | refine AW.seq ?_ | refine AW.block ?_ | refine AW.skip ?_ | refine AW.exit ?_ | refine AW.ret ?_ | refine AW.label ?_ | refine NX.then ?_ | refine NX.ret ?_ | refine NX.exit ?_ | refine NX.inRet ?_ | refine NX.inNormal ?_ | refine NX.inExit ?_ | refine NX.outExit (by decide) ?_))
        refine AW.re ty (by kernel_rfl) (by first | exact cx_N _ _ _ | assumption) (by first | exact cx_pz _ _ _ | assumption) 190 (by decide) (fun K hK => ?_)
        (try simp only [List.toList_toArray, toList_lit]); repeat (with_reducible refine AR.step (fun K1 K2 hK1 hK2 => ?_); simp; (first | refine hK1.out _ _ ?_ | refine hK2.out _ ?_ | refine ⟨by kernel_rfl, hK2.out _ ?_⟩); clear hK1 hK2 K1 K2; simp); (try with_reducible refine AR.nil ?_)
        refine ⟨chk_text _ _, hK.out _ ?_⟩
        clear hK K
        with_reducible (repeat (first | refine AW.seq ?_ | refine AW.block ?_ | refine AW.skip ?_ | refine AW.exit ?_ | refine AW.ret ?_ | refine AW.label ?_ | refine NX.then ?_ | refine NX.ret ?_ | refine NX.exit ?_ | refine NX.inRet ?_ | refine NX.inNormal ?_ | refine NX.inExit ?_ | refine NX.outExit (by decide) ?_))
        refine AW.loop (X := Unit) (fun _ => [(.tmp 67, .av (.c [] (.v (.int .i64 0)))), (.tmp 68, .av (.c [] (.v (.int .i64 0))))] ++ tlO l m q nums true (.own 21) k) (fun _ => 0) () (fun _ _ h => AS.fold (fold_of (V := vw [] [] [] []) (by first | exact cx_pz _ _ _ | assumption) (by kernel_rfl) (by rfl) (by simp [tlO, tlB, foks_nil, foks_cons, fok_tmp, fok_vt, fok_cell, fok_nm, fok_zn, fok_hd, fok_df, Fv_c, Fv_seg, Fv_tup, Fv_agg, Fv_ptr, Fv_ptrs, Fv_fn, Fv_fnd, Fv_own, Fv_ownd, Fv_nown, Fv_vown, FvL_nil, FvL_cons, kvp_av, hdp_some, subz, frz, Uz, Nm, Uh, vw_nb, vw_zo, vw_zf, vw_hb, tb_nil, tb_cons, fzc_nil, fzc_cons, fzcaps_nil, fzcaps_cons])) h) (fun _ => ?_)
        refine AW.at_ (fun L hL => ?_)
        simp [tlO, tlB] at hL
        subst hL
        with_reducible (repeat (first | refine AW.seq ?_ | refine AW.block ?_ | refine AW.skip ?_ | refine AW.exit ?_ | refine AW.ret ?_ | refine AW.label ?_ | refine NX.then ?_ | refine NX.ret ?_ | refine NX.exit ?_ | refine NX.inRet ?_ | refine NX.inNormal ?_ | refine NX.inExit ?_ | refine NX.outExit (by decide) ?_))
        refine AW.re ty (by kernel_rfl) (by first | exact cx_N _ _ _ | assumption) (by first | exact cx_pz _ _ _ | assumption) 300 (by decide) (fun K hK => ?_)
        (try simp only [List.toList_toArray, toList_lit]); repeat (with_reducible refine AR.step (fun K1 K2 hK1 hK2 => ?_); simp; (first | refine hK1.out _ _ ?_ | refine hK2.out _ ?_ | refine ⟨by kernel_rfl, hK2.out _ ?_⟩); clear hK1 hK2 K1 K2; simp); (try with_reducible refine AR.nil ?_)
        refine ⟨chk_text _ _, hK.out _ ?_⟩
        clear hK K
        with_reducible (repeat (first | refine AW.seq ?_ | refine AW.block ?_ | refine AW.skip ?_ | refine AW.exit ?_ | refine AW.ret ?_ | refine AW.label ?_ | refine NX.then ?_ | refine NX.ret ?_ | refine NX.exit ?_ | refine NX.inRet ?_ | refine NX.inNormal ?_ | refine NX.inExit ?_ | refine NX.outExit (by decide) ?_))
        refine AW.cf rfl ?_
        with_reducible (repeat (first | refine AW.seq ?_ | refine AW.block ?_ | refine AW.skip ?_ | refine AW.exit ?_ | refine AW.ret ?_ | refine AW.label ?_ | refine NX.then ?_ | refine NX.ret ?_ | refine NX.exit ?_ | refine NX.inRet ?_ | refine NX.inNormal ?_ | refine NX.inExit ?_ | refine NX.outExit (by decide) ?_))
        refine AW.re ty (by kernel_rfl) (by first | exact cx_N _ _ _ | assumption) (by first | exact cx_pz _ _ _ | assumption) 400 (by decide) (fun K hK => ?_)
        (try simp only [List.toList_toArray, toList_lit]); repeat (with_reducible refine AR.step (fun K1 K2 hK1 hK2 => ?_); simp [w5]; (first | refine hK1.out _ _ ?_ | refine hK2.out _ ?_ | refine ⟨by kernel_rfl, hK2.out _ ?_⟩); clear hK1 hK2 K1 K2; simp [w5]); (try with_reducible refine AR.nil ?_)
        refine ⟨chk_text _ _, hK.out _ ?_⟩
        clear hK K
        with_reducible (repeat (first | refine AW.seq ?_ | refine AW.block ?_ | refine AW.skip ?_ | refine AW.exit ?_ | refine AW.ret ?_ | refine AW.label ?_ | refine NX.then ?_ | refine NX.ret ?_ | refine NX.exit ?_ | refine NX.inRet ?_ | refine NX.inNormal ?_ | refine NX.inExit ?_ | refine NX.outExit (by decide) ?_))
        exact NX.round ⟨k + 1, hgo⟩ (by show q.length - (k + 1) < q.length - k; omega) (fun _ _ h => AS.fold (fold_of (V := vw [] [] [] []) (by first | exact cx_pz _ _ _ | assumption) (by kernel_rfl) (by rfl) (by simp [tlO, tlB, foks_nil, foks_cons, fok_tmp, fok_vt, fok_cell, fok_nm, fok_zn, fok_hd, fok_df, Fv_c, Fv_seg, Fv_tup, Fv_agg, Fv_ptr, Fv_ptrs, Fv_fn, Fv_fnd, Fv_own, Fv_ownd, Fv_nown, Fv_vown, FvL_nil, FvL_cons, kvp_av, hdp_some, subz, frz, Uz, Nm, Uh, vw_nb, vw_zo, vw_zf, vw_hb, tb_nil, tb_cons, fzc_nil, fzc_cons, fzcaps_nil, fzcaps_cons])) h)
  · obtain rfl : k = q.length := by omega
    refine AW.re ty (by kernel_rfl) (by first | exact cx_N _ _ _ | assumption) (by first | exact cx_pz _ _ _ | assumption) 500 (by decide) (fun K hK => ?_)
    (try simp only [List.toList_toArray, toList_lit]); repeat (with_reducible refine AR.step (fun K1 K2 hK1 hK2 => ?_); simp; (first | refine hK1.out _ _ ?_ | refine hK2.out _ ?_ | refine ⟨by kernel_rfl, hK2.out _ ?_⟩); clear hK1 hK2 K1 K2; simp); (try with_reducible refine AR.nil ?_)
    refine ⟨chk_text _ _, hK.out _ ?_⟩
    clear hK K
    with_reducible (repeat (first | refine AW.seq ?_ | refine AW.block ?_ | refine AW.skip ?_ | refine AW.exit ?_ | refine AW.ret ?_ | refine AW.label ?_ | refine NX.then ?_ | refine NX.ret ?_ | refine NX.exit ?_ | refine NX.inRet ?_ | refine NX.inNormal ?_ | refine NX.inExit ?_ | refine NX.outExit (by decide) ?_))
    refine AW.cf rfl ?_
    with_reducible (repeat (first | refine AW.seq ?_ | refine AW.block ?_ | refine AW.skip ?_ | refine AW.exit ?_ | refine AW.ret ?_ | refine AW.label ?_ | refine NX.then ?_ | refine NX.ret ?_ | refine NX.exit ?_ | refine NX.inRet ?_ | refine NX.inNormal ?_ | refine NX.inExit ?_ | refine NX.outExit (by decide) ?_))
    refine AW.re ty (by kernel_rfl) (by first | exact cx_N _ _ _ | assumption) (by first | exact cx_pz _ _ _ | assumption) 600 (by decide) (fun K hK => ?_)
    (try simp only [List.toList_toArray, toList_lit]); repeat (with_reducible refine AR.step (fun K1 K2 hK1 hK2 => ?_); simp; (first | refine hK1.out _ _ ?_ | refine hK2.out _ ?_ | refine ⟨by kernel_rfl, hK2.out _ ?_⟩); clear hK1 hK2 K1 K2; simp); (try with_reducible refine AR.nil ?_)
    refine ⟨chk_text _ _, hK.out _ ?_⟩
    clear hK K
    with_reducible (repeat (first | refine AW.seq ?_ | refine AW.block ?_ | refine AW.skip ?_ | refine AW.exit ?_ | refine AW.ret ?_ | refine AW.label ?_ | refine NX.then ?_ | refine NX.ret ?_ | refine NX.exit ?_ | refine NX.inRet ?_ | refine NX.inNormal ?_ | refine NX.inExit ?_ | refine NX.outExit (by decide) ?_))
    refine AW.loop (X := { k : Nat // k ≤ nums.length }) (fun x => tlN l m q nums true (.own 21) x.1) (fun x => nums.length - x.1) ⟨0, by simp⟩ (fun _ _ h => AS.fold (fold_of (V := vw [] [] [] []) (by first | exact cx_pz _ _ _ | assumption) (by kernel_rfl) (by rfl) (by simp [tlN, tlB, foks_nil, foks_cons, fok_tmp, fok_vt, fok_cell, fok_nm, fok_zn, fok_hd, fok_df, Fv_c, Fv_seg, Fv_tup, Fv_agg, Fv_ptr, Fv_ptrs, Fv_fn, Fv_fnd, Fv_own, Fv_ownd, Fv_nown, Fv_vown, FvL_nil, FvL_cons, kvp_av, hdp_some, subz, frz, Uz, Nm, Uh, vw_nb, vw_zo, vw_zf, vw_hb, tb_nil, tb_cons, fzc_nil, fzc_cons, fzcaps_nil, fzcaps_cons])) h) (fun x => ?_)
    obtain ⟨k3, hk3⟩ := x
    refine AW.at_ (fun L hL => ?_)
    simp [tlN, tlB] at hL
    subst hL
    with_reducible (repeat (first | refine AW.seq ?_ | refine AW.block ?_ | refine AW.skip ?_ | refine AW.exit ?_ | refine AW.ret ?_ | refine AW.label ?_ | refine NX.then ?_ | refine NX.ret ?_ | refine NX.exit ?_ | refine NX.inRet ?_ | refine NX.inNormal ?_ | refine NX.inExit ?_ | refine NX.outExit (by decide) ?_))
    by_cases hgo3 : k3 < nums.length
    · have w8 : IntKind.i64.wrap ((k3 : Int) + 1) = ((k3 + 1 : Nat) : Int) := by rw [i64_ok _ (by omega) (by unfold maxI at hN; omega)]; omega
      obtain ⟨a3, ha3⟩ : ∃ a3, nums[k3] = a3 := ⟨_, rfl⟩
      refine AW.re ty (by kernel_rfl) (by first | exact cx_N _ _ _ | assumption) (by first | exact cx_pz _ _ _ | assumption) 620 (by decide) (fun K hK => ?_)
      (try simp only [List.toList_toArray, toList_lit]); repeat (with_reducible refine AR.step (fun K1 K2 hK1 hK2 => ?_); simp [hgo3]; (first | refine hK1.out _ _ ?_ | refine hK2.out _ ?_ | refine ⟨by kernel_rfl, hK2.out _ ?_⟩); clear hK1 hK2 K1 K2; simp [hgo3]); (try with_reducible refine AR.nil ?_)
      refine ⟨chk_text _ _, hK.out _ ?_⟩
      clear hK K
      with_reducible (repeat (first | refine AW.seq ?_ | refine AW.block ?_ | refine AW.skip ?_ | refine AW.exit ?_ | refine AW.ret ?_ | refine AW.label ?_ | refine NX.then ?_ | refine NX.ret ?_ | refine NX.exit ?_ | refine NX.inRet ?_ | refine NX.inNormal ?_ | refine NX.inExit ?_ | refine NX.outExit (by decide) ?_))
      refine AW.ct rfl ?_
      with_reducible (repeat (first | refine AW.seq ?_ | refine AW.block ?_ | refine AW.skip ?_ | refine AW.exit ?_ | refine AW.ret ?_ | refine AW.label ?_ | refine NX.then ?_ | refine NX.ret ?_ | refine NX.exit ?_ | refine NX.inRet ?_ | refine NX.inNormal ?_ | refine NX.inExit ?_ | refine NX.outExit (by decide) ?_))
      refine AW.re ty (by kernel_rfl) (by first | exact cx_N _ _ _ | assumption) (by first | exact cx_pz _ _ _ | assumption) 630 (by decide) (fun K hK => ?_)
      (try simp only [List.toList_toArray, toList_lit]); repeat (with_reducible refine AR.step (fun K1 K2 hK1 hK2 => ?_); simp [hgo3]; (first | refine hK1.out _ _ ?_ | refine hK2.out _ ?_ | refine ⟨by kernel_rfl, hK2.out _ ?_⟩); clear hK1 hK2 K1 K2; simp [hgo3]); (try with_reducible refine AR.nil ?_)
      refine AR.step (fun K1 K2 hK1 hK2 => ?_)
      simp [hgo3]
      refine ⟨k3, uD a3, rfl, by simp [hgo3, ha3], ?_⟩
      refine hK1.out _ _ ?_
      clear hK1 hK2 K1 K2
      (try simp [hgo3])
      (try simp only [List.toList_toArray, toList_lit]); repeat (with_reducible refine AR.step (fun K1 K2 hK1 hK2 => ?_); simp [hgo3]; (first | refine hK1.out _ _ ?_ | refine hK2.out _ ?_ | refine ⟨by kernel_rfl, hK2.out _ ?_⟩); clear hK1 hK2 K1 K2; simp [hgo3]); (try with_reducible refine AR.nil ?_)
      refine ⟨chk_text _ _, hK.out _ ?_⟩
      clear hK K
      with_reducible (repeat (first | refine AW.seq ?_ | refine AW.block ?_ | refine AW.skip ?_ | refine AW.exit ?_ | refine AW.ret ?_ | refine AW.label ?_ | refine NX.then ?_ | refine NX.ret ?_ | refine NX.exit ?_ | refine NX.inRet ?_ | refine NX.inNormal ?_ | refine NX.inExit ?_ | refine NX.outExit (by decide) ?_))
      by_cases h10b : (k3 : Int) < 10
      · have cs1 := seconds_ct m a3 hri hr (by omega)
        have cs2 := rseconds_ct m a3 (by omega)
        rw [← secL_is hri hmb a3] at cs2
        have hsl : (secL m a3).length ≤ 1000000 := by
          rw [secL_is hri hmb a3]
          unfold rsR
          rw [List.length_map, List.take_length]
          exact Nat.le_trans (List.length_filter_le _ _) (by omega)
        generalize secL m a3 = S at *
        have ces := equalU_ct S S hsl hsl
        rw [decide_eq_true rfl] at ces
        refine AW.re ty (by kernel_rfl) (by first | exact cx_N _ _ _ | assumption) (by first | exact cx_pz _ _ _ | assumption) 650 (by decide) (fun K hK => ?_)
        (try simp only [List.toList_toArray, toList_lit]); repeat (with_reducible refine AR.step (fun K1 K2 hK1 hK2 => ?_); simp [h10b]; (first | refine hK1.out _ _ ?_ | refine hK2.out _ ?_ | refine ⟨by kernel_rfl, hK2.out _ ?_⟩); clear hK1 hK2 K1 K2; simp [h10b]); (try with_reducible refine AR.nil ?_)
        refine AR.step (fun K1 K2 hK1 hK2 => ?_)
        simp [h10b]
        refine orr_l ⟨by kernel_rfl, .inr (.inl ⟨_, _, _, cs1, ?_⟩)⟩
        (try simp [h10b])
        refine hK1.out _ _ ?_
        clear hK1 hK2 K1 K2
        (try simp [h10b])
        (try simp only [List.toList_toArray, toList_lit]); repeat (with_reducible refine AR.step (fun K1 K2 hK1 hK2 => ?_); simp [h10b]; (first | refine hK1.out _ _ ?_ | refine hK2.out _ ?_ | refine ⟨by kernel_rfl, hK2.out _ ?_⟩); clear hK1 hK2 K1 K2; simp [h10b]); (try with_reducible refine AR.nil ?_)
        refine AR.step (fun K1 K2 hK1 hK2 => ?_)
        simp [h10b]
        refine orr_l ⟨by kernel_rfl, .inr (.inl ⟨_, _, _, cs2, ?_⟩)⟩
        (try simp [h10b])
        refine hK1.out _ _ ?_
        clear hK1 hK2 K1 K2
        (try simp [h10b])
        (try simp only [List.toList_toArray, toList_lit]); repeat (with_reducible refine AR.step (fun K1 K2 hK1 hK2 => ?_); simp [h10b]; (first | refine hK1.out _ _ ?_ | refine hK2.out _ ?_ | refine ⟨by kernel_rfl, hK2.out _ ?_⟩); clear hK1 hK2 K1 K2; simp [h10b]); (try with_reducible refine AR.nil ?_)
        refine AR.step (fun K1 K2 hK1 hK2 => ?_)
        simp [h10b]
        refine orr_l ⟨by kernel_rfl, .inl ⟨_, ces, ?_⟩⟩
        (try simp [h10b])
        refine hK1.out _ _ ?_
        clear hK1 hK2 K1 K2
        (try simp [h10b])
        (try simp only [List.toList_toArray, toList_lit]); repeat (with_reducible refine AR.step (fun K1 K2 hK1 hK2 => ?_); simp [h10b]; (first | refine hK1.out _ _ ?_ | refine hK2.out _ ?_ | refine ⟨by kernel_rfl, hK2.out _ ?_⟩); clear hK1 hK2 K1 K2; simp [h10b]); (try with_reducible refine AR.nil ?_)
        refine ⟨chk_text _ _, hK.out _ ?_⟩
        clear hK K
        with_reducible (repeat (first | refine AW.seq ?_ | refine AW.block ?_ | refine AW.skip ?_ | refine AW.exit ?_ | refine AW.ret ?_ | refine AW.label ?_ | refine NX.then ?_ | refine NX.ret ?_ | refine NX.exit ?_ | refine NX.inRet ?_ | refine NX.inNormal ?_ | refine NX.inExit ?_ | refine NX.outExit (by decide) ?_))
        refine AW.cf rfl ?_
        with_reducible (repeat (first | refine AW.seq ?_ | refine AW.block ?_ | refine AW.skip ?_ | refine AW.exit ?_ | refine AW.ret ?_ | refine AW.label ?_ | refine NX.then ?_ | refine NX.ret ?_ | refine NX.exit ?_ | refine NX.inRet ?_ | refine NX.inNormal ?_ | refine NX.inExit ?_ | refine NX.outExit (by decide) ?_))
        refine AW.re ty (by kernel_rfl) (by first | exact cx_N _ _ _ | assumption) (by first | exact cx_pz _ _ _ | assumption) 680 (by decide) (fun K hK => ?_)
        (try simp only [List.toList_toArray, toList_lit]); repeat (with_reducible refine AR.step (fun K1 K2 hK1 hK2 => ?_); simp [w8]; (first | refine hK1.out _ _ ?_ | refine hK2.out _ ?_ | refine ⟨by kernel_rfl, hK2.out _ ?_⟩); clear hK1 hK2 K1 K2; simp [w8]); (try with_reducible refine AR.nil ?_)
        refine ⟨chk_text _ _, hK.out _ ?_⟩
        clear hK K
        with_reducible (repeat (first | refine AW.seq ?_ | refine AW.block ?_ | refine AW.skip ?_ | refine AW.exit ?_ | refine AW.ret ?_ | refine AW.label ?_ | refine NX.then ?_ | refine NX.ret ?_ | refine NX.exit ?_ | refine NX.inRet ?_ | refine NX.inNormal ?_ | refine NX.inExit ?_ | refine NX.outExit (by decide) ?_))
        exact NX.round ⟨k3 + 1, hgo3⟩ (by show nums.length - (k3 + 1) < nums.length - k3; omega) (fun _ _ h => AS.fold (fold_of (V := vw [] [] [] []) (by first | exact cx_pz _ _ _ | assumption) (by kernel_rfl) (by rfl) (by simp [tlN, tlB, foks_nil, foks_cons, fok_tmp, fok_vt, fok_cell, fok_nm, fok_zn, fok_hd, fok_df, Fv_c, Fv_seg, Fv_tup, Fv_agg, Fv_ptr, Fv_ptrs, Fv_fn, Fv_fnd, Fv_own, Fv_ownd, Fv_nown, Fv_vown, FvL_nil, FvL_cons, kvp_av, hdp_some, subz, frz, Uz, Nm, Uh, vw_nb, vw_zo, vw_zf, vw_hb, tb_nil, tb_cons, fzc_nil, fzc_cons, fzcaps_nil, fzcaps_cons])) h)
      · skip
        refine AW.re ty (by kernel_rfl) (by first | exact cx_N _ _ _ | assumption) (by first | exact cx_pz _ _ _ | assumption) 650 (by decide) (fun K hK => ?_)
        (try simp only [List.toList_toArray, toList_lit]); repeat (with_reducible refine AR.step (fun K1 K2 hK1 hK2 => ?_); simp [h10b]; (first | refine hK1.out _ _ ?_ | refine hK2.out _ ?_ | refine ⟨by kernel_rfl, hK2.out _ ?_⟩); clear hK1 hK2 K1 K2; simp [h10b]); (try with_reducible refine AR.nil ?_)
        refine ⟨chk_text _ _, hK.out _ ?_⟩
        clear hK K
        with_reducible (repeat (first | refine AW.seq ?_ | refine AW.block ?_ | refine AW.skip ?_ | refine AW.exit ?_ | refine AW.ret ?_ | refine AW.label ?_ | refine NX.then ?_ | refine NX.ret ?_ | refine NX.exit ?_ | refine NX.inRet ?_ | refine NX.inNormal ?_ | refine NX.inExit ?_ | refine NX.outExit (by decide) ?_))
        refine AW.cf rfl ?_
        with_reducible (repeat (first | refine AW.seq ?_ | refine AW.block ?_ | refine AW.skip ?_ | refine AW.exit ?_ | refine AW.ret ?_ | refine AW.label ?_ | refine NX.then ?_ | refine NX.ret ?_ | refine NX.exit ?_ | refine NX.inRet ?_ | refine NX.inNormal ?_ | refine NX.inExit ?_ | refine NX.outExit (by decide) ?_))
        refine AW.re ty (by kernel_rfl) (by first | exact cx_N _ _ _ | assumption) (by first | exact cx_pz _ _ _ | assumption) 680 (by decide) (fun K hK => ?_)
        (try simp only [List.toList_toArray, toList_lit]); repeat (with_reducible refine AR.step (fun K1 K2 hK1 hK2 => ?_); simp [w8]; (first | refine hK1.out _ _ ?_ | refine hK2.out _ ?_ | refine ⟨by kernel_rfl, hK2.out _ ?_⟩); clear hK1 hK2 K1 K2; simp [w8]); (try with_reducible refine AR.nil ?_)
        refine ⟨chk_text _ _, hK.out _ ?_⟩
        clear hK K
        with_reducible (repeat (first | refine AW.seq ?_ | refine AW.block ?_ | refine AW.skip ?_ | refine AW.exit ?_ | refine AW.ret ?_ | refine AW.label ?_ | refine NX.then ?_ | refine NX.ret ?_ | refine NX.exit ?_ | refine NX.inRet ?_ | refine NX.inNormal ?_ | refine NX.inExit ?_ | refine NX.outExit (by decide) ?_))
        exact NX.round ⟨k3 + 1, hgo3⟩ (by show nums.length - (k3 + 1) < nums.length - k3; omega) (fun _ _ h => AS.fold (fold_of (V := vw [] [] [] []) (by first | exact cx_pz _ _ _ | assumption) (by kernel_rfl) (by rfl) (by simp [tlN, tlB, foks_nil, foks_cons, fok_tmp, fok_vt, fok_cell, fok_nm, fok_zn, fok_hd, fok_df, Fv_c, Fv_seg, Fv_tup, Fv_agg, Fv_ptr, Fv_ptrs, Fv_fn, Fv_fnd, Fv_own, Fv_ownd, Fv_nown, Fv_vown, FvL_nil, FvL_cons, kvp_av, hdp_some, subz, frz, Uz, Nm, Uh, vw_nb, vw_zo, vw_zf, vw_hb, tb_nil, tb_cons, fzc_nil, fzc_cons, fzcaps_nil, fzcaps_cons])) h)
    · obtain rfl : k3 = nums.length := by omega
      refine AW.re ty (by kernel_rfl) (by first | exact cx_N _ _ _ | assumption) (by first | exact cx_pz _ _ _ | assumption) 700 (by decide) (fun K hK => ?_)
      (try simp only [List.toList_toArray, toList_lit]); repeat (with_reducible refine AR.step (fun K1 K2 hK1 hK2 => ?_); simp; (first | refine hK1.out _ _ ?_ | refine hK2.out _ ?_ | refine ⟨by kernel_rfl, hK2.out _ ?_⟩); clear hK1 hK2 K1 K2; simp); (try with_reducible refine AR.nil ?_)
      refine ⟨chk_text _ _, hK.out _ ?_⟩
      clear hK K
      with_reducible (repeat (first | refine AW.seq ?_ | refine AW.block ?_ | refine AW.skip ?_ | refine AW.exit ?_ | refine AW.ret ?_ | refine AW.label ?_ | refine NX.then ?_ | refine NX.ret ?_ | refine NX.exit ?_ | refine NX.inRet ?_ | refine NX.inNormal ?_ | refine NX.inExit ?_ | refine NX.outExit (by decide) ?_))
      refine AW.cf rfl ?_
      with_reducible (repeat (first | refine AW.seq ?_ | refine AW.block ?_ | refine AW.skip ?_ | refine AW.exit ?_ | refine AW.ret ?_ | refine AW.label ?_ | refine NX.then ?_ | refine NX.ret ?_ | refine NX.exit ?_ | refine NX.inRet ?_ | refine NX.inNormal ?_ | refine NX.inExit ?_ | refine NX.outExit (by decide) ?_))
      refine AW.re ty (by kernel_rfl) (by first | exact cx_N _ _ _ | assumption) (by first | exact cx_pz _ _ _ | assumption) 720 (by decide) (fun K hK => ?_)
      (try simp only [List.toList_toArray, toList_lit]); repeat (with_reducible refine AR.step (fun K1 K2 hK1 hK2 => ?_); simp; (first | refine hK1.out _ _ ?_ | refine hK2.out _ ?_ | refine ⟨by kernel_rfl, hK2.out _ ?_⟩); clear hK1 hK2 K1 K2; simp); (try with_reducible refine AR.nil ?_)
      refine AR.step (fun K1 K2 hK1 hK2 => ?_)
      simp
      refine orr_l ⟨by kernel_rfl, .inl ⟨_, ctn, ?_⟩⟩
      (try simp)
      refine hK1.out _ _ ?_
      clear hK1 hK2 K1 K2
      (try simp)
      (try simp only [List.toList_toArray, toList_lit]); repeat (with_reducible refine AR.step (fun K1 K2 hK1 hK2 => ?_); simp; (first | refine hK1.out _ _ ?_ | refine hK2.out _ ?_ | refine ⟨by kernel_rfl, hK2.out _ ?_⟩); clear hK1 hK2 K1 K2; simp); (try with_reducible refine AR.nil ?_)
      refine ⟨chk_text _ _, hK.out _ ?_⟩
      clear hK K
      with_reducible (repeat (first | refine AW.seq ?_ | refine AW.block ?_ | refine AW.skip ?_ | refine AW.exit ?_ | refine AW.ret ?_ | refine AW.label ?_ | refine NX.then ?_ | refine NX.ret ?_ | refine NX.exit ?_ | refine NX.inRet ?_ | refine NX.inNormal ?_ | refine NX.inExit ?_ | refine NX.outExit (by decide) ?_))
      refine AW.re ty (by kernel_rfl) (by first | exact cx_N _ _ _ | assumption) (by first | exact cx_pz _ _ _ | assumption) 730 (by decide) (fun K hK => ?_)
      (try simp only [List.toList_toArray, toList_lit]); repeat (with_reducible refine AR.step (fun K1 K2 hK1 hK2 => ?_); simp; (first | refine hK1.out _ _ ?_ | refine hK2.out _ ?_ | refine ⟨by kernel_rfl, hK2.out _ ?_⟩); clear hK1 hK2 K1 K2; simp); (try with_reducible refine AR.nil ?_)
      refine ⟨chk_text _ _, hK.out _ ?_⟩
      clear hK K
      with_reducible (repeat (first | refine AW.seq ?_ | refine AW.block ?_ | refine AW.skip ?_ | refine AW.exit ?_ | refine AW.ret ?_ | refine AW.label ?_ | refine NX.then ?_ | refine NX.ret ?_ | refine NX.exit ?_ | refine NX.inRet ?_ | refine NX.inNormal ?_ | refine NX.inExit ?_ | refine NX.outExit (by decide) ?_))
      refine AW.cf rfl ?_
      with_reducible (repeat (first | refine AW.seq ?_ | refine AW.block ?_ | refine AW.skip ?_ | refine AW.exit ?_ | refine AW.ret ?_ | refine AW.label ?_ | refine NX.then ?_ | refine NX.ret ?_ | refine NX.exit ?_ | refine NX.inRet ?_ | refine NX.inNormal ?_ | refine NX.inExit ?_ | refine NX.outExit (by decide) ?_))
      refine AW.re ty (by kernel_rfl) (by first | exact cx_N _ _ _ | assumption) (by first | exact cx_pz _ _ _ | assumption) 740 (by decide) (fun K hK => ?_)
      (try simp only [List.toList_toArray, toList_lit]); repeat (with_reducible refine AR.step (fun K1 K2 hK1 hK2 => ?_); simp; (first | refine hK1.out _ _ ?_ | refine hK2.out _ ?_ | refine ⟨by kernel_rfl, hK2.out _ ?_⟩); clear hK1 hK2 K1 K2; simp); (try with_reducible refine AR.nil ?_)
      refine AR.step (fun K1 K2 hK1 hK2 => ?_)
      simp
      refine orr_l ⟨by kernel_rfl, .inr (.inl ⟨_, _, _, crt, ?_⟩)⟩
      (try simp)
      refine hK1.out _ _ ?_
      clear hK1 hK2 K1 K2
      (try simp)
      (try simp only [List.toList_toArray, toList_lit]); repeat (with_reducible refine AR.step (fun K1 K2 hK1 hK2 => ?_); simp; (first | refine hK1.out _ _ ?_ | refine hK2.out _ ?_ | refine ⟨by kernel_rfl, hK2.out _ ?_⟩); clear hK1 hK2 K1 K2; simp); (try with_reducible refine AR.nil ?_)
      refine AR.step (fun K1 K2 hK1 hK2 => ?_)
      simp
      refine orr_l ⟨by kernel_rfl, .inl ⟨_, ceq, ?_⟩⟩
      (try simp)
      refine hK1.out _ _ ?_
      clear hK1 hK2 K1 K2
      (try simp)
      (try simp only [List.toList_toArray, toList_lit]); repeat (with_reducible refine AR.step (fun K1 K2 hK1 hK2 => ?_); simp; (first | refine hK1.out _ _ ?_ | refine hK2.out _ ?_ | refine ⟨by kernel_rfl, hK2.out _ ?_⟩); clear hK1 hK2 K1 K2; simp); (try with_reducible refine AR.nil ?_)
      refine AR.step (fun K1 K2 hK1 hK2 => ?_)
      simp
      refine orr_l ⟨by kernel_rfl, .inl ⟨_, cfi, ?_⟩⟩
      (try simp)
      refine hK1.out _ _ ?_
      clear hK1 hK2 K1 K2
      (try simp)
      (try simp only [List.toList_toArray, toList_lit]); repeat (with_reducible refine AR.step (fun K1 K2 hK1 hK2 => ?_); simp; (first | refine hK1.out _ _ ?_ | refine hK2.out _ ?_ | refine ⟨by kernel_rfl, hK2.out _ ?_⟩); clear hK1 hK2 K1 K2; simp); (try with_reducible refine AR.nil ?_)
      refine AR.step (fun K1 K2 hK1 hK2 => ?_)
      simp
      refine orr_l ⟨by kernel_rfl, .inr (.inl ⟨_, _, _, crf, ?_⟩)⟩
      (try simp)
      refine hK1.out _ _ ?_
      clear hK1 hK2 K1 K2
      (try simp)
      (try simp only [List.toList_toArray, toList_lit]); repeat (with_reducible refine AR.step (fun K1 K2 hK1 hK2 => ?_); simp; (first | refine hK1.out _ _ ?_ | refine hK2.out _ ?_ | refine ⟨by kernel_rfl, hK2.out _ ?_⟩); clear hK1 hK2 K1 K2; simp); (try with_reducible refine AR.nil ?_)
      refine AR.step (fun K1 K2 hK1 hK2 => ?_)
      simp
      refine orr_l ⟨by kernel_rfl, .inl ⟨_, cefi, ?_⟩⟩
      (try simp)
      refine hK1.out _ _ ?_
      clear hK1 hK2 K1 K2
      (try simp)
      (try simp only [List.toList_toArray, toList_lit]); repeat (with_reducible refine AR.step (fun K1 K2 hK1 hK2 => ?_); simp; (first | refine hK1.out _ _ ?_ | refine hK2.out _ ?_ | refine ⟨by kernel_rfl, hK2.out _ ?_⟩); clear hK1 hK2 K1 K2; simp); (try with_reducible refine AR.nil ?_)
      refine AR.step (fun K1 K2 hK1 hK2 => ?_)
      simp
      refine orr_l ⟨by kernel_rfl, .inr (.inl ⟨_, _, _, cf, ?_⟩)⟩
      (try simp)
      refine hK1.out _ _ ?_
      clear hK1 hK2 K1 K2
      (try simp)
      (try simp only [List.toList_toArray, toList_lit]); repeat (with_reducible refine AR.step (fun K1 K2 hK1 hK2 => ?_); simp; (first | refine hK1.out _ _ ?_ | refine hK2.out _ ?_ | refine ⟨by kernel_rfl, hK2.out _ ?_⟩); clear hK1 hK2 K1 K2; simp); (try with_reducible refine AR.nil ?_)
      refine AR.step (fun K1 K2 hK1 hK2 => ?_)
      simp
      refine orr_l ⟨by kernel_rfl, .inl ⟨_, cem, ?_⟩⟩
      (try simp)
      refine hK1.out _ _ ?_
      clear hK1 hK2 K1 K2
      (try simp)
      (try simp only [List.toList_toArray, toList_lit]); repeat (with_reducible refine AR.step (fun K1 K2 hK1 hK2 => ?_); simp; (first | refine hK1.out _ _ ?_ | refine hK2.out _ ?_ | refine ⟨by kernel_rfl, hK2.out _ ?_⟩); clear hK1 hK2 K1 K2; simp); (try with_reducible refine AR.nil ?_)
      refine ⟨chk_text _ _, hK.out _ ?_⟩
      clear hK K
      with_reducible (repeat (first | refine AW.seq ?_ | refine AW.block ?_ | refine AW.skip ?_ | refine AW.exit ?_ | refine AW.ret ?_ | refine AW.label ?_ | refine NX.then ?_ | refine NX.ret ?_ | refine NX.exit ?_ | refine NX.inRet ?_ | refine NX.inNormal ?_ | refine NX.inExit ?_ | refine NX.outExit (by decide) ?_))
      refine nx_ret (T := ty) (rs := [.tmp 6]) (zs := []) (ds := [dB true]) (rr := []) (.inr rfl) rfl (by kernel_rfl) (by kernel_rfl) (by simp) rfl
theorem tells03_ct (l pairs : List Pr) (nums : List Int) (hb : ∀ p ∈ l, 0 ≤ p.2) (hN : nums.length ≤ maxI) : Ct Try.prog 11 [.c (RD l), .c (RD pairs), .c (UD nums)] none (.one (dB true)) := by
  have h1 : (l.take 40).length ≤ 40 := by rw [List.length_take]; omega
  have h2 : (pairs.take 40).length ≤ 40 := by rw [List.length_take]; omega
  cases hr : rightL (l.take 40) with
  | false => exact tells_no l _ _ nums rfl pairs rfl h1 h2 hN hr
  | true => exact tells_yes l _ _ nums rfl pairs rfl h1 h2 (fun p hp => hb p (List.mem_of_mem_take hp)) hN hr
end Go.Proofs.Ytlkdkhmdmgchbaa
