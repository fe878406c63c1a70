/- The second logic: the law RunParts. -/
import Derived.Test.YtlkdkhmdmgchbaaJQ
namespace Go.Proofs.Ytlkdkhmdmgchbaa
set_option linter.unusedSimpArgs false
set_option linter.unusedVariables false
open Go.RowKit
/-! ### what is met and what is left -/
abbrev miF : Bool → Bool → Bool := fun x y => x && !y
abbrev meF : Bool → Bool → Bool := fun x y => x && y
abbrev unF : Bool → Bool → Bool := fun x y => or x y
section
variable {a b : List Pr} (ha : Rises a) (hb : Rises b)
include ha hb
theorem mi_mem (p : Pr) : p ∈ keptH miF a b ↔ p ∈ a ∧ p ∉ b := by
  rw [keptH_mem _ ha hb]
  simp only [miF, Bool.and_eq_true, decide_eq_true_eq, Bool.not_eq_true', decide_eq_false_iff_not]
  exact ⟨fun h => h.2, fun h => ⟨.inl h.1, h⟩⟩
theorem me_mem (p : Pr) : p ∈ keptH meF a b ↔ p ∈ a ∧ p ∈ b := by
  rw [keptH_mem _ ha hb]
  simp only [meF, Bool.and_eq_true, decide_eq_true_eq]
  exact ⟨fun h => h.2, fun h => ⟨.inl h.1, h⟩⟩
theorem un_mem (p : Pr) : p ∈ keptH unF a b ↔ p ∈ a ∨ p ∈ b := by
  rw [keptH_mem _ ha hb]
  simp only [unF, Bool.or_eq_true, decide_eq_true_eq]
  exact ⟨fun h => h.2, fun h => ⟨h, h⟩⟩
theorem parts_back : keptH unF (keptH miF a b) (keptH meF a b) = a := by
  have h1 := keptH_rises miF ha hb
  have h2 := keptH_rises meF ha hb
  refine rises_ext (keptH_rises unF h1 h2) ha fun p => ?_
  rw [un_mem h1 h2, mi_mem ha hb, me_mem ha hb]
  by_cases h : p ∈ b <;> simp [h]
theorem un_swap : keptH unF b a = keptH unF a b := rises_ext (keptH_rises _ hb ha) (keptH_rises _ ha hb) fun p => by rw [un_mem hb ha, un_mem ha hb]; exact Or.comm
theorem un_len : (keptH unF a b).length = a.length + b.length - (keptH meF a b).length ∧ (keptH meF a b).length ≤ a.length := by
  have n1 := rises_nodup (keptH_rises miF ha hb)
  have n2 := rises_nodup (keptH_rises meF ha hb)
  have n3 := rises_nodup (keptH_rises unF ha hb)
  have na := rises_nodup ha
  have nb := rises_nodup hb
  have e1 : a.length = (keptH miF a b).length + (keptH meF a b).length := by
    have nd : (keptH miF a b ++ keptH meF a b).Nodup := List.nodup_append.2 ⟨n1, n2, fun x hx y hy e => by
      subst e
      exact ((mi_mem ha hb x).1 hx).2 ((me_mem ha hb x).1 hy).2⟩
    have := ((List.perm_ext_iff_of_nodup na nd).2 fun p => by
      rw [List.mem_append, mi_mem ha hb, me_mem ha hb]
      by_cases h : p ∈ b <;> simp [h]).length_eq
    rw [this, List.length_append]
  have e2 : (keptH unF a b).length = (keptH miF a b).length + b.length := by
    have nd : (keptH miF a b ++ b).Nodup := List.nodup_append.2 ⟨n1, nb, fun x hx y hy e => by
      subst e
      exact ((mi_mem ha hb x).1 hx).2 hy⟩
    have := ((List.perm_ext_iff_of_nodup n3 nd).2 fun p => by
      rw [List.mem_append, mi_mem ha hb, un_mem ha hb]
      by_cases h : p ∈ b <;> simp [h]).length_eq
    rw [this, List.length_append]
  omega
end
theorem right_kept (h : Bool → Bool → Bool) {a b : List Pr} (ha : Rises a) (hb : Rises b) (hn : a.length + b.length ≤ 1048576) : rightL (keptH h a b) = true := by
  unfold rightL
  have := keptH_len h a b
  simp only [Bool.and_eq_true, decide_eq_true_eq]
  exact ⟨keptH_rises h ha hb, by omega⟩
theorem right_rises {l : List Pr} (h : rightL l = true) : Rises l := by
  unfold rightL at h
  simp only [Bool.and_eq_true, decide_eq_true_eq] at h
  exact h.1
end Go.Proofs.Ytlkdkhmdmgchbaa
namespace Go.Proofs.Ytlkdkhmdmgchbaa
set_option linter.unusedSimpArgs false
set_option linter.unusedVariables false
open Go.RowKit
attribute [local simp ↓] arun_nil ob_some kva_av kfree_free khfree_free khown_own klive_live knm_false chk_true ya_true gsel_tt gsel_ff gsel_tf gsel_ft vb_bool vi_int vstr_string avps_ptr avps_seg avp_ptr avagg_agg avtup_tup avb_bool avown_own shs_struct shl_slice shla_slice shla_arr shls_slice shls_str shi_int bc_true bc_false hd1_cons opc_some opc_none opn_some opn_none unc_not unc_neg gd_none gd_some as_move as_assign as_pick as_bin as_un as_conv as_load as_faddr as_field as_extract as_iaddr as_slice as_alloc as_box as_store as_build as_rows as_call as_append as_fn as_len as_min as_max stMove stPick stBin stUn stConv stLoad stFaddr stField stExtract stIaddr stSlice stAlloc stBox stStore stBuild stRows stCall stAppend stFn stLen stMin stMax opd_tmp opd_const opd_func rawL_nil rawL_cons raw_c raw_a opr_e zr_nil zr_cons lvd_live hod_own obd_some kvd_av chd_true vid_int lk_cons lk_nil ins_nil ins_cons cells_zero cells_succ spread1_c spread1_own spread1_ptr spread1_fn spread1_seg spreadL_nil spreadL_cons spread_agg spread_c spread_own spread_seg spread_ptr spread_fn ex_zero ex_succ ops_e opb_none opb_int spreadD_agg spreadD_c spreadD_own spreadD_seg fillO_nil fillO_cons argsOf_nil argsOf_cons dvOf_c dvOf_seg dvOf_own dvOf_agg zrL_nil zrL_cons hdd_c hdd_seg hdd_own clz_e clv_raw clv_f callD_e dst0_n dst0_nil dst0_own goneH_e capc_ptr capc_seg capc_c capN_nil capN_cons capD_nil capD_cons deadZ_nil deadZ_cons
attribute [local simp] dok_some dok_none dflt_tmp dflt_vt dflt_cell dflt_zn dflt_nm dflt_hd dflt_df puts_nil puts_cons wr_some wr_none cst_agg cst_int cst_bool cst_string cst_slice cst_tuple cst_nilFunc cst_pointer cst_func bin_add bin_sub bin_mul bin_quo bin_rem bin_eql bin_neq bin_lss bin_leq bin_gtr bin_geq bin_bool bin_aggs binT_bool binT_aggs shbd_bool eqb_eql eqb_neq bin_slice bin_str_eql bin_str_neq bin_str_lss bin_str_add nz_v nz_n nz_s nz_p nz_f nz_st atz_v atz_n atz_s atz_p atz_f atz_st atz_agg atR_one atR_tup crow_nil crow_cons slc_c slc_n slc_own slc_nil raws setR placesT_nil placesT_cons zc chunk zsAll ocD_v ocD_n ocD_s ocD_p ocD_f ocD_st nrm_v nrm_n nrm_s nrm_p nrm_f nrm_st isV_one isV_tup isV_c isV_agg isV_v isV_n isV_s isV_p isV_f isV_st argRows Sh.agg zds_nil zds_e zds_v zds_s vcells_agg vcells_int vcells_bool vcells_string vcells_slice vcells_pointer toList_lit map_nilL map_consL nzr_e rowsOc_nil rowsOc_cons rowsOc_RD nzr_RD ty2 ty3 ty4 ty5 ty6 ty7 ty8 ty9 ty10 ty11 ty12 ty13 ty14 ty15 ty16 ty17 ty18 ty19 ty20 ty21 ty22 ty23 ty24 ty25 ty26 ty27 ty30 ty40 ty48 ty50 ty51 ty52 ty55 ty57 ty62 ty63 ty85 ty94 ty101 ty121 ty122 ty123 ty124 ty125 ty126 ty128 ty148 ty149 ty151 ty164 ty165 ty179 ty182 ty196 ty203 ty205 ty209 ty211 ty215 ty216 ty217 ty218 ty219 ty220 ty221 ty223 ty224 ty225 ty226 ty227 Value.oneCell'
set_option maxRecDepth 100000
def paS (a b u me : List Pr) (k : Nat) : Row := [(.zn 21, .zn .live), (.zn 100021, .zn .live), (.hd 21, .hd (.own 52 2 21 [100021] (a.map PD))), (.zn 23, .zn .live), (.zn 100023, .zn .live), (.hd 23, .hd (.own 52 2 23 [100023] (b.map PD))),
  (.zn 32, .zn .live), (.zn 72, .zn .live), (.zn 0, .zn .live), (.tmp 5, .av (.own 21)), (.tmp 6, .av (.own 23)), (.tmp 7, .av (.c [32] (RD u))), (.tmp 11, .av (.c [72] (RD me))),
  (.tmp 91, .av (.c [32] (RD u))), (.tmp 92, .av (.c [] (.v (.int .i64 u.length)))), (.tmp 93, .av (.c [] (.v (.int .i64 k))))]
set_option maxHeartbeats 8000000 in
theorem parts03_ct (l1 l2 : List Pr) : Ct Try.prog 13 [.c (RD l1), .c (RD l2)] none (.one (dB true)) := by
  have cw := wakes03_ct
  have cf1 := few03_ct l1
  have cf2 := few03_ct l2
  have hal : (l1.take 40).length ≤ 40 := by rw [List.length_take]; omega
  have hbl : (l2.take 40).length ≤ 40 := by rw [List.length_take]; omega
  obtain ⟨a, ha⟩ : ∃ m, m = l1.take 40 := ⟨_, rfl⟩
  obtain ⟨b, hb⟩ : ∃ m, m = l2.take 40 := ⟨_, rfl⟩
  rw [← ha] at cf1 hal
  rw [← hb] at cf2 hbl
  clear ha hb
  cases hr : (rightL a && rightL b) with
  | false =>
    have cu := unionp_ct' a b (by omega) hr
    refine ct_intro Try.func13 rfl Try.ntmps13 (by simp) (fun W0 Z => ?_)
    repeat (first | with_reducible refine AW.seq ?_ | with_reducible refine AW.block ?_ | with_reducible refine AW.skip ?_ | with_reducible refine AW.exit ?_ | with_reducible refine AW.ret ?_ | with_reducible refine AW.label ?_ | with_reducible refine NX.then ?_ | with_reducible refine NX.ret ?_ | with_reducible refine NX.exit ?_ | with_reducible refine NX.inRet ?_ | with_reducible refine NX.inNormal ?_ | with_reducible refine NX.inExit ?_ | with_reducible refine NX.outExit (by decide) ?_)
    refine AW.at_ (fun L hL => ?_)
    simp at hL
    subst hL
    refine AW.re ty (by kernel_rfl) (by first | exact cx_N _ _ _ | assumption) (by first | exact cx_pz _ _ _ | assumption) 1 (by decide) (fun K hK => ?_)
    (try simp only [List.toList_toArray, toList_lit]); repeat (with_reducible refine AR.step (fun K1 K2 hK1 hK2 => ?_); simp; (first | refine hK1.out _ _ ?_ | refine hK2.out _ ?_ | refine ⟨by kernel_rfl, hK2.out _ ?_⟩); clear hK1 hK2 K1 K2; simp); (try with_reducible refine AR.nil ?_)
    refine ⟨chk_text _ _, hK.out _ ?_⟩
    clear hK K
    repeat (first | with_reducible refine AW.seq ?_ | with_reducible refine AW.block ?_ | with_reducible refine AW.skip ?_ | with_reducible refine AW.exit ?_ | with_reducible refine AW.ret ?_ | with_reducible refine AW.label ?_ | with_reducible refine NX.then ?_ | with_reducible refine NX.ret ?_ | with_reducible refine NX.exit ?_ | with_reducible refine NX.inRet ?_ | with_reducible refine NX.inNormal ?_ | with_reducible refine NX.inExit ?_ | with_reducible refine NX.outExit (by decide) ?_)
    refine AW.re ty (by kernel_rfl) (by first | exact cx_N _ _ _ | assumption) (by first | exact cx_pz _ _ _ | assumption) 10 (by decide) (fun K hK => ?_)
    (try simp only [List.toList_toArray, toList_lit]); repeat (with_reducible refine AR.step (fun K1 K2 hK1 hK2 => ?_); simp; (first | refine hK1.out _ _ ?_ | refine hK2.out _ ?_ | refine ⟨by kernel_rfl, hK2.out _ ?_⟩); clear hK1 hK2 K1 K2; simp); (try with_reducible refine AR.nil ?_)
    refine AR.step (fun K1 K2 hK1 hK2 => ?_)
    simp
    refine orr_l ⟨by kernel_rfl, .inl ⟨_, cw, ?_⟩⟩
    (try simp)
    refine hK1.out _ _ ?_
    clear hK1 hK2 K1 K2
    (try simp)
    (try simp only [List.toList_toArray, toList_lit]); repeat (with_reducible refine AR.step (fun K1 K2 hK1 hK2 => ?_); simp; (first | refine hK1.out _ _ ?_ | refine hK2.out _ ?_ | refine ⟨by kernel_rfl, hK2.out _ ?_⟩); clear hK1 hK2 K1 K2; simp); (try with_reducible refine AR.nil ?_)
    refine ⟨chk_text _ _, hK.out _ ?_⟩
    clear hK K
    repeat (first | with_reducible refine AW.seq ?_ | with_reducible refine AW.block ?_ | with_reducible refine AW.skip ?_ | with_reducible refine AW.exit ?_ | with_reducible refine AW.ret ?_ | with_reducible refine AW.label ?_ | with_reducible refine NX.then ?_ | with_reducible refine NX.ret ?_ | with_reducible refine NX.exit ?_ | with_reducible refine NX.inRet ?_ | with_reducible refine NX.inNormal ?_ | with_reducible refine NX.inExit ?_ | with_reducible refine NX.outExit (by decide) ?_)
    refine AW.cf rfl ?_
    repeat (first | with_reducible refine AW.seq ?_ | with_reducible refine AW.block ?_ | with_reducible refine AW.skip ?_ | with_reducible refine AW.exit ?_ | with_reducible refine AW.ret ?_ | with_reducible refine AW.label ?_ | with_reducible refine NX.then ?_ | with_reducible refine NX.ret ?_ | with_reducible refine NX.exit ?_ | with_reducible refine NX.inRet ?_ | with_reducible refine NX.inNormal ?_ | with_reducible refine NX.inExit ?_ | with_reducible refine NX.outExit (by decide) ?_)
    refine AW.re ty (by kernel_rfl) (by first | exact cx_N _ _ _ | assumption) (by first | exact cx_pz _ _ _ | assumption) 20 (by decide) (fun K hK => ?_)
    (try simp only [List.toList_toArray, toList_lit]); repeat (with_reducible refine AR.step (fun K1 K2 hK1 hK2 => ?_); simp; (first | refine hK1.out _ _ ?_ | refine hK2.out _ ?_ | refine ⟨by kernel_rfl, hK2.out _ ?_⟩); clear hK1 hK2 K1 K2; simp); (try with_reducible refine AR.nil ?_)
    refine AR.step (fun K1 K2 hK1 hK2 => ?_)
    simp
    refine orr_l ⟨by kernel_rfl, .inr (.inl ⟨_, _, _, cf1, ?_⟩)⟩
    (try simp)
    refine hK1.out _ _ ?_
    clear hK1 hK2 K1 K2
    (try simp)
    (try simp only [List.toList_toArray, toList_lit]); repeat (with_reducible refine AR.step (fun K1 K2 hK1 hK2 => ?_); simp; (first | refine hK1.out _ _ ?_ | refine hK2.out _ ?_ | refine ⟨by kernel_rfl, hK2.out _ ?_⟩); clear hK1 hK2 K1 K2; simp); (try with_reducible refine AR.nil ?_)
    refine AR.step (fun K1 K2 hK1 hK2 => ?_)
    simp
    refine orr_l ⟨by kernel_rfl, .inr (.inl ⟨_, _, _, cf2, ?_⟩)⟩
    (try simp)
    refine hK1.out _ _ ?_
    clear hK1 hK2 K1 K2
    (try simp)
    (try simp only [List.toList_toArray, toList_lit]); repeat (with_reducible refine AR.step (fun K1 K2 hK1 hK2 => ?_); simp; (first | refine hK1.out _ _ ?_ | refine hK2.out _ ?_ | refine ⟨by kernel_rfl, hK2.out _ ?_⟩); clear hK1 hK2 K1 K2; simp); (try with_reducible refine AR.nil ?_)
    refine ⟨chk_text _ _, hK.out _ ?_⟩
    clear hK K
    repeat (first | with_reducible refine AW.seq ?_ | with_reducible refine AW.block ?_ | with_reducible refine AW.skip ?_ | with_reducible refine AW.exit ?_ | with_reducible refine AW.ret ?_ | with_reducible refine AW.label ?_ | with_reducible refine NX.then ?_ | with_reducible refine NX.ret ?_ | with_reducible refine NX.exit ?_ | with_reducible refine NX.inRet ?_ | with_reducible refine NX.inNormal ?_ | with_reducible refine NX.inExit ?_ | with_reducible refine NX.outExit (by decide) ?_)
    refine AW.re ty (by kernel_rfl) (by first | exact cx_N _ _ _ | assumption) (by first | exact cx_pz _ _ _ | assumption) 30 (by decide) (fun K hK => ?_)
    (try simp only [List.toList_toArray, toList_lit]); repeat (with_reducible refine AR.step (fun K1 K2 hK1 hK2 => ?_); simp; (first | refine hK1.out _ _ ?_ | refine hK2.out _ ?_ | refine ⟨by kernel_rfl, hK2.out _ ?_⟩); clear hK1 hK2 K1 K2; simp); (try with_reducible refine AR.nil ?_)
    refine AR.step (fun K1 K2 hK1 hK2 => ?_)
    simp
    refine orr_l ⟨by kernel_rfl, .inl ⟨_, cu, ?_⟩⟩
    (try simp)
    refine hK1.out _ _ ?_
    clear hK1 hK2 K1 K2
    (try simp)
    (try simp only [List.toList_toArray, toList_lit]); repeat (with_reducible refine AR.step (fun K1 K2 hK1 hK2 => ?_); simp; (first | refine hK1.out _ _ ?_ | refine hK2.out _ ?_ | refine ⟨by kernel_rfl, hK2.out _ ?_⟩); clear hK1 hK2 K1 K2; simp); (try with_reducible refine AR.nil ?_)
    refine ⟨chk_text _ _, hK.out _ ?_⟩
    clear hK K
    repeat (first | with_reducible refine AW.seq ?_ | with_reducible refine AW.block ?_ | with_reducible refine AW.skip ?_ | with_reducible refine AW.exit ?_ | with_reducible refine AW.ret ?_ | with_reducible refine AW.label ?_ | with_reducible refine NX.then ?_ | with_reducible refine NX.ret ?_ | with_reducible refine NX.exit ?_ | with_reducible refine NX.inRet ?_ | with_reducible refine NX.inNormal ?_ | with_reducible refine NX.inExit ?_ | with_reducible refine NX.outExit (by decide) ?_)
    refine AW.re ty (by kernel_rfl) (by first | exact cx_N _ _ _ | assumption) (by first | exact cx_pz _ _ _ | assumption) 40 (by decide) (fun K hK => ?_)
    (try simp only [List.toList_toArray, toList_lit]); repeat (with_reducible refine AR.step (fun K1 K2 hK1 hK2 => ?_); simp; (first | refine hK1.out _ _ ?_ | refine hK2.out _ ?_ | refine ⟨by kernel_rfl, hK2.out _ ?_⟩); clear hK1 hK2 K1 K2; simp); (try with_reducible refine AR.nil ?_)
    refine ⟨chk_text _ _, hK.out _ ?_⟩
    clear hK K
    repeat (first | with_reducible refine AW.seq ?_ | with_reducible refine AW.block ?_ | with_reducible refine AW.skip ?_ | with_reducible refine AW.exit ?_ | with_reducible refine AW.ret ?_ | with_reducible refine AW.label ?_ | with_reducible refine NX.then ?_ | with_reducible refine NX.ret ?_ | with_reducible refine NX.exit ?_ | with_reducible refine NX.inRet ?_ | with_reducible refine NX.inNormal ?_ | with_reducible refine NX.inExit ?_ | with_reducible refine NX.outExit (by decide) ?_)
    refine AW.ct rfl ?_
    repeat (first | with_reducible refine AW.seq ?_ | with_reducible refine AW.block ?_ | with_reducible refine AW.skip ?_ | with_reducible refine AW.exit ?_ | with_reducible refine AW.ret ?_ | with_reducible refine AW.label ?_ | with_reducible refine NX.then ?_ | with_reducible refine NX.ret ?_ | with_reducible refine NX.exit ?_ | with_reducible refine NX.inRet ?_ | with_reducible refine NX.inNormal ?_ | with_reducible refine NX.inExit ?_ | with_reducible refine NX.outExit (by decide) ?_)
    refine AW.re ty (by kernel_rfl) (by first | exact cx_N _ _ _ | assumption) (by first | exact cx_pz _ _ _ | assumption) 50 (by decide) (fun K hK => ?_)
    (try simp only [List.toList_toArray, toList_lit]); repeat (with_reducible refine AR.step (fun K1 K2 hK1 hK2 => ?_); simp; (first | refine hK1.out _ _ ?_ | refine hK2.out _ ?_ | refine ⟨by kernel_rfl, hK2.out _ ?_⟩); clear hK1 hK2 K1 K2; simp); (try with_reducible refine AR.nil ?_)
    refine ⟨chk_text _ _, hK.out _ ?_⟩
    clear hK K
    repeat (first | with_reducible refine AW.seq ?_ | with_reducible refine AW.block ?_ | with_reducible refine AW.skip ?_ | with_reducible refine AW.exit ?_ | with_reducible refine AW.ret ?_ | with_reducible refine AW.label ?_ | with_reducible refine NX.then ?_ | with_reducible refine NX.ret ?_ | with_reducible refine NX.exit ?_ | with_reducible refine NX.inRet ?_ | with_reducible refine NX.inNormal ?_ | with_reducible refine NX.inExit ?_ | with_reducible refine NX.outExit (by decide) ?_)
    refine nx_ret (T := ty) (rs := [.tmp 4]) (zs := []) (ds := [dB true]) (rr := []) (.inr rfl) rfl (by kernel_rfl) (by kernel_rfl) (by simp) rfl
  | true =>
    have hra : rightL a = true := by simp only [Bool.and_eq_true] at hr; exact hr.1
    have hrb : rightL b = true := by simp only [Bool.and_eq_true] at hr; exact hr.2
    have sa := right_rises hra
    have sb := right_rises hrb
    have l1' := keptH_len unF a b
    have l2' := keptH_len miF a b
    have l3' := keptH_len meF a b
    have cu := unionp_ct a b (by omega) hr
    have cmi := minus_ct a b (by omega) hr
    have cme := meet_ct a b (by omega) hr
    have rmi := right_kept miF sa sb (by omega)
    have rme := right_kept meF sa sb (by omega)
    have ru := right_kept unF sa sb (by omega)
    have cb := unionp_ct (keptH miF a b) (keptH meF a b) (by omega) (by rw [rmi, rme]; rfl)
    have cs := unionp_ct b a (by omega) (by rw [hra, hrb]; rfl)
    have e1 := parts_back sa sb
    have e2 := un_swap sa sb
    have e3 := un_len sa sb
    have sme := keptH_rises meF sa sb
    have m1 := me_mem sa sb
    have m2 := un_mem sa sb
    rw [e1] at cb
    rw [e2] at cs
    change Ct _ _ _ _ (.tup [.c (RD (keptH unF a b)), dI 0]) at cu
    change Ct _ _ _ _ (.tup [.c (RD (keptH miF a b)), dI 0]) at cmi
    change Ct _ _ _ _ (.tup [.c (RD (keptH meF a b)), dI 0]) at cme
    generalize keptH unF a b = u at *
    generalize keptH meF a b = me at *
    generalize keptH miF a b = mi at *
    have ce1 := equal_ct a a
    rw [decide_eq_true rfl] at ce1
    have ce2 := equal_ct u u
    rw [decide_eq_true rfl] at ce2
    have cc := check_ct u
    rw [ru] at cc
    refine ct_intro Try.func13 rfl Try.ntmps13 (by simp) (fun W0 Z => ?_)
    repeat (first | with_reducible refine AW.seq ?_ | with_reducible refine AW.block ?_ | with_reducible refine AW.skip ?_ | with_reducible refine AW.exit ?_ | with_reducible refine AW.ret ?_ | with_reducible refine AW.label ?_ | with_reducible refine NX.then ?_ | with_reducible refine NX.ret ?_ | with_reducible refine NX.exit ?_ | with_reducible refine NX.inRet ?_ | with_reducible refine NX.inNormal ?_ | with_reducible refine NX.inExit ?_ | with_reducible refine NX.outExit (by decide) ?_)
    refine AW.at_ (fun L hL => ?_)
    simp at hL
    subst hL
    refine AW.re ty (by kernel_rfl) (by first | exact cx_N _ _ _ | assumption) (by first | exact cx_pz _ _ _ | assumption) 1 (by decide) (fun K hK => ?_)
    (try simp only [List.toList_toArray, toList_lit]); repeat (with_reducible refine AR.step (fun K1 K2 hK1 hK2 => ?_); simp; (first | refine hK1.out _ _ ?_ | refine hK2.out _ ?_ | refine ⟨by kernel_rfl, hK2.out _ ?_⟩); clear hK1 hK2 K1 K2; simp); (try with_reducible refine AR.nil ?_)
    refine ⟨chk_text _ _, hK.out _ ?_⟩
    clear hK K
    repeat (first | with_reducible refine AW.seq ?_ | with_reducible refine AW.block ?_ | with_reducible refine AW.skip ?_ | with_reducible refine AW.exit ?_ | with_reducible refine AW.ret ?_ | with_reducible refine AW.label ?_ | with_reducible refine NX.then ?_ | with_reducible refine NX.ret ?_ | with_reducible refine NX.exit ?_ | with_reducible refine NX.inRet ?_ | with_reducible refine NX.inNormal ?_ | with_reducible refine NX.inExit ?_ | with_reducible refine NX.outExit (by decide) ?_)
    refine AW.re ty (by kernel_rfl) (by first | exact cx_N _ _ _ | assumption) (by first | exact cx_pz _ _ _ | assumption) 10 (by decide) (fun K hK => ?_)
    (try simp only [List.toList_toArray, toList_lit]); repeat (with_reducible refine AR.step (fun K1 K2 hK1 hK2 => ?_); simp; (first | refine hK1.out _ _ ?_ | refine hK2.out _ ?_ | refine ⟨by kernel_rfl, hK2.out _ ?_⟩); clear hK1 hK2 K1 K2; simp); (try with_reducible refine AR.nil ?_)
    refine AR.step (fun K1 K2 hK1 hK2 => ?_)
    simp
    refine orr_l ⟨by kernel_rfl, .inl ⟨_, cw, ?_⟩⟩
    (try simp)
    refine hK1.out _ _ ?_
    clear hK1 hK2 K1 K2
    (try simp)
    (try simp only [List.toList_toArray, toList_lit]); repeat (with_reducible refine AR.step (fun K1 K2 hK1 hK2 => ?_); simp; (first | refine hK1.out _ _ ?_ | refine hK2.out _ ?_ | refine ⟨by kernel_rfl, hK2.out _ ?_⟩); clear hK1 hK2 K1 K2; simp); (try with_reducible refine AR.nil ?_)
    refine ⟨chk_text _ _, hK.out _ ?_⟩
    clear hK K
    repeat (first | with_reducible refine AW.seq ?_ | with_reducible refine AW.block ?_ | with_reducible refine AW.skip ?_ | with_reducible refine AW.exit ?_ | with_reducible refine AW.ret ?_ | with_reducible refine AW.label ?_ | with_reducible refine NX.then ?_ | with_reducible refine NX.ret ?_ | with_reducible refine NX.exit ?_ | with_reducible refine NX.inRet ?_ | with_reducible refine NX.inNormal ?_ | with_reducible refine NX.inExit ?_ | with_reducible refine NX.outExit (by decide) ?_)
    refine AW.cf rfl ?_
    repeat (first | with_reducible refine AW.seq ?_ | with_reducible refine AW.block ?_ | with_reducible refine AW.skip ?_ | with_reducible refine AW.exit ?_ | with_reducible refine AW.ret ?_ | with_reducible refine AW.label ?_ | with_reducible refine NX.then ?_ | with_reducible refine NX.ret ?_ | with_reducible refine NX.exit ?_ | with_reducible refine NX.inRet ?_ | with_reducible refine NX.inNormal ?_ | with_reducible refine NX.inExit ?_ | with_reducible refine NX.outExit (by decide) ?_)
    refine AW.re ty (by kernel_rfl) (by first | exact cx_N _ _ _ | assumption) (by first | exact cx_pz _ _ _ | assumption) 20 (by decide) (fun K hK => ?_)
    (try simp only [List.toList_toArray, toList_lit]); repeat (with_reducible refine AR.step (fun K1 K2 hK1 hK2 => ?_); simp; (first | refine hK1.out _ _ ?_ | refine hK2.out _ ?_ | refine ⟨by kernel_rfl, hK2.out _ ?_⟩); clear hK1 hK2 K1 K2; simp); (try with_reducible refine AR.nil ?_)
    refine AR.step (fun K1 K2 hK1 hK2 => ?_)
    simp
    refine orr_l ⟨by kernel_rfl, .inr (.inl ⟨_, _, _, cf1, ?_⟩)⟩
    (try simp)
    refine hK1.out _ _ ?_
    clear hK1 hK2 K1 K2
    (try simp)
    (try simp only [List.toList_toArray, toList_lit]); repeat (with_reducible refine AR.step (fun K1 K2 hK1 hK2 => ?_); simp; (first | refine hK1.out _ _ ?_ | refine hK2.out _ ?_ | refine ⟨by kernel_rfl, hK2.out _ ?_⟩); clear hK1 hK2 K1 K2; simp); (try with_reducible refine AR.nil ?_)
    refine AR.step (fun K1 K2 hK1 hK2 => ?_)
    simp
    refine orr_l ⟨by kernel_rfl, .inr (.inl ⟨_, _, _, cf2, ?_⟩)⟩
    (try simp)
    refine hK1.out _ _ ?_
    clear hK1 hK2 K1 K2
    (try simp)
    (try simp only [List.toList_toArray, toList_lit]); repeat (with_reducible refine AR.step (fun K1 K2 hK1 hK2 => ?_); simp; (first | refine hK1.out _ _ ?_ | refine hK2.out _ ?_ | refine ⟨by kernel_rfl, hK2.out _ ?_⟩); clear hK1 hK2 K1 K2; simp); (try with_reducible refine AR.nil ?_)
    refine ⟨chk_text _ _, hK.out _ ?_⟩
    clear hK K
    repeat (first | with_reducible refine AW.seq ?_ | with_reducible refine AW.block ?_ | with_reducible refine AW.skip ?_ | with_reducible refine AW.exit ?_ | with_reducible refine AW.ret ?_ | with_reducible refine AW.label ?_ | with_reducible refine NX.then ?_ | with_reducible refine NX.ret ?_ | with_reducible refine NX.exit ?_ | with_reducible refine NX.inRet ?_ | with_reducible refine NX.inNormal ?_ | with_reducible refine NX.inExit ?_ | with_reducible refine NX.outExit (by decide) ?_)
    refine AW.re ty (by kernel_rfl) (by first | exact cx_N _ _ _ | assumption) (by first | exact cx_pz _ _ _ | assumption) 30 (by decide) (fun K hK => ?_)
    (try simp only [List.toList_toArray, toList_lit]); repeat (with_reducible refine AR.step (fun K1 K2 hK1 hK2 => ?_); simp; (first | refine hK1.out _ _ ?_ | refine hK2.out _ ?_ | refine ⟨by kernel_rfl, hK2.out _ ?_⟩); clear hK1 hK2 K1 K2; simp); (try with_reducible refine AR.nil ?_)
    refine AR.step (fun K1 K2 hK1 hK2 => ?_)
    simp
    refine orr_l ⟨by kernel_rfl, .inl ⟨_, cu, ?_⟩⟩
    (try simp)
    refine hK1.out _ _ ?_
    clear hK1 hK2 K1 K2
    (try simp)
    (try simp only [List.toList_toArray, toList_lit]); repeat (with_reducible refine AR.step (fun K1 K2 hK1 hK2 => ?_); simp; (first | refine hK1.out _ _ ?_ | refine hK2.out _ ?_ | refine ⟨by kernel_rfl, hK2.out _ ?_⟩); clear hK1 hK2 K1 K2; simp); (try with_reducible refine AR.nil ?_)
    refine ⟨chk_text _ _, hK.out _ ?_⟩
    clear hK K
    repeat (first | with_reducible refine AW.seq ?_ | with_reducible refine AW.block ?_ | with_reducible refine AW.skip ?_ | with_reducible refine AW.exit ?_ | with_reducible refine AW.ret ?_ | with_reducible refine AW.label ?_ | with_reducible refine NX.then ?_ | with_reducible refine NX.ret ?_ | with_reducible refine NX.exit ?_ | with_reducible refine NX.inRet ?_ | with_reducible refine NX.inNormal ?_ | with_reducible refine NX.inExit ?_ | with_reducible refine NX.outExit (by decide) ?_)
    refine AW.re ty (by kernel_rfl) (by first | exact cx_N _ _ _ | assumption) (by first | exact cx_pz _ _ _ | assumption) 40 (by decide) (fun K hK => ?_)
    (try simp only [List.toList_toArray, toList_lit]); repeat (with_reducible refine AR.step (fun K1 K2 hK1 hK2 => ?_); simp; (first | refine hK1.out _ _ ?_ | refine hK2.out _ ?_ | refine ⟨by kernel_rfl, hK2.out _ ?_⟩); clear hK1 hK2 K1 K2; simp); (try with_reducible refine AR.nil ?_)
    refine ⟨chk_text _ _, hK.out _ ?_⟩
    clear hK K
    repeat (first | with_reducible refine AW.seq ?_ | with_reducible refine AW.block ?_ | with_reducible refine AW.skip ?_ | with_reducible refine AW.exit ?_ | with_reducible refine AW.ret ?_ | with_reducible refine AW.label ?_ | with_reducible refine NX.then ?_ | with_reducible refine NX.ret ?_ | with_reducible refine NX.exit ?_ | with_reducible refine NX.inRet ?_ | with_reducible refine NX.inNormal ?_ | with_reducible refine NX.inExit ?_ | with_reducible refine NX.outExit (by decide) ?_)
    refine AW.cf rfl ?_
    repeat (first | with_reducible refine AW.seq ?_ | with_reducible refine AW.block ?_ | with_reducible refine AW.skip ?_ | with_reducible refine AW.exit ?_ | with_reducible refine AW.ret ?_ | with_reducible refine AW.label ?_ | with_reducible refine NX.then ?_ | with_reducible refine NX.ret ?_ | with_reducible refine NX.exit ?_ | with_reducible refine NX.inRet ?_ | with_reducible refine NX.inNormal ?_ | with_reducible refine NX.inExit ?_ | with_reducible refine NX.outExit (by decide) ?_)
    refine AW.re ty (by kernel_rfl) (by first | exact cx_N _ _ _ | assumption) (by first | exact cx_pz _ _ _ | assumption) 60 (by decide) (fun K hK => ?_)
    (try simp only [List.toList_toArray, toList_lit]); repeat (with_reducible refine AR.step (fun K1 K2 hK1 hK2 => ?_); simp; (first | refine hK1.out _ _ ?_ | refine hK2.out _ ?_ | refine ⟨by kernel_rfl, hK2.out _ ?_⟩); clear hK1 hK2 K1 K2; simp); (try with_reducible refine AR.nil ?_)
    refine AR.step (fun K1 K2 hK1 hK2 => ?_)
    simp
    refine orr_l ⟨by kernel_rfl, .inl ⟨_, cmi, ?_⟩⟩
    (try simp)
    refine hK1.out _ _ ?_
    clear hK1 hK2 K1 K2
    (try simp)
    (try simp only [List.toList_toArray, toList_lit]); repeat (with_reducible refine AR.step (fun K1 K2 hK1 hK2 => ?_); simp; (first | refine hK1.out _ _ ?_ | refine hK2.out _ ?_ | refine ⟨by kernel_rfl, hK2.out _ ?_⟩); clear hK1 hK2 K1 K2; simp); (try with_reducible refine AR.nil ?_)
    refine ⟨chk_text _ _, hK.out _ ?_⟩
    clear hK K
    repeat (first | with_reducible refine AW.seq ?_ | with_reducible refine AW.block ?_ | with_reducible refine AW.skip ?_ | with_reducible refine AW.exit ?_ | with_reducible refine AW.ret ?_ | with_reducible refine AW.label ?_ | with_reducible refine NX.then ?_ | with_reducible refine NX.ret ?_ | with_reducible refine NX.exit ?_ | with_reducible refine NX.inRet ?_ | with_reducible refine NX.inNormal ?_ | with_reducible refine NX.inExit ?_ | with_reducible refine NX.outExit (by decide) ?_)
    refine AW.re ty (by kernel_rfl) (by first | exact cx_N _ _ _ | assumption) (by first | exact cx_pz _ _ _ | assumption) 70 (by decide) (fun K hK => ?_)
    (try simp only [List.toList_toArray, toList_lit]); repeat (with_reducible refine AR.step (fun K1 K2 hK1 hK2 => ?_); simp; (first | refine hK1.out _ _ ?_ | refine hK2.out _ ?_ | refine ⟨by kernel_rfl, hK2.out _ ?_⟩); clear hK1 hK2 K1 K2; simp); (try with_reducible refine AR.nil ?_)
    refine AR.step (fun K1 K2 hK1 hK2 => ?_)
    simp
    refine orr_l ⟨by kernel_rfl, .inl ⟨_, cme, ?_⟩⟩
    (try simp)
    refine hK1.out _ _ ?_
    clear hK1 hK2 K1 K2
    (try simp)
    (try simp only [List.toList_toArray, toList_lit]); repeat (with_reducible refine AR.step (fun K1 K2 hK1 hK2 => ?_); simp; (first | refine hK1.out _ _ ?_ | refine hK2.out _ ?_ | refine ⟨by kernel_rfl, hK2.out _ ?_⟩); clear hK1 hK2 K1 K2; simp); (try with_reducible refine AR.nil ?_)
    refine ⟨chk_text _ _, hK.out _ ?_⟩
    clear hK K
    repeat (first | with_reducible refine AW.seq ?_ | with_reducible refine AW.block ?_ | with_reducible refine AW.skip ?_ | with_reducible refine AW.exit ?_ | with_reducible refine AW.ret ?_ | with_reducible refine AW.label ?_ | with_reducible refine NX.then ?_ | with_reducible refine NX.ret ?_ | with_reducible refine NX.exit ?_ | with_reducible refine NX.inRet ?_ | with_reducible refine NX.inNormal ?_ | with_reducible refine NX.inExit ?_ | with_reducible refine NX.outExit (by decide) ?_)
    refine AW.re ty (by kernel_rfl) (by first | exact cx_N _ _ _ | assumption) (by first | exact cx_pz _ _ _ | assumption) 80 (by decide) (fun K hK => ?_)
    (try simp only [List.toList_toArray, toList_lit]); repeat (with_reducible refine AR.step (fun K1 K2 hK1 hK2 => ?_); simp; (first | refine hK1.out _ _ ?_ | refine hK2.out _ ?_ | refine ⟨by kernel_rfl, hK2.out _ ?_⟩); clear hK1 hK2 K1 K2; simp); (try with_reducible refine AR.nil ?_)
    refine AR.step (fun K1 K2 hK1 hK2 => ?_)
    simp
    refine orr_l ⟨by kernel_rfl, .inl ⟨_, cb, ?_⟩⟩
    (try simp)
    refine hK1.out _ _ ?_
    clear hK1 hK2 K1 K2
    (try simp)
    (try simp only [List.toList_toArray, toList_lit]); repeat (with_reducible refine AR.step (fun K1 K2 hK1 hK2 => ?_); simp; (first | refine hK1.out _ _ ?_ | refine hK2.out _ ?_ | refine ⟨by kernel_rfl, hK2.out _ ?_⟩); clear hK1 hK2 K1 K2; simp); (try with_reducible refine AR.nil ?_)
    refine ⟨chk_text _ _, hK.out _ ?_⟩
    clear hK K
    repeat (first | with_reducible refine AW.seq ?_ | with_reducible refine AW.block ?_ | with_reducible refine AW.skip ?_ | with_reducible refine AW.exit ?_ | with_reducible refine AW.ret ?_ | with_reducible refine AW.label ?_ | with_reducible refine NX.then ?_ | with_reducible refine NX.ret ?_ | with_reducible refine NX.exit ?_ | with_reducible refine NX.inRet ?_ | with_reducible refine NX.inNormal ?_ | with_reducible refine NX.inExit ?_ | with_reducible refine NX.outExit (by decide) ?_)
    refine AW.re ty (by kernel_rfl) (by first | exact cx_N _ _ _ | assumption) (by first | exact cx_pz _ _ _ | assumption) 90 (by decide) (fun K hK => ?_)
    (try simp only [List.toList_toArray, toList_lit]); repeat (with_reducible refine AR.step (fun K1 K2 hK1 hK2 => ?_); simp; (first | refine hK1.out _ _ ?_ | refine hK2.out _ ?_ | refine ⟨by kernel_rfl, hK2.out _ ?_⟩); clear hK1 hK2 K1 K2; simp); (try with_reducible refine AR.nil ?_)
    refine AR.step (fun K1 K2 hK1 hK2 => ?_)
    simp
    refine orr_l ⟨by kernel_rfl, .inl ⟨_, cs, ?_⟩⟩
    (try simp)
    refine hK1.out _ _ ?_
    clear hK1 hK2 K1 K2
    (try simp)
    (try simp only [List.toList_toArray, toList_lit]); repeat (with_reducible refine AR.step (fun K1 K2 hK1 hK2 => ?_); simp; (first | refine hK1.out _ _ ?_ | refine hK2.out _ ?_ | refine ⟨by kernel_rfl, hK2.out _ ?_⟩); clear hK1 hK2 K1 K2; simp); (try with_reducible refine AR.nil ?_)
    refine ⟨chk_text _ _, hK.out _ ?_⟩
    clear hK K
    repeat (first | with_reducible refine AW.seq ?_ | with_reducible refine AW.block ?_ | with_reducible refine AW.skip ?_ | with_reducible refine AW.exit ?_ | with_reducible refine AW.ret ?_ | with_reducible refine AW.label ?_ | with_reducible refine NX.then ?_ | with_reducible refine NX.ret ?_ | with_reducible refine NX.exit ?_ | with_reducible refine NX.inRet ?_ | with_reducible refine NX.inNormal ?_ | with_reducible refine NX.inExit ?_ | with_reducible refine NX.outExit (by decide) ?_)
    refine AW.re ty (by kernel_rfl) (by first | exact cx_N _ _ _ | assumption) (by first | exact cx_pz _ _ _ | assumption) 110 (by decide) (fun K hK => ?_)
    (try simp only [List.toList_toArray, toList_lit]); repeat (with_reducible refine AR.step (fun K1 K2 hK1 hK2 => ?_); simp; (first | refine hK1.out _ _ ?_ | refine hK2.out _ ?_ | refine ⟨by kernel_rfl, hK2.out _ ?_⟩); clear hK1 hK2 K1 K2; simp); (try with_reducible refine AR.nil ?_)
    refine AR.step (fun K1 K2 hK1 hK2 => ?_)
    simp
    refine orr_l ⟨by kernel_rfl, .inl ⟨_, ce1, ?_⟩⟩
    (try simp)
    refine hK1.out _ _ ?_
    clear hK1 hK2 K1 K2
    (try simp)
    (try simp only [List.toList_toArray, toList_lit]); repeat (with_reducible refine AR.step (fun K1 K2 hK1 hK2 => ?_); simp; (first | refine hK1.out _ _ ?_ | refine hK2.out _ ?_ | refine ⟨by kernel_rfl, hK2.out _ ?_⟩); clear hK1 hK2 K1 K2; simp); (try with_reducible refine AR.nil ?_)
    refine AR.step (fun K1 K2 hK1 hK2 => ?_)
    simp
    refine orr_l ⟨by kernel_rfl, .inl ⟨_, ce2, ?_⟩⟩
    (try simp)
    refine hK1.out _ _ ?_
    clear hK1 hK2 K1 K2
    (try simp)
    (try simp only [List.toList_toArray, toList_lit]); repeat (with_reducible refine AR.step (fun K1 K2 hK1 hK2 => ?_); simp; (first | refine hK1.out _ _ ?_ | refine hK2.out _ ?_ | refine ⟨by kernel_rfl, hK2.out _ ?_⟩); clear hK1 hK2 K1 K2; simp); (try with_reducible refine AR.nil ?_)
    refine AR.step (fun K1 K2 hK1 hK2 => ?_)
    simp
    refine orr_l ⟨by kernel_rfl, .inl ⟨_, cc, ?_⟩⟩
    (try simp)
    refine hK1.out _ _ ?_
    clear hK1 hK2 K1 K2
    (try simp)
    (try simp only [List.toList_toArray, toList_lit]); repeat (with_reducible refine AR.step (fun K1 K2 hK1 hK2 => ?_); simp; (first | refine hK1.out _ _ ?_ | refine hK2.out _ ?_ | refine ⟨by kernel_rfl, hK2.out _ ?_⟩); clear hK1 hK2 K1 K2; simp); (try with_reducible refine AR.nil ?_)
    refine ⟨chk_text _ _, hK.out _ ?_⟩
    clear hK K
    repeat (first | with_reducible refine AW.seq ?_ | with_reducible refine AW.block ?_ | with_reducible refine AW.skip ?_ | with_reducible refine AW.exit ?_ | with_reducible refine AW.ret ?_ | with_reducible refine AW.label ?_ | with_reducible refine NX.then ?_ | with_reducible refine NX.ret ?_ | with_reducible refine NX.exit ?_ | with_reducible refine NX.inRet ?_ | with_reducible refine NX.inNormal ?_ | with_reducible refine NX.inExit ?_ | with_reducible refine NX.outExit (by decide) ?_)
    refine AW.cf rfl ?_
    repeat (first | with_reducible refine AW.seq ?_ | with_reducible refine AW.block ?_ | with_reducible refine AW.skip ?_ | with_reducible refine AW.exit ?_ | with_reducible refine AW.ret ?_ | with_reducible refine AW.label ?_ | with_reducible refine NX.then ?_ | with_reducible refine NX.ret ?_ | with_reducible refine NX.exit ?_ | with_reducible refine NX.inRet ?_ | with_reducible refine NX.inNormal ?_ | with_reducible refine NX.inExit ?_ | with_reducible refine NX.outExit (by decide) ?_)
    refine AW.re ty (by kernel_rfl) (by first | exact cx_N _ _ _ | assumption) (by first | exact cx_pz _ _ _ | assumption) 150 (by decide) (fun K hK => ?_)
    (try simp only [List.toList_toArray, toList_lit]); repeat (with_reducible refine AR.step (fun K1 K2 hK1 hK2 => ?_); simp; (first | refine hK1.out _ _ ?_ | refine hK2.out _ ?_ | refine ⟨by kernel_rfl, hK2.out _ ?_⟩); clear hK1 hK2 K1 K2; simp); (try with_reducible refine AR.nil ?_)
    refine ⟨chk_text _ _, hK.out _ ?_⟩
    clear hK K
    repeat (first | with_reducible refine AW.seq ?_ | with_reducible refine AW.block ?_ | with_reducible refine AW.skip ?_ | with_reducible refine AW.exit ?_ | with_reducible refine AW.ret ?_ | with_reducible refine AW.label ?_ | with_reducible refine NX.then ?_ | with_reducible refine NX.ret ?_ | with_reducible refine NX.exit ?_ | with_reducible refine NX.inRet ?_ | with_reducible refine NX.inNormal ?_ | with_reducible refine NX.inExit ?_ | with_reducible refine NX.outExit (by decide) ?_)
    refine AW.loop (X := { k : Nat // k ≤ u.length }) (fun x => paS a b u me x.1) (fun x => u.length - x.1) ⟨0, by simp⟩ (fun _ _ h => AS.fold (fold_of (V := vw [] [] [] []) (by first | exact cx_pz _ _ _ | assumption) (by kernel_rfl) (by rfl) (by simp [paS, foks_nil, foks_cons, fok_tmp, fok_vt, fok_cell, fok_nm, fok_zn, fok_hd, fok_df, Fv_c, Fv_seg, Fv_tup, Fv_agg, Fv_ptr, Fv_ptrs, Fv_fn, Fv_fnd, Fv_own, Fv_ownd, Fv_nown, Fv_vown, FvL_nil, FvL_cons, kvp_av, hdp_some, subz, frz, Uz, Nm, Uh, vw_nb, vw_zo, vw_zf, vw_hb, tb_nil, tb_cons, fzc_nil, fzc_cons, fzcaps_nil, fzcaps_cons])) h) (fun x => ?_)
    obtain ⟨k, hk⟩ := x
    refine AW.at_ (fun L hL => ?_)
    simp [paS] at hL
    subst hL
    repeat (first | with_reducible refine AW.seq ?_ | with_reducible refine AW.block ?_ | with_reducible refine AW.skip ?_ | with_reducible refine AW.exit ?_ | with_reducible refine AW.ret ?_ | with_reducible refine AW.label ?_ | with_reducible refine NX.then ?_ | with_reducible refine NX.ret ?_ | with_reducible refine NX.exit ?_ | with_reducible refine NX.inRet ?_ | with_reducible refine NX.inNormal ?_ | with_reducible refine NX.inExit ?_ | with_reducible refine NX.outExit (by decide) ?_)
    by_cases hgo : k < u.length
    · have w5 : IntKind.i64.wrap ((k : Int) + 1) = ((k + 1 : Nat) : Int) := by rw [i64_ok _ (by omega) (by omega)]; omega
      obtain ⟨x, hx⟩ : ∃ x, u[k] = x := ⟨_, rfl⟩
      have hin : x ∈ a ∨ x ∈ b := by rw [← m2 x, ← hx]; exact List.getElem_mem hgo
      have ch1 := has_ct a x sa hra (by omega)
      have ch2 := has_ct b x sb hrb (by omega)
      have ch3 := has_ct me x sme rme (by omega)
      refine AW.re ty (by kernel_rfl) (by first | exact cx_N _ _ _ | assumption) (by first | exact cx_pz _ _ _ | assumption) 200 (by decide) (fun K hK => ?_)
      (try simp only [List.toList_toArray, toList_lit]); repeat (with_reducible refine AR.step (fun K1 K2 hK1 hK2 => ?_); simp [hgo]; (first | refine hK1.out _ _ ?_ | refine hK2.out _ ?_ | refine ⟨by kernel_rfl, hK2.out _ ?_⟩); clear hK1 hK2 K1 K2; simp [hgo]); (try with_reducible refine AR.nil ?_)
      refine ⟨chk_text _ _, hK.out _ ?_⟩
      clear hK K
      repeat (first | with_reducible refine AW.seq ?_ | with_reducible refine AW.block ?_ | with_reducible refine AW.skip ?_ | with_reducible refine AW.exit ?_ | with_reducible refine AW.ret ?_ | with_reducible refine AW.label ?_ | with_reducible refine NX.then ?_ | with_reducible refine NX.ret ?_ | with_reducible refine NX.exit ?_ | with_reducible refine NX.inRet ?_ | with_reducible refine NX.inNormal ?_ | with_reducible refine NX.inExit ?_ | with_reducible refine NX.outExit (by decide) ?_)
      refine AW.ct rfl ?_
      repeat (first | with_reducible refine AW.seq ?_ | with_reducible refine AW.block ?_ | with_reducible refine AW.skip ?_ | with_reducible refine AW.exit ?_ | with_reducible refine AW.ret ?_ | with_reducible refine AW.label ?_ | with_reducible refine NX.then ?_ | with_reducible refine NX.ret ?_ | with_reducible refine NX.exit ?_ | with_reducible refine NX.inRet ?_ | with_reducible refine NX.inNormal ?_ | with_reducible refine NX.inExit ?_ | with_reducible refine NX.outExit (by decide) ?_)
      refine AW.re ty (by kernel_rfl) (by first | exact cx_N _ _ _ | assumption) (by first | exact cx_pz _ _ _ | assumption) 210 (by decide) (fun K hK => ?_)
      (try simp only [List.toList_toArray, toList_lit]); repeat (with_reducible refine AR.step (fun K1 K2 hK1 hK2 => ?_); simp [hgo]; (first | refine hK1.out _ _ ?_ | refine hK2.out _ ?_ | refine ⟨by kernel_rfl, hK2.out _ ?_⟩); clear hK1 hK2 K1 K2; simp [hgo]); (try with_reducible refine AR.nil ?_)
      refine AR.step (fun K1 K2 hK1 hK2 => ?_)
      simp [hgo]
      refine ⟨k, PD x, rfl, by simp [hgo, hx], ?_⟩
      refine hK1.out _ _ ?_
      clear hK1 hK2 K1 K2
      (try simp [hgo])
      (try simp only [List.toList_toArray, toList_lit]); repeat (with_reducible refine AR.step (fun K1 K2 hK1 hK2 => ?_); simp [hgo]; (first | refine hK1.out _ _ ?_ | refine hK2.out _ ?_ | refine ⟨by kernel_rfl, hK2.out _ ?_⟩); clear hK1 hK2 K1 K2; simp [hgo]); (try with_reducible refine AR.nil ?_)
      refine ⟨chk_text _ _, hK.out _ ?_⟩
      clear hK K
      repeat (first | with_reducible refine AW.seq ?_ | with_reducible refine AW.block ?_ | with_reducible refine AW.skip ?_ | with_reducible refine AW.exit ?_ | with_reducible refine AW.ret ?_ | with_reducible refine AW.label ?_ | with_reducible refine NX.then ?_ | with_reducible refine NX.ret ?_ | with_reducible refine NX.exit ?_ | with_reducible refine NX.inRet ?_ | with_reducible refine NX.inNormal ?_ | with_reducible refine NX.inExit ?_ | with_reducible refine NX.outExit (by decide) ?_)
      by_cases h1 : x ∈ a
      · rw [decide_eq_true h1] at ch1
        by_cases h2 : x ∈ b
        · rw [decide_eq_true h2] at ch2
          rw [decide_eq_true ((m1 x).2 ⟨h1, h2⟩)] at ch3
          refine AW.re ty (by kernel_rfl) (by first | exact cx_N _ _ _ | assumption) (by first | exact cx_pz _ _ _ | assumption) 220 (by decide) (fun K hK => ?_)
          (try simp only [List.toList_toArray, toList_lit]); repeat (with_reducible refine AR.step (fun K1 K2 hK1 hK2 => ?_); simp; (first | refine hK1.out _ _ ?_ | refine hK2.out _ ?_ | refine ⟨by kernel_rfl, hK2.out _ ?_⟩); clear hK1 hK2 K1 K2; simp); (try with_reducible refine AR.nil ?_)
          refine AR.step (fun K1 K2 hK1 hK2 => ?_)
          simp
          refine orr_l ⟨by kernel_rfl, .inl ⟨_, ch1, ?_⟩⟩
          (try simp)
          refine hK1.out _ _ ?_
          clear hK1 hK2 K1 K2
          (try simp)
          (try simp only [List.toList_toArray, toList_lit]); repeat (with_reducible refine AR.step (fun K1 K2 hK1 hK2 => ?_); simp; (first | refine hK1.out _ _ ?_ | refine hK2.out _ ?_ | refine ⟨by kernel_rfl, hK2.out _ ?_⟩); clear hK1 hK2 K1 K2; simp); (try with_reducible refine AR.nil ?_)
          refine AR.step (fun K1 K2 hK1 hK2 => ?_)
          simp
          refine orr_l ⟨by kernel_rfl, .inl ⟨_, ch3, ?_⟩⟩
          (try simp)
          refine hK1.out _ _ ?_
          clear hK1 hK2 K1 K2
          (try simp)
          (try simp only [List.toList_toArray, toList_lit]); repeat (with_reducible refine AR.step (fun K1 K2 hK1 hK2 => ?_); simp; (first | refine hK1.out _ _ ?_ | refine hK2.out _ ?_ | refine ⟨by kernel_rfl, hK2.out _ ?_⟩); clear hK1 hK2 K1 K2; simp); (try with_reducible refine AR.nil ?_)
          refine AR.step (fun K1 K2 hK1 hK2 => ?_)
          simp
          refine orr_l ⟨by kernel_rfl, .inl ⟨_, ch1, ?_⟩⟩
          (try simp)
          refine hK1.out _ _ ?_
          clear hK1 hK2 K1 K2
          (try simp)
          (try simp only [List.toList_toArray, toList_lit]); repeat (with_reducible refine AR.step (fun K1 K2 hK1 hK2 => ?_); simp; (first | refine hK1.out _ _ ?_ | refine hK2.out _ ?_ | refine ⟨by kernel_rfl, hK2.out _ ?_⟩); clear hK1 hK2 K1 K2; simp); (try with_reducible refine AR.nil ?_)
          refine AR.step (fun K1 K2 hK1 hK2 => ?_)
          simp
          refine orr_l ⟨by kernel_rfl, .inl ⟨_, ch2, ?_⟩⟩
          (try simp)
          refine hK1.out _ _ ?_
          clear hK1 hK2 K1 K2
          (try simp)
          (try simp only [List.toList_toArray, toList_lit]); repeat (with_reducible refine AR.step (fun K1 K2 hK1 hK2 => ?_); simp; (first | refine hK1.out _ _ ?_ | refine hK2.out _ ?_ | refine ⟨by kernel_rfl, hK2.out _ ?_⟩); clear hK1 hK2 K1 K2; simp); (try with_reducible refine AR.nil ?_)
          refine ⟨chk_drawn (by kernel_rfl) (by kernel_rfl), hK.out _ ?_⟩
          clear hK K
          repeat (first | with_reducible refine AW.seq ?_ | with_reducible refine AW.block ?_ | with_reducible refine AW.skip ?_ | with_reducible refine AW.exit ?_ | with_reducible refine AW.ret ?_ | with_reducible refine AW.label ?_ | with_reducible refine NX.then ?_ | with_reducible refine NX.ret ?_ | with_reducible refine NX.exit ?_ | with_reducible refine NX.inRet ?_ | with_reducible refine NX.inNormal ?_ | with_reducible refine NX.inExit ?_ | with_reducible refine NX.outExit (by decide) ?_)
          refine AW.cf rfl ?_
          repeat (first | with_reducible refine AW.seq ?_ | with_reducible refine AW.block ?_ | with_reducible refine AW.skip ?_ | with_reducible refine AW.exit ?_ | with_reducible refine AW.ret ?_ | with_reducible refine AW.label ?_ | with_reducible refine NX.then ?_ | with_reducible refine NX.ret ?_ | with_reducible refine NX.exit ?_ | with_reducible refine NX.inRet ?_ | with_reducible refine NX.inNormal ?_ | with_reducible refine NX.inExit ?_ | with_reducible refine NX.outExit (by decide) ?_)
          refine AW.re ty (by kernel_rfl) (by first | exact cx_N _ _ _ | assumption) (by first | exact cx_pz _ _ _ | assumption) 250 (by decide) (fun K hK => ?_)
          (try simp only [List.toList_toArray, toList_lit]); repeat (with_reducible refine AR.step (fun K1 K2 hK1 hK2 => ?_); simp [w5]; (first | refine hK1.out _ _ ?_ | refine hK2.out _ ?_ | refine ⟨by kernel_rfl, hK2.out _ ?_⟩); clear hK1 hK2 K1 K2; simp [w5]); (try with_reducible refine AR.nil ?_)
          refine ⟨chk_text _ _, hK.out _ ?_⟩
          clear hK K
          repeat (first | with_reducible refine AW.seq ?_ | with_reducible refine AW.block ?_ | with_reducible refine AW.skip ?_ | with_reducible refine AW.exit ?_ | with_reducible refine AW.ret ?_ | with_reducible refine AW.label ?_ | with_reducible refine NX.then ?_ | with_reducible refine NX.ret ?_ | with_reducible refine NX.exit ?_ | with_reducible refine NX.inRet ?_ | with_reducible refine NX.inNormal ?_ | with_reducible refine NX.inExit ?_ | with_reducible refine NX.outExit (by decide) ?_)
          exact NX.round ⟨k + 1, hgo⟩ (by show u.length - (k + 1) < u.length - k; omega) (fun _ _ h => AS.fold (fold_of (V := vw [] [] [] []) (by first | exact cx_pz _ _ _ | assumption) (by kernel_rfl) (by rfl) (by simp [paS, foks_nil, foks_cons, fok_tmp, fok_vt, fok_cell, fok_nm, fok_zn, fok_hd, fok_df, Fv_c, Fv_seg, Fv_tup, Fv_agg, Fv_ptr, Fv_ptrs, Fv_fn, Fv_fnd, Fv_own, Fv_ownd, Fv_nown, Fv_vown, FvL_nil, FvL_cons, kvp_av, hdp_some, subz, frz, Uz, Nm, Uh, vw_nb, vw_zo, vw_zf, vw_hb, tb_nil, tb_cons, fzc_nil, fzc_cons, fzcaps_nil, fzcaps_cons])) h)
        · rw [decide_eq_false h2] at ch2
          rw [decide_eq_false (fun h => h2 ((m1 x).1 h).2)] at ch3
          refine AW.re ty (by kernel_rfl) (by first | exact cx_N _ _ _ | assumption) (by first | exact cx_pz _ _ _ | assumption) 220 (by decide) (fun K hK => ?_)
          (try simp only [List.toList_toArray, toList_lit]); repeat (with_reducible refine AR.step (fun K1 K2 hK1 hK2 => ?_); simp [w5]; (first | refine hK1.out _ _ ?_ | refine hK2.out _ ?_ | refine ⟨by kernel_rfl, hK2.out _ ?_⟩); clear hK1 hK2 K1 K2; simp [w5]); (try with_reducible refine AR.nil ?_)
          refine AR.step (fun K1 K2 hK1 hK2 => ?_)
          simp [w5]
          refine orr_l ⟨by kernel_rfl, .inl ⟨_, ch1, ?_⟩⟩
          (try simp [w5])
          refine hK1.out _ _ ?_
          clear hK1 hK2 K1 K2
          (try simp [w5])
          (try simp only [List.toList_toArray, toList_lit]); repeat (with_reducible refine AR.step (fun K1 K2 hK1 hK2 => ?_); simp [w5]; (first | refine hK1.out _ _ ?_ | refine hK2.out _ ?_ | refine ⟨by kernel_rfl, hK2.out _ ?_⟩); clear hK1 hK2 K1 K2; simp [w5]); (try with_reducible refine AR.nil ?_)
          refine AR.step (fun K1 K2 hK1 hK2 => ?_)
          simp [w5]
          refine orr_l ⟨by kernel_rfl, .inl ⟨_, ch3, ?_⟩⟩
          (try simp [w5])
          refine hK1.out _ _ ?_
          clear hK1 hK2 K1 K2
          (try simp [w5])
          (try simp only [List.toList_toArray, toList_lit]); repeat (with_reducible refine AR.step (fun K1 K2 hK1 hK2 => ?_); simp [w5]; (first | refine hK1.out _ _ ?_ | refine hK2.out _ ?_ | refine ⟨by kernel_rfl, hK2.out _ ?_⟩); clear hK1 hK2 K1 K2; simp [w5]); (try with_reducible refine AR.nil ?_)
          refine AR.step (fun K1 K2 hK1 hK2 => ?_)
          simp [w5]
          refine orr_l ⟨by kernel_rfl, .inl ⟨_, ch1, ?_⟩⟩
          (try simp [w5])
          refine hK1.out _ _ ?_
          clear hK1 hK2 K1 K2
          (try simp [w5])
          (try simp only [List.toList_toArray, toList_lit]); repeat (with_reducible refine AR.step (fun K1 K2 hK1 hK2 => ?_); simp [w5]; (first | refine hK1.out _ _ ?_ | refine hK2.out _ ?_ | refine ⟨by kernel_rfl, hK2.out _ ?_⟩); clear hK1 hK2 K1 K2; simp [w5]); (try with_reducible refine AR.nil ?_)
          refine AR.step (fun K1 K2 hK1 hK2 => ?_)
          simp [w5]
          refine orr_l ⟨by kernel_rfl, .inl ⟨_, ch2, ?_⟩⟩
          (try simp [w5])
          refine hK1.out _ _ ?_
          clear hK1 hK2 K1 K2
          (try simp [w5])
          (try simp only [List.toList_toArray, toList_lit]); repeat (with_reducible refine AR.step (fun K1 K2 hK1 hK2 => ?_); simp [w5]; (first | refine hK1.out _ _ ?_ | refine hK2.out _ ?_ | refine ⟨by kernel_rfl, hK2.out _ ?_⟩); clear hK1 hK2 K1 K2; simp [w5]); (try with_reducible refine AR.nil ?_)
          refine ⟨chk_drawn (by kernel_rfl) (by kernel_rfl), hK.out _ ?_⟩
          clear hK K
          repeat (first | with_reducible refine AW.seq ?_ | with_reducible refine AW.block ?_ | with_reducible refine AW.skip ?_ | with_reducible refine AW.exit ?_ | with_reducible refine AW.ret ?_ | with_reducible refine AW.label ?_ | with_reducible refine NX.then ?_ | with_reducible refine NX.ret ?_ | with_reducible refine NX.exit ?_ | with_reducible refine NX.inRet ?_ | with_reducible refine NX.inNormal ?_ | with_reducible refine NX.inExit ?_ | with_reducible refine NX.outExit (by decide) ?_)
          refine AW.cf rfl ?_
          repeat (first | with_reducible refine AW.seq ?_ | with_reducible refine AW.block ?_ | with_reducible refine AW.skip ?_ | with_reducible refine AW.exit ?_ | with_reducible refine AW.ret ?_ | with_reducible refine AW.label ?_ | with_reducible refine NX.then ?_ | with_reducible refine NX.ret ?_ | with_reducible refine NX.exit ?_ | with_reducible refine NX.inRet ?_ | with_reducible refine NX.inNormal ?_ | with_reducible refine NX.inExit ?_ | with_reducible refine NX.outExit (by decide) ?_)
          refine AW.re ty (by kernel_rfl) (by first | exact cx_N _ _ _ | assumption) (by first | exact cx_pz _ _ _ | assumption) 250 (by decide) (fun K hK => ?_)
          (try simp only [List.toList_toArray, toList_lit]); repeat (with_reducible refine AR.step (fun K1 K2 hK1 hK2 => ?_); simp [w5]; (first | refine hK1.out _ _ ?_ | refine hK2.out _ ?_ | refine ⟨by kernel_rfl, hK2.out _ ?_⟩); clear hK1 hK2 K1 K2; simp [w5]); (try with_reducible refine AR.nil ?_)
          refine ⟨chk_text _ _, hK.out _ ?_⟩
          clear hK K
          repeat (first | with_reducible refine AW.seq ?_ | with_reducible refine AW.block ?_ | with_reducible refine AW.skip ?_ | with_reducible refine AW.exit ?_ | with_reducible refine AW.ret ?_ | with_reducible refine AW.label ?_ | with_reducible refine NX.then ?_ | with_reducible refine NX.ret ?_ | with_reducible refine NX.exit ?_ | with_reducible refine NX.inRet ?_ | with_reducible refine NX.inNormal ?_ | with_reducible refine NX.inExit ?_ | with_reducible refine NX.outExit (by decide) ?_)
          exact NX.round ⟨k + 1, hgo⟩ (by show u.length - (k + 1) < u.length - k; omega) (fun _ _ h => AS.fold (fold_of (V := vw [] [] [] []) (by first | exact cx_pz _ _ _ | assumption) (by kernel_rfl) (by rfl) (by simp [paS, foks_nil, foks_cons, fok_tmp, fok_vt, fok_cell, fok_nm, fok_zn, fok_hd, fok_df, Fv_c, Fv_seg, Fv_tup, Fv_agg, Fv_ptr, Fv_ptrs, Fv_fn, Fv_fnd, Fv_own, Fv_ownd, Fv_nown, Fv_vown, FvL_nil, FvL_cons, kvp_av, hdp_some, subz, frz, Uz, Nm, Uh, vw_nb, vw_zo, vw_zf, vw_hb, tb_nil, tb_cons, fzc_nil, fzc_cons, fzcaps_nil, fzcaps_cons])) h)
      · have h2 : x ∈ b := hin.resolve_left h1
        rw [decide_eq_false h1] at ch1
        rw [decide_eq_true h2] at ch2
        rw [decide_eq_false (fun h => h1 ((m1 x).1 h).1)] at ch3
        refine AW.re ty (by kernel_rfl) (by first | exact cx_N _ _ _ | assumption) (by first | exact cx_pz _ _ _ | assumption) 220 (by decide) (fun K hK => ?_)
        (try simp only [List.toList_toArray, toList_lit]); repeat (with_reducible refine AR.step (fun K1 K2 hK1 hK2 => ?_); simp [w5]; (first | refine hK1.out _ _ ?_ | refine hK2.out _ ?_ | refine ⟨by kernel_rfl, hK2.out _ ?_⟩); clear hK1 hK2 K1 K2; simp [w5]); (try with_reducible refine AR.nil ?_)
        refine AR.step (fun K1 K2 hK1 hK2 => ?_)
        simp [w5]
        refine orr_l ⟨by kernel_rfl, .inl ⟨_, ch1, ?_⟩⟩
        (try simp [w5])
        refine hK1.out _ _ ?_
        clear hK1 hK2 K1 K2
        (try simp [w5])
        (try simp only [List.toList_toArray, toList_lit]); repeat (with_reducible refine AR.step (fun K1 K2 hK1 hK2 => ?_); simp [w5]; (first | refine hK1.out _ _ ?_ | refine hK2.out _ ?_ | refine ⟨by kernel_rfl, hK2.out _ ?_⟩); clear hK1 hK2 K1 K2; simp [w5]); (try with_reducible refine AR.nil ?_)
        refine AR.step (fun K1 K2 hK1 hK2 => ?_)
        simp [w5]
        refine orr_l ⟨by kernel_rfl, .inl ⟨_, ch2, ?_⟩⟩
        (try simp [w5])
        refine hK1.out _ _ ?_
        clear hK1 hK2 K1 K2
        (try simp [w5])
        (try simp only [List.toList_toArray, toList_lit]); repeat (with_reducible refine AR.step (fun K1 K2 hK1 hK2 => ?_); simp [w5]; (first | refine hK1.out _ _ ?_ | refine hK2.out _ ?_ | refine ⟨by kernel_rfl, hK2.out _ ?_⟩); clear hK1 hK2 K1 K2; simp [w5]); (try with_reducible refine AR.nil ?_)
        refine AR.step (fun K1 K2 hK1 hK2 => ?_)
        simp [w5]
        refine orr_l ⟨by kernel_rfl, .inl ⟨_, ch3, ?_⟩⟩
        (try simp [w5])
        refine hK1.out _ _ ?_
        clear hK1 hK2 K1 K2
        (try simp [w5])
        (try simp only [List.toList_toArray, toList_lit]); repeat (with_reducible refine AR.step (fun K1 K2 hK1 hK2 => ?_); simp [w5]; (first | refine hK1.out _ _ ?_ | refine hK2.out _ ?_ | refine ⟨by kernel_rfl, hK2.out _ ?_⟩); clear hK1 hK2 K1 K2; simp [w5]); (try with_reducible refine AR.nil ?_)
        refine AR.step (fun K1 K2 hK1 hK2 => ?_)
        simp [w5]
        refine orr_l ⟨by kernel_rfl, .inl ⟨_, ch1, ?_⟩⟩
        (try simp [w5])
        refine hK1.out _ _ ?_
        clear hK1 hK2 K1 K2
        (try simp [w5])
        (try simp only [List.toList_toArray, toList_lit]); repeat (with_reducible refine AR.step (fun K1 K2 hK1 hK2 => ?_); simp [w5]; (first | refine hK1.out _ _ ?_ | refine hK2.out _ ?_ | refine ⟨by kernel_rfl, hK2.out _ ?_⟩); clear hK1 hK2 K1 K2; simp [w5]); (try with_reducible refine AR.nil ?_)
        refine ⟨chk_drawn (by kernel_rfl) (by kernel_rfl), hK.out _ ?_⟩
        clear hK K
        repeat (first | with_reducible refine AW.seq ?_ | with_reducible refine AW.block ?_ | with_reducible refine AW.skip ?_ | with_reducible refine AW.exit ?_ | with_reducible refine AW.ret ?_ | with_reducible refine AW.label ?_ | with_reducible refine NX.then ?_ | with_reducible refine NX.ret ?_ | with_reducible refine NX.exit ?_ | with_reducible refine NX.inRet ?_ | with_reducible refine NX.inNormal ?_ | with_reducible refine NX.inExit ?_ | with_reducible refine NX.outExit (by decide) ?_)
        refine AW.cf rfl ?_
        repeat (first | with_reducible refine AW.seq ?_ | with_reducible refine AW.block ?_ | with_reducible refine AW.skip ?_ | with_reducible refine AW.exit ?_ | with_reducible refine AW.ret ?_ | with_reducible refine AW.label ?_ | with_reducible refine NX.then ?_ | with_reducible refine NX.ret ?_ | with_reducible refine NX.exit ?_ | with_reducible refine NX.inRet ?_ | with_reducible refine NX.inNormal ?_ | with_reducible refine NX.inExit ?_ | with_reducible refine NX.outExit (by decide) ?_)
        refine AW.re ty (by kernel_rfl) (by first | exact cx_N _ _ _ | assumption) (by first | exact cx_pz _ _ _ | assumption) 250 (by decide) (fun K hK => ?_)
        (try simp only [List.toList_toArray, toList_lit]); repeat (with_reducible refine AR.step (fun K1 K2 hK1 hK2 => ?_); simp [w5]; (first | refine hK1.out _ _ ?_ | refine hK2.out _ ?_ | refine ⟨by kernel_rfl, hK2.out _ ?_⟩); clear hK1 hK2 K1 K2; simp [w5]); (try with_reducible refine AR.nil ?_)
        refine ⟨chk_text _ _, hK.out _ ?_⟩
        clear hK K
        repeat (first | with_reducible refine AW.seq ?_ | with_reducible refine AW.block ?_ | with_reducible refine AW.skip ?_ | with_reducible refine AW.exit ?_ | with_reducible refine AW.ret ?_ | with_reducible refine AW.label ?_ | with_reducible refine NX.then ?_ | with_reducible refine NX.ret ?_ | with_reducible refine NX.exit ?_ | with_reducible refine NX.inRet ?_ | with_reducible refine NX.inNormal ?_ | with_reducible refine NX.inExit ?_ | with_reducible refine NX.outExit (by decide) ?_)
        exact NX.round ⟨k + 1, hgo⟩ (by show u.length - (k + 1) < u.length - k; omega) (fun _ _ h => AS.fold (fold_of (V := vw [] [] [] []) (by first | exact cx_pz _ _ _ | assumption) (by kernel_rfl) (by rfl) (by simp [paS, foks_nil, foks_cons, fok_tmp, fok_vt, fok_cell, fok_nm, fok_zn, fok_hd, fok_df, Fv_c, Fv_seg, Fv_tup, Fv_agg, Fv_ptr, Fv_ptrs, Fv_fn, Fv_fnd, Fv_own, Fv_ownd, Fv_nown, Fv_vown, FvL_nil, FvL_cons, kvp_av, hdp_some, subz, frz, Uz, Nm, Uh, vw_nb, vw_zo, vw_zf, vw_hb, tb_nil, tb_cons, fzc_nil, fzc_cons, fzcaps_nil, fzcaps_cons])) h)
    · obtain rfl : k = u.length := by omega
      refine AW.re ty (by kernel_rfl) (by first | exact cx_N _ _ _ | assumption) (by first | exact cx_pz _ _ _ | assumption) 300 (by decide) (fun K hK => ?_)
      (try simp only [List.toList_toArray, toList_lit]); repeat (with_reducible refine AR.step (fun K1 K2 hK1 hK2 => ?_); simp; (first | refine hK1.out _ _ ?_ | refine hK2.out _ ?_ | refine ⟨by kernel_rfl, hK2.out _ ?_⟩); clear hK1 hK2 K1 K2; simp); (try with_reducible refine AR.nil ?_)
      refine ⟨chk_text _ _, hK.out _ ?_⟩
      clear hK K
      repeat (first | with_reducible refine AW.seq ?_ | with_reducible refine AW.block ?_ | with_reducible refine AW.skip ?_ | with_reducible refine AW.exit ?_ | with_reducible refine AW.ret ?_ | with_reducible refine AW.label ?_ | with_reducible refine NX.then ?_ | with_reducible refine NX.ret ?_ | with_reducible refine NX.exit ?_ | with_reducible refine NX.inRet ?_ | with_reducible refine NX.inNormal ?_ | with_reducible refine NX.inExit ?_ | with_reducible refine NX.outExit (by decide) ?_)
      refine AW.cf rfl ?_
      repeat (first | with_reducible refine AW.seq ?_ | with_reducible refine AW.block ?_ | with_reducible refine AW.skip ?_ | with_reducible refine AW.exit ?_ | with_reducible refine AW.ret ?_ | with_reducible refine AW.label ?_ | with_reducible refine NX.then ?_ | with_reducible refine NX.ret ?_ | with_reducible refine NX.exit ?_ | with_reducible refine NX.inRet ?_ | with_reducible refine NX.inNormal ?_ | with_reducible refine NX.inExit ?_ | with_reducible refine NX.outExit (by decide) ?_)
      have w6 : IntKind.i64.wrap ((a.length : Int) + (b.length : Int)) = ((a.length + b.length : Nat) : Int) := by rw [i64_ok _ (by omega) (by omega)]; omega
      have w7 : IntKind.i64.wrap (((a.length + b.length : Nat) : Int) - (me.length : Int)) = (u.length : Int) := by rw [i64_ok _ (by omega) (by omega)]; omega
      refine AW.re ty (by kernel_rfl) (by first | exact cx_N _ _ _ | assumption) (by first | exact cx_pz _ _ _ | assumption) 310 (by decide) (fun K hK => ?_)
      (try simp only [List.toList_toArray, toList_lit]); repeat (with_reducible refine AR.step (fun K1 K2 hK1 hK2 => ?_); simp [w6, w7, -Int.natCast_add]; (first | refine hK1.out _ _ ?_ | refine hK2.out _ ?_ | refine ⟨by kernel_rfl, hK2.out _ ?_⟩); clear hK1 hK2 K1 K2; simp [w6, w7, -Int.natCast_add]); (try with_reducible refine AR.nil ?_)
      refine ⟨chk_text _ _, hK.out _ ?_⟩
      clear hK K
      repeat (first | with_reducible refine AW.seq ?_ | with_reducible refine AW.block ?_ | with_reducible refine AW.skip ?_ | with_reducible refine AW.exit ?_ | with_reducible refine AW.ret ?_ | with_reducible refine AW.label ?_ | with_reducible refine NX.then ?_ | with_reducible refine NX.ret ?_ | with_reducible refine NX.exit ?_ | with_reducible refine NX.inRet ?_ | with_reducible refine NX.inNormal ?_ | with_reducible refine NX.inExit ?_ | with_reducible refine NX.outExit (by decide) ?_)
      refine nx_ret (T := ty) (rs := [.tmp 4]) (zs := []) (ds := [dB true]) (rr := []) (.inr rfl) rfl (by kernel_rfl) (by kernel_rfl) (by simp) rfl
end Go.Proofs.Ytlkdkhmdmgchbaa
