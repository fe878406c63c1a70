/- The second logic: the document's turn, seconds, firsts; Has at whatever row. -/
import Derived.Test.YtlkdkhmdmgchbaaJX
namespace Go.Proofs.Ytlkdkhmdmgchbaa
set_option linter.unusedSimpArgs false
set_option linter.unusedVariables false
open Go.RowKit
attribute [local simp ↓] arun_nil ob_some kva_av kfree_free khfree_free khown_own klive_live knm_false chk_true ya_true gsel_tt gsel_ff gsel_tf gsel_ft vb_bool vi_int vstr_string avps_ptr avps_seg avp_ptr avagg_agg avtup_tup avb_bool avown_own shs_struct shsa_struct shsa_arr sharr_arr shl_slice shla_slice shla_arr shls_slice shls_str shi_int bc_true bc_false hd1_cons opc_some opc_none opn_some opn_none unc_not unc_neg gd_none gd_some as_move as_assign as_pick as_bin as_un as_conv as_load as_faddr as_field as_extract as_iaddr as_slice as_alloc as_box as_store as_build as_rows as_call as_append as_lookup as_mapUpdate as_makeMap as_range as_next as_entry as_index as_fn as_len as_min as_max stMove stPick stBin stUn stConv stLoad stFaddr stField stExtract stIaddr stSlice stAlloc stBox stStore stBuild stIndex stRows stCall stAppend stFn stLen stMin stMax opd_tmp opd_const opd_func rawL_nil rawL_cons raw_c raw_st raw_a opr_e zr_nil zr_cons lvd_live hod_own obd_some obd_none kvd_av chd_true vid_int lk_cons lk_nil ins_nil ins_cons cells_zero cells_succ spread1_c spread1_own spread1_ptr spread1_fn spread1_seg spreadL_nil spreadL_cons spread_agg spread_c spread_own spread_seg spread_ptr spread_fn ex_zero ex_succ ops_e opb_none opb_int spreadD_agg spreadD_c spreadD_own spreadD_seg fillO_nil fillO_cons argsOf_nil argsOf_cons dvOf_c dvOf_seg dvOf_own dvOf_agg zrL_nil zrL_cons hdd_c hdd_seg hdd_own clz_e clv_raw clv_f callD_e dst0_n dst0_nil dst0_own goneH_e capc_ptr capc_seg capc_c capN_nil capN_cons capD_nil capD_cons deadZ_nil deadZ_cons
attribute [local simp] dok_some dok_none dflt_tmp dflt_vt dflt_cell dflt_zn dflt_nm dflt_hd dflt_df puts_nil puts_cons wr_some wr_none cst_agg cst_int cst_bool cst_string cst_slice cst_tuple cst_nilFunc cst_pointer cst_func bin_add bin_sub bin_mul bin_quo bin_rem bin_eql bin_neq bin_lss bin_leq bin_gtr bin_geq bin_bool bin_aggs binT_bool binT_aggs shbd_bool eqb_eql eqb_neq bin_slice bin_str_eql bin_str_neq bin_str_lss bin_str_add nz_v nz_n nz_s nz_p nz_f nz_st atz_v atz_n atz_s atz_p atz_f atz_st atz_agg atR_one atR_tup crow_nil crow_cons slc_c slc_n slc_own slc_nil raws setR placesT_nil placesT_cons zc chunk zsAll ocD_v ocD_n ocD_s ocD_p ocD_f ocD_st nrm_v nrm_n nrm_s nrm_p nrm_f nrm_st isV_one isV_tup isV_c isV_agg isV_v isV_n isV_s isV_p isV_f isV_st argRows Sh.agg zds_nil zds_e zds_v zds_s vcells_agg vcells_int vcells_bool vcells_string vcells_slice vcells_pointer toList_lit map_nilL map_consL nzr_e rowsOc_nil rowsOc_cons rowsOc_RD nzr_RD ty2 ty3 ty4 ty5 ty6 ty7 ty8 ty9 ty10 ty11 ty12 ty13 ty14 ty15 ty16 ty17 ty18 ty19 ty20 ty21 ty22 ty23 ty24 ty25 ty26 ty27 ty30 ty40 ty48 ty50 ty51 ty52 ty55 ty57 ty62 ty63 ty85 ty94 ty101 ty121 ty122 ty123 ty124 ty125 ty126 ty128 ty148 ty149 ty151 ty164 ty165 ty179 ty182 ty196 ty203 ty205 ty209 ty211 ty215 ty216 ty217 ty218 ty219 ty220 ty221 ty223 ty224 ty225 ty226 ty227 Value.oneCell'
set_option maxRecDepth 100000
/-- where the search ends. -/
def bsF (l : List Pr) (p : Pr) : Nat → Nat → Nat → Nat
  | 0, lo, _ => lo
  | f + 1, lo, hi => if lo < hi then (if lt (l.getD ((lo + hi) / 2) (0, 0)) p then bsF l p f ((lo + hi) / 2 + 1) hi else bsF l p f lo ((lo + hi) / 2)) else lo
theorem bsF_more (l : List Pr) (p : Pr) : ∀ (f g lo hi : Nat), hi - lo ≤ f → hi - lo ≤ g → bsF l p f lo hi = bsF l p g lo hi
  | 0, 0, lo, hi, _, _ => rfl
  | 0, g + 1, lo, hi, h, _ => by simp only [bsF]; rw [if_neg (by omega)]
  | f + 1, 0, lo, hi, _, h => by simp only [bsF]; rw [if_neg (by omega)]
  | f + 1, g + 1, lo, hi, h1, h2 => by
    simp only [bsF]
    by_cases h : lo < hi
    · rw [if_pos h, if_pos h]
      rw [bsF_more l p f g ((lo + hi) / 2 + 1) hi (by omega) (by omega), bsF_more l p f g lo ((lo + hi) / 2) (by omega) (by omega)]
    · rw [if_neg h, if_neg h]
theorem bsF_le (l : List Pr) (p : Pr) : ∀ (f lo hi : Nat), lo ≤ hi → bsF l p f lo hi ≤ hi
  | 0, lo, hi, h => h
  | f + 1, lo, hi, h => by
    simp only [bsF]
    by_cases h1 : lo < hi
    · rw [if_pos h1]
      split
      · exact bsF_le l p f _ hi (by omega)
      · exact Nat.le_trans (bsF_le l p f lo _ (by omega)) (by omega)
    · rw [if_neg h1]; exact h
theorem shr_one {x y : Operand} {u : Nat} (hu : u < 2 ^ 64) (w : World) : (do eqGuard .shr 48 x y (.int .u64 u) (.int .u64 1); binOp .shr 48 (.int .u64 u) (.int .u64 1) : Sem Value).run Try.prog w = .ok (.int .u64 ((u / 2 : Nat) : Int)) w := by
  have h1 : ∀ W, (eqGuard .shr 48 x y (.int .u64 u) (.int .u64 1)).run Try.prog W = .ok () W := fun W => by simp [eqGuard, go_sem]
  have h2 : ∀ W, (binOp .shr 48 (.int .u64 u) (.int .u64 1)).run Try.prog W = .ok (.int .u64 ((u / 2 : Nat) : Int)) W := fun W => by
    simp [binOp, Op.shift, go_sem]
    exact Int.fdiv_eq_ediv_of_nonneg _ (by omega)
  simp [h1, h2]
theorem sba_shr {x y : Operand} {u h : Nat} (hu : u < 2 ^ 64) (hh : h = u / 2) {k : Value → Prop} (hk : k (.int .u64 (h : Int))) : stBinAny Try.prog .shr 48 x y (.int .u64 (u : Int)) (.int .u64 1) k := ⟨_, fun w => by rw [hh]; exact shr_one hu w, hk⟩
def bsS (l : List Pr) (p : Pr) (i j : Nat) : Row := [(.zn 0, .zn .live), (.nm 1, .nm true), (.cell 1 0, .av (.c [] (.v (.int .u64 p.1)))), (.cell 1 1, .av (.c [] (.v (.int .u64 p.2)))), (.tmp 4, .av (.ptr 1 0)), (.tmp 0, .av (.c [0] (RD l))), (.tmp 2, .av (.c [] (.v (.func (.func 56) #[] #[])))),
  (.tmp 8, .av (.c [] (.v (.int .i64 l.length)))), (.tmp 9, .av (.c [] (.v (.int .i64 i)))), (.tmp 10, .av (.c [] (.v (.int .i64 j))))]
set_option maxHeartbeats 8000000 in
theorem searchx_ct (l : List Pr) (p : Pr) (hn : l.length ≤ 100000000) : Ct Try.prog 152 [.c (RD l), PV p, .c (.v (.func (.func 56) #[] #[]))] none
    (.tup [dI (bsF l p l.length 0 l.length : Nat), dB (decide (l[bsF l p l.length 0 l.length]? = some p))]) := by
  obtain ⟨R, hR⟩ : ∃ R, bsF l p l.length 0 l.length = R := ⟨_, rfl⟩
  rw [hR]
  refine ct_intro Try.func152 rfl Try.ntmps152 (by simp) (fun W0 Z => ?_)
  with_reducible (repeat (first | refine AW.seq ?_ | refine AW.block ?_ | refine AW.skip ?_ | refine AW.exit ?_ | refine AW.ret ?_ | refine AW.label ?_ | refine NX.then ?_ | refine NX.ret ?_ | refine NX.exit ?_ | refine NX.inRet ?_ | refine NX.inNormal ?_ | refine NX.inExit ?_ | refine NX.outExit (by decide) ?_))
  refine AW.at_ (fun L hL => ?_)
  simp at hL
  subst hL
  refine AW.re ty (by kernel_rfl) (by first | exact cx_N _ _ _ | assumption) (by first | exact cx_pz _ _ _ | assumption) 1 (by decide) (fun K hK => ?_)
  (try simp only [List.toList_toArray, toList_lit]); repeat (with_reducible refine AR.step (fun K1 K2 hK1 hK2 => ?_); simp; (first | refine hK1.out _ _ ?_ | refine hK2.out _ ?_ | refine ⟨by kernel_rfl, hK2.out _ ?_⟩); clear hK1 hK2 K1 K2; simp); (try with_reducible refine AR.nil ?_)
  refine ⟨chk_text _ _, hK.out _ ?_⟩
  clear hK K
  with_reducible (repeat (first | refine AW.seq ?_ | refine AW.block ?_ | refine AW.skip ?_ | refine AW.exit ?_ | refine AW.ret ?_ | refine AW.label ?_ | refine NX.then ?_ | refine NX.ret ?_ | refine NX.exit ?_ | refine NX.inRet ?_ | refine NX.inNormal ?_ | refine NX.inExit ?_ | refine NX.outExit (by decide) ?_))
  refine AW.re ty (by kernel_rfl) (by first | exact cx_N _ _ _ | assumption) (by first | exact cx_pz _ _ _ | assumption) 10 (by decide) (fun K hK => ?_)
  (try simp only [List.toList_toArray, toList_lit]); repeat (with_reducible refine AR.step (fun K1 K2 hK1 hK2 => ?_); simp; (first | refine hK1.out _ _ ?_ | refine hK2.out _ ?_ | refine ⟨by kernel_rfl, hK2.out _ ?_⟩); clear hK1 hK2 K1 K2; simp); (try with_reducible refine AR.nil ?_)
  refine ⟨chk_text _ _, hK.out _ ?_⟩
  clear hK K
  with_reducible (repeat (first | refine AW.seq ?_ | refine AW.block ?_ | refine AW.skip ?_ | refine AW.exit ?_ | refine AW.ret ?_ | refine AW.label ?_ | refine NX.then ?_ | refine NX.ret ?_ | refine NX.exit ?_ | refine NX.inRet ?_ | refine NX.inNormal ?_ | refine NX.inExit ?_ | refine NX.outExit (by decide) ?_))
  refine AW.re ty (by kernel_rfl) (by first | exact cx_N _ _ _ | assumption) (by first | exact cx_pz _ _ _ | assumption) 20 (by decide) (fun K hK => ?_)
  (try simp only [List.toList_toArray, toList_lit]); repeat (with_reducible refine AR.step (fun K1 K2 hK1 hK2 => ?_); simp; (first | refine hK1.out _ _ ?_ | refine hK2.out _ ?_ | refine ⟨by kernel_rfl, hK2.out _ ?_⟩); clear hK1 hK2 K1 K2; simp); (try with_reducible refine AR.nil ?_)
  refine ⟨chk_text _ _, hK.out _ ?_⟩
  clear hK K
  with_reducible (repeat (first | refine AW.seq ?_ | refine AW.block ?_ | refine AW.skip ?_ | refine AW.exit ?_ | refine AW.ret ?_ | refine AW.label ?_ | refine NX.then ?_ | refine NX.ret ?_ | refine NX.exit ?_ | refine NX.inRet ?_ | refine NX.inNormal ?_ | refine NX.inExit ?_ | refine NX.outExit (by decide) ?_))
  refine AW.loop (X := { q : Nat × Nat // q.1 ≤ q.2 ∧ q.2 ≤ l.length ∧ bsF l p (q.2 - q.1) q.1 q.2 = R }) (fun x => bsS l p x.1.1 x.1.2) (fun x => x.1.2 - x.1.1) ⟨(0, l.length), by simp, by simp, by simpa using hR⟩ (fun _ _ h => AS.fold (fold_of (V := vw [] [] [] []) (by first | exact cx_pz _ _ _ | assumption) (by kernel_rfl) (by rfl) (by simp [bsS, foks_nil, foks_cons, fok_tmp, fok_vt, fok_cell, fok_nm, fok_zn, fok_hd, fok_df, Fv_c, Fv_seg, Fv_tup, Fv_agg, Fv_ptr, Fv_ptrs, Fv_fn, Fv_fnd, Fv_own, Fv_ownd, Fv_nown, Fv_vown, FvL_nil, FvL_cons, kvp_av, hdp_some, subz, frz, Uz, Nm, Uh, vw_nb, vw_zo, vw_zf, vw_hb, tb_nil, tb_cons, fzc_nil, fzc_cons, fzcaps_nil, fzcaps_cons])) h) (fun x => ?_)
  obtain ⟨⟨i, j⟩, hij, hj, hbs⟩ := x
  simp only at hij hj hbs
  refine AW.at_ (fun L hL => ?_)
  simp [bsS] at hL
  subst hL
  with_reducible (repeat (first | refine AW.seq ?_ | refine AW.block ?_ | refine AW.skip ?_ | refine AW.exit ?_ | refine AW.ret ?_ | refine AW.label ?_ | refine NX.then ?_ | refine NX.ret ?_ | refine NX.exit ?_ | refine NX.inRet ?_ | refine NX.inNormal ?_ | refine NX.inExit ?_ | refine NX.outExit (by decide) ?_))
  by_cases hgo : i < j
  · obtain ⟨h, hh⟩ : ∃ h, h = (i + j) / 2 := ⟨_, rfl⟩
    have hhl : h < l.length := by omega
    have w1 : IntKind.i64.wrap ((i : Int) + (j : Int)) = ((i + j : Nat) : Int) := by rw [i64_ok _ (by omega) (by omega)]; omega
    have w2 : IntKind.u64.wrap ((i + j : Nat) : Int) = ((i + j : Nat) : Int) := by unfold IntKind.wrap; simp [IntKind.bits, IntKind.signed]; omega
    have w3 : IntKind.i64.wrap ((h : Nat) : Int) = (h : Int) := by rw [i64_ok _ (by omega) (by omega)]
    have w4 : IntKind.i64.wrap ((h : Int) + 1) = ((h + 1 : Nat) : Int) := by rw [i64_ok _ (by omega) (by omega)]; omega
    have hgi : (i : Int) < (j : Int) := by omega
    obtain ⟨x, hx⟩ : ∃ x, l[h] = x := ⟨_, rfl⟩
    have hgd : l.getD h (0, 0) = x := by simp [hhl, hx]
    have c1 := compare_ct x p
    have p1 := pcmp_lt x p
    have step : bsF l p (j - i) i j = if lt x p then bsF l p (j - (h + 1)) (h + 1) j else bsF l p (h - i) i h := by
      obtain ⟨f, hf⟩ : ∃ f, j - i = f + 1 := ⟨j - i - 1, by omega⟩
      rw [hf]
      simp only [bsF]
      rw [if_pos hgo, ← hh, hgd]
      split
      · exact bsF_more l p _ _ _ _ (by omega) (by omega)
      · exact bsF_more l p _ _ _ _ (by omega) (by omega)
    generalize hs : i + j = s at *
    refine AW.re ty (by kernel_rfl) (by first | exact cx_N _ _ _ | assumption) (by first | exact cx_pz _ _ _ | assumption) 200 (by decide) (fun K hK => ?_)
    (try simp only [List.toList_toArray, toList_lit]); repeat (with_reducible refine AR.step (fun K1 K2 hK1 hK2 => ?_); simp [hgi]; (first | refine hK1.out _ _ ?_ | refine hK2.out _ ?_ | refine ⟨by kernel_rfl, hK2.out _ ?_⟩); clear hK1 hK2 K1 K2; simp [hgi]); (try with_reducible refine AR.nil ?_)
    refine ⟨chk_text _ _, hK.out _ ?_⟩
    clear hK K
    with_reducible (repeat (first | refine AW.seq ?_ | refine AW.block ?_ | refine AW.skip ?_ | refine AW.exit ?_ | refine AW.ret ?_ | refine AW.label ?_ | refine NX.then ?_ | refine NX.ret ?_ | refine NX.exit ?_ | refine NX.inRet ?_ | refine NX.inNormal ?_ | refine NX.inExit ?_ | refine NX.outExit (by decide) ?_))
    refine AW.ct rfl ?_
    with_reducible (repeat (first | refine AW.seq ?_ | refine AW.block ?_ | refine AW.skip ?_ | refine AW.exit ?_ | refine AW.ret ?_ | refine AW.label ?_ | refine NX.then ?_ | refine NX.ret ?_ | refine NX.exit ?_ | refine NX.inRet ?_ | refine NX.inNormal ?_ | refine NX.inExit ?_ | refine NX.outExit (by decide) ?_))
    refine AW.re ty (by kernel_rfl) (by first | exact cx_N _ _ _ | assumption) (by first | exact cx_pz _ _ _ | assumption) 210 (by decide) (fun K hK => ?_)
    (try simp only [List.toList_toArray, toList_lit]); repeat (with_reducible refine AR.step (fun K1 K2 hK1 hK2 => ?_); simp [w1, w2, w3, -Int.natCast_add]; (first | refine hK1.out _ _ ?_ | refine hK2.out _ ?_ | refine ⟨by kernel_rfl, hK2.out _ ?_⟩); clear hK1 hK2 K1 K2; simp [w1, w2, w3, -Int.natCast_add]); (try with_reducible refine AR.nil ?_)
    refine AR.step (fun K1 K2 hK1 hK2 => ?_)
    simp [w1, w2, w3, -Int.natCast_add]
    refine sba_shr (by omega) hh ?_
    refine hK1.out _ _ ?_
    clear hK1 hK2 K1 K2
    (try simp [w1, w2, w3, -Int.natCast_add])
    (try simp only [List.toList_toArray, toList_lit]); repeat (with_reducible refine AR.step (fun K1 K2 hK1 hK2 => ?_); simp [w1, w2, w3, -Int.natCast_add]; (first | refine hK1.out _ _ ?_ | refine hK2.out _ ?_ | refine ⟨by kernel_rfl, hK2.out _ ?_⟩); clear hK1 hK2 K1 K2; simp [w1, w2, w3, -Int.natCast_add]); (try with_reducible refine AR.nil ?_)
    refine ⟨chk_text _ _, hK.out _ ?_⟩
    clear hK K
    with_reducible (repeat (first | refine AW.seq ?_ | refine AW.block ?_ | refine AW.skip ?_ | refine AW.exit ?_ | refine AW.ret ?_ | refine AW.label ?_ | refine NX.then ?_ | refine NX.ret ?_ | refine NX.exit ?_ | refine NX.inRet ?_ | refine NX.inNormal ?_ | refine NX.inExit ?_ | refine NX.outExit (by decide) ?_))
    by_cases hl : lt x p
    · have hz : pcmp x p < 0 := p1.2 hl
      rw [if_pos hl] at step
      generalize pcmp x p = z at *
      refine AW.re ty (by kernel_rfl) (by first | exact cx_N _ _ _ | assumption) (by first | exact cx_pz _ _ _ | assumption) 230 (by decide) (fun K hK => ?_)
      (try simp only [List.toList_toArray, toList_lit]); repeat (with_reducible refine AR.step (fun K1 K2 hK1 hK2 => ?_); simp [hz]; (first | refine hK1.out _ _ ?_ | refine hK2.out _ ?_ | refine ⟨by kernel_rfl, hK2.out _ ?_⟩); clear hK1 hK2 K1 K2; simp [hz]); (try with_reducible refine AR.nil ?_)
      refine AR.step (fun K1 K2 hK1 hK2 => ?_)
      simp [hz]
      refine ⟨h, PD x, rfl, by simp [hhl, hx], ?_⟩
      refine hK1.out _ _ ?_
      clear hK1 hK2 K1 K2
      (try simp [hz])
      (try simp only [List.toList_toArray, toList_lit]); repeat (with_reducible refine AR.step (fun K1 K2 hK1 hK2 => ?_); simp [hz]; (first | refine hK1.out _ _ ?_ | refine hK2.out _ ?_ | refine ⟨by kernel_rfl, hK2.out _ ?_⟩); clear hK1 hK2 K1 K2; simp [hz]); (try with_reducible refine AR.nil ?_)
      refine AR.step (fun K1 K2 hK1 hK2 => ?_)
      simp [hz]
      refine orr_l ⟨by kernel_rfl, .inl ⟨_, c1, ?_⟩⟩
      (try simp [hz])
      refine hK1.out _ _ ?_
      clear hK1 hK2 K1 K2
      (try simp [hz])
      (try simp only [List.toList_toArray, toList_lit]); repeat (with_reducible refine AR.step (fun K1 K2 hK1 hK2 => ?_); simp [hz]; (first | refine hK1.out _ _ ?_ | refine hK2.out _ ?_ | refine ⟨by kernel_rfl, hK2.out _ ?_⟩); clear hK1 hK2 K1 K2; simp [hz]); (try with_reducible refine AR.nil ?_)
      refine ⟨chk_drawn (by kernel_rfl) (by kernel_rfl), hK.out _ ?_⟩
      clear hK K
      with_reducible (repeat (first | refine AW.seq ?_ | refine AW.block ?_ | refine AW.skip ?_ | refine AW.exit ?_ | refine AW.ret ?_ | refine AW.label ?_ | refine NX.then ?_ | refine NX.ret ?_ | refine NX.exit ?_ | refine NX.inRet ?_ | refine NX.inNormal ?_ | refine NX.inExit ?_ | refine NX.outExit (by decide) ?_))
      refine AW.ct rfl ?_
      with_reducible (repeat (first | refine AW.seq ?_ | refine AW.block ?_ | refine AW.skip ?_ | refine AW.exit ?_ | refine AW.ret ?_ | refine AW.label ?_ | refine NX.then ?_ | refine NX.ret ?_ | refine NX.exit ?_ | refine NX.inRet ?_ | refine NX.inNormal ?_ | refine NX.inExit ?_ | refine NX.outExit (by decide) ?_))
      refine AW.re ty (by kernel_rfl) (by first | exact cx_N _ _ _ | assumption) (by first | exact cx_pz _ _ _ | assumption) 250 (by decide) (fun K hK => ?_)
      (try simp only [List.toList_toArray, toList_lit]); repeat (with_reducible refine AR.step (fun K1 K2 hK1 hK2 => ?_); simp [w4]; (first | refine hK1.out _ _ ?_ | refine hK2.out _ ?_ | refine ⟨by kernel_rfl, hK2.out _ ?_⟩); clear hK1 hK2 K1 K2; simp [w4]); (try with_reducible refine AR.nil ?_)
      refine ⟨chk_text _ _, hK.out _ ?_⟩
      clear hK K
      with_reducible (repeat (first | refine AW.seq ?_ | refine AW.block ?_ | refine AW.skip ?_ | refine AW.exit ?_ | refine AW.ret ?_ | refine AW.label ?_ | refine NX.then ?_ | refine NX.ret ?_ | refine NX.exit ?_ | refine NX.inRet ?_ | refine NX.inNormal ?_ | refine NX.inExit ?_ | refine NX.outExit (by decide) ?_))
      exact NX.round ⟨(h + 1, j), by simp; omega, by simpa using hj, by simp only; rw [← step]; exact hbs⟩ (by show j - (h + 1) < j - i; omega) (fun _ _ h => AS.fold (fold_of (V := vw [] [] [] []) (by first | exact cx_pz _ _ _ | assumption) (by kernel_rfl) (by rfl) (by simp [bsS, foks_nil, foks_cons, fok_tmp, fok_vt, fok_cell, fok_nm, fok_zn, fok_hd, fok_df, Fv_c, Fv_seg, Fv_tup, Fv_agg, Fv_ptr, Fv_ptrs, Fv_fn, Fv_fnd, Fv_own, Fv_ownd, Fv_nown, Fv_vown, FvL_nil, FvL_cons, kvp_av, hdp_some, subz, frz, Uz, Nm, Uh, vw_nb, vw_zo, vw_zf, vw_hb, tb_nil, tb_cons, fzc_nil, fzc_cons, fzcaps_nil, fzcaps_cons])) h)
    · have hz : ¬ pcmp x p < 0 := fun q => hl (p1.1 q)
      rw [if_neg hl] at step
      generalize pcmp x p = z at *
      refine AW.re ty (by kernel_rfl) (by first | exact cx_N _ _ _ | assumption) (by first | exact cx_pz _ _ _ | assumption) 230 (by decide) (fun K hK => ?_)
      (try simp only [List.toList_toArray, toList_lit]); repeat (with_reducible refine AR.step (fun K1 K2 hK1 hK2 => ?_); simp [hz]; (first | refine hK1.out _ _ ?_ | refine hK2.out _ ?_ | refine ⟨by kernel_rfl, hK2.out _ ?_⟩); clear hK1 hK2 K1 K2; simp [hz]); (try with_reducible refine AR.nil ?_)
      refine AR.step (fun K1 K2 hK1 hK2 => ?_)
      simp [hz]
      refine ⟨h, PD x, rfl, by simp [hhl, hx], ?_⟩
      refine hK1.out _ _ ?_
      clear hK1 hK2 K1 K2
      (try simp [hz])
      (try simp only [List.toList_toArray, toList_lit]); repeat (with_reducible refine AR.step (fun K1 K2 hK1 hK2 => ?_); simp [hz]; (first | refine hK1.out _ _ ?_ | refine hK2.out _ ?_ | refine ⟨by kernel_rfl, hK2.out _ ?_⟩); clear hK1 hK2 K1 K2; simp [hz]); (try with_reducible refine AR.nil ?_)
      refine AR.step (fun K1 K2 hK1 hK2 => ?_)
      simp [hz]
      refine orr_l ⟨by kernel_rfl, .inl ⟨_, c1, ?_⟩⟩
      (try simp [hz])
      refine hK1.out _ _ ?_
      clear hK1 hK2 K1 K2
      (try simp [hz])
      (try simp only [List.toList_toArray, toList_lit]); repeat (with_reducible refine AR.step (fun K1 K2 hK1 hK2 => ?_); simp [hz]; (first | refine hK1.out _ _ ?_ | refine hK2.out _ ?_ | refine ⟨by kernel_rfl, hK2.out _ ?_⟩); clear hK1 hK2 K1 K2; simp [hz]); (try with_reducible refine AR.nil ?_)
      refine ⟨chk_drawn (by kernel_rfl) (by kernel_rfl), hK.out _ ?_⟩
      clear hK K
      with_reducible (repeat (first | refine AW.seq ?_ | refine AW.block ?_ | refine AW.skip ?_ | refine AW.exit ?_ | refine AW.ret ?_ | refine AW.label ?_ | refine NX.then ?_ | refine NX.ret ?_ | refine NX.exit ?_ | refine NX.inRet ?_ | refine NX.inNormal ?_ | refine NX.inExit ?_ | refine NX.outExit (by decide) ?_))
      refine AW.cf rfl ?_
      with_reducible (repeat (first | refine AW.seq ?_ | refine AW.block ?_ | refine AW.skip ?_ | refine AW.exit ?_ | refine AW.ret ?_ | refine AW.label ?_ | refine NX.then ?_ | refine NX.ret ?_ | refine NX.exit ?_ | refine NX.inRet ?_ | refine NX.inNormal ?_ | refine NX.inExit ?_ | refine NX.outExit (by decide) ?_))
      refine AW.re ty (by kernel_rfl) (by first | exact cx_N _ _ _ | assumption) (by first | exact cx_pz _ _ _ | assumption) 250 (by decide) (fun K hK => ?_)
      (try simp only [List.toList_toArray, toList_lit]); repeat (with_reducible refine AR.step (fun K1 K2 hK1 hK2 => ?_); simp; (first | refine hK1.out _ _ ?_ | refine hK2.out _ ?_ | refine ⟨by kernel_rfl, hK2.out _ ?_⟩); clear hK1 hK2 K1 K2; simp); (try with_reducible refine AR.nil ?_)
      refine ⟨chk_text _ _, hK.out _ ?_⟩
      clear hK K
      with_reducible (repeat (first | refine AW.seq ?_ | refine AW.block ?_ | refine AW.skip ?_ | refine AW.exit ?_ | refine AW.ret ?_ | refine AW.label ?_ | refine NX.then ?_ | refine NX.ret ?_ | refine NX.exit ?_ | refine NX.inRet ?_ | refine NX.inNormal ?_ | refine NX.inExit ?_ | refine NX.outExit (by decide) ?_))
      exact NX.round ⟨(i, h), by simp; omega, by simp; omega, by simp only; rw [← step]; exact hbs⟩ (by show h - i < j - i; omega) (fun _ _ h => AS.fold (fold_of (V := vw [] [] [] []) (by first | exact cx_pz _ _ _ | assumption) (by kernel_rfl) (by rfl) (by simp [bsS, foks_nil, foks_cons, fok_tmp, fok_vt, fok_cell, fok_nm, fok_zn, fok_hd, fok_df, Fv_c, Fv_seg, Fv_tup, Fv_agg, Fv_ptr, Fv_ptrs, Fv_fn, Fv_fnd, Fv_own, Fv_ownd, Fv_nown, Fv_vown, FvL_nil, FvL_cons, kvp_av, hdp_some, subz, frz, Uz, Nm, Uh, vw_nb, vw_zo, vw_zf, vw_hb, tb_nil, tb_cons, fzc_nil, fzc_cons, fzcaps_nil, fzcaps_cons])) h)
  · obtain rfl : i = j := by omega
    have he : R = i := by
      rw [← hbs]
      have : i - i = 0 := by omega
      rw [this]; rfl
    clear hR
    subst he
    refine AW.re ty (by kernel_rfl) (by first | exact cx_N _ _ _ | assumption) (by first | exact cx_pz _ _ _ | assumption) 300 (by decide) (fun K hK => ?_)
    (try simp only [List.toList_toArray, toList_lit]); repeat (with_reducible refine AR.step (fun K1 K2 hK1 hK2 => ?_); simp; (first | refine hK1.out _ _ ?_ | refine hK2.out _ ?_ | refine ⟨by kernel_rfl, hK2.out _ ?_⟩); clear hK1 hK2 K1 K2; simp); (try with_reducible refine AR.nil ?_)
    refine ⟨chk_text _ _, hK.out _ ?_⟩
    clear hK K
    with_reducible (repeat (first | refine AW.seq ?_ | refine AW.block ?_ | refine AW.skip ?_ | refine AW.exit ?_ | refine AW.ret ?_ | refine AW.label ?_ | refine NX.then ?_ | refine NX.ret ?_ | refine NX.exit ?_ | refine NX.inRet ?_ | refine NX.inNormal ?_ | refine NX.inExit ?_ | refine NX.outExit (by decide) ?_))
    refine AW.cf rfl ?_
    with_reducible (repeat (first | refine AW.seq ?_ | refine AW.block ?_ | refine AW.skip ?_ | refine AW.exit ?_ | refine AW.ret ?_ | refine AW.label ?_ | refine NX.then ?_ | refine NX.ret ?_ | refine NX.exit ?_ | refine NX.inRet ?_ | refine NX.inNormal ?_ | refine NX.inExit ?_ | refine NX.outExit (by decide) ?_))
    by_cases hil : R < l.length
    · have hili : (R : Int) < (l.length : Int) := by omega
      obtain ⟨x, hx⟩ : ∃ x, l[R] = x := ⟨_, rfl⟩
      have c1 := compare_ct x p
      have p1 := pcmp_eq x p
      have hd : decide (l[R]? = some p) = decide (pcmp x p = 0) := by
        rw [decide_eq_decide, p1, List.getElem?_eq_getElem hil, hx]
        simp
      rw [hd]
      generalize pcmp x p = z at *
      refine AW.re ty (by kernel_rfl) (by first | exact cx_N _ _ _ | assumption) (by first | exact cx_pz _ _ _ | assumption) 310 (by decide) (fun K hK => ?_)
      (try simp only [List.toList_toArray, toList_lit]); repeat (with_reducible refine AR.step (fun K1 K2 hK1 hK2 => ?_); simp [hili]; (first | refine hK1.out _ _ ?_ | refine hK2.out _ ?_ | refine ⟨by kernel_rfl, hK2.out _ ?_⟩); clear hK1 hK2 K1 K2; simp [hili]); (try with_reducible refine AR.nil ?_)
      refine AR.step (fun K1 K2 hK1 hK2 => ?_)
      simp [hili]
      refine ⟨R, PD x, rfl, by simp [hil, hx], ?_⟩
      refine hK1.out _ _ ?_
      clear hK1 hK2 K1 K2
      (try simp [hili])
      (try simp only [List.toList_toArray, toList_lit]); repeat (with_reducible refine AR.step (fun K1 K2 hK1 hK2 => ?_); simp [hili]; (first | refine hK1.out _ _ ?_ | refine hK2.out _ ?_ | refine ⟨by kernel_rfl, hK2.out _ ?_⟩); clear hK1 hK2 K1 K2; simp [hili]); (try with_reducible refine AR.nil ?_)
      refine AR.step (fun K1 K2 hK1 hK2 => ?_)
      simp [hili]
      refine orr_l ⟨by kernel_rfl, .inl ⟨_, c1, ?_⟩⟩
      (try simp [hili])
      refine hK1.out _ _ ?_
      clear hK1 hK2 K1 K2
      (try simp [hili])
      (try simp only [List.toList_toArray, toList_lit]); repeat (with_reducible refine AR.step (fun K1 K2 hK1 hK2 => ?_); simp [hili]; (first | refine hK1.out _ _ ?_ | refine hK2.out _ ?_ | refine ⟨by kernel_rfl, hK2.out _ ?_⟩); clear hK1 hK2 K1 K2; simp [hili]); (try with_reducible refine AR.nil ?_)
      refine ⟨chk_drawn (by kernel_rfl) (by kernel_rfl), hK.out _ ?_⟩
      clear hK K
      with_reducible (repeat (first | refine AW.seq ?_ | refine AW.block ?_ | refine AW.skip ?_ | refine AW.exit ?_ | refine AW.ret ?_ | refine AW.label ?_ | refine NX.then ?_ | refine NX.ret ?_ | refine NX.exit ?_ | refine NX.inRet ?_ | refine NX.inNormal ?_ | refine NX.inExit ?_ | refine NX.outExit (by decide) ?_))
      refine nx_ret (T := ty) (rs := [.tmp 6, .tmp 7]) (zs := []) (ds := [dI (R : Nat), dB (decide (z = 0))]) (rr := []) (.inr rfl) rfl (by kernel_rfl) (by kernel_rfl) (by simp) rfl
    · have hili : ¬ (R : Int) < (l.length : Int) := by omega
      have hd : decide (l[R]? = some p) = false := by
        rw [decide_eq_false_iff_not, List.getElem?_eq_none (by omega)]
        simp
      rw [hd]
      refine AW.re ty (by kernel_rfl) (by first | exact cx_N _ _ _ | assumption) (by first | exact cx_pz _ _ _ | assumption) 310 (by decide) (fun K hK => ?_)
      (try simp only [List.toList_toArray, toList_lit]); repeat (with_reducible refine AR.step (fun K1 K2 hK1 hK2 => ?_); simp [hili]; (first | refine hK1.out _ _ ?_ | refine hK2.out _ ?_ | refine ⟨by kernel_rfl, hK2.out _ ?_⟩); clear hK1 hK2 K1 K2; simp [hili]); (try with_reducible refine AR.nil ?_)
      refine ⟨chk_drawn (by kernel_rfl) (by kernel_rfl), hK.out _ ?_⟩
      clear hK K
      with_reducible (repeat (first | refine AW.seq ?_ | refine AW.block ?_ | refine AW.skip ?_ | refine AW.exit ?_ | refine AW.ret ?_ | refine AW.label ?_ | refine NX.then ?_ | refine NX.ret ?_ | refine NX.exit ?_ | refine NX.inRet ?_ | refine NX.inNormal ?_ | refine NX.inExit ?_ | refine NX.outExit (by decide) ?_))
      refine nx_ret (T := ty) (rs := [.tmp 6, .tmp 7]) (zs := []) (ds := [dI (R : Nat), dB false]) (rr := []) (.inr rfl) rfl (by kernel_rfl) (by kernel_rfl) (by simp) rfl
def placeX (l : List Pr) (p : Pr) : Nat := bsF l p l.length 0 l.length
theorem placeX_le (l : List Pr) (p : Pr) : placeX l p ≤ l.length := bsF_le l p _ _ _ (Nat.zero_le _)
set_option maxHeartbeats 4000000 in
theorem placex_ct (l : List Pr) (p : Pr) (hn : l.length ≤ 100000000) : Ct Try.prog 122 [.c (RD l), PV p] none (.one (dI (placeX l p : Nat))) := by
  have c1 := searchx_ct l p hn
  change Ct _ _ _ _ (.tup [dI (placeX l p : Nat), dB (decide (l[placeX l p]? = some p))]) at c1
  generalize placeX l p = i at *
  generalize decide (l[i]? = some p) = b at *
  refine ct_intro Try.func122 rfl Try.ntmps122 (by simp) (fun W0 Z => ?_)
  with_reducible (repeat (first | refine AW.seq ?_ | refine AW.block ?_ | refine AW.skip ?_ | refine AW.exit ?_ | refine AW.ret ?_ | refine AW.label ?_ | refine NX.then ?_ | refine NX.ret ?_ | refine NX.exit ?_ | refine NX.inRet ?_ | refine NX.inNormal ?_ | refine NX.inExit ?_ | refine NX.outExit (by decide) ?_))
  refine AW.at_ (fun L hL => ?_)
  simp at hL
  subst hL
  refine AW.re ty (by kernel_rfl) (by first | exact cx_N _ _ _ | assumption) (by first | exact cx_pz _ _ _ | assumption) 1 (by decide) (fun K hK => ?_)
  (try simp only [List.toList_toArray, toList_lit]); repeat (with_reducible refine AR.step (fun K1 K2 hK1 hK2 => ?_); simp; (first | refine hK1.out _ _ ?_ | refine hK2.out _ ?_ | refine ⟨by kernel_rfl, hK2.out _ ?_⟩); clear hK1 hK2 K1 K2; simp); (try with_reducible refine AR.nil ?_)
  refine ⟨chk_text _ _, hK.out _ ?_⟩
  clear hK K
  with_reducible (repeat (first | refine AW.seq ?_ | refine AW.block ?_ | refine AW.skip ?_ | refine AW.exit ?_ | refine AW.ret ?_ | refine AW.label ?_ | refine NX.then ?_ | refine NX.ret ?_ | refine NX.exit ?_ | refine NX.inRet ?_ | refine NX.inNormal ?_ | refine NX.inExit ?_ | refine NX.outExit (by decide) ?_))
  refine AW.re ty (by kernel_rfl) (by first | exact cx_N _ _ _ | assumption) (by first | exact cx_pz _ _ _ | assumption) 10 (by decide) (fun K hK => ?_)
  (try simp only [List.toList_toArray, toList_lit]); repeat (with_reducible refine AR.step (fun K1 K2 hK1 hK2 => ?_); simp; (first | refine hK1.out _ _ ?_ | refine hK2.out _ ?_ | refine ⟨by kernel_rfl, hK2.out _ ?_⟩); clear hK1 hK2 K1 K2; simp); (try with_reducible refine AR.nil ?_)
  refine AR.step (fun K1 K2 hK1 hK2 => ?_)
  simp
  refine orr_l ⟨by kernel_rfl, .inl ⟨_, c1, ?_⟩⟩
  (try simp)
  refine hK1.out _ _ ?_
  clear hK1 hK2 K1 K2
  (try simp)
  (try simp only [List.toList_toArray, toList_lit]); repeat (with_reducible refine AR.step (fun K1 K2 hK1 hK2 => ?_); simp; (first | refine hK1.out _ _ ?_ | refine hK2.out _ ?_ | refine ⟨by kernel_rfl, hK2.out _ ?_⟩); clear hK1 hK2 K1 K2; simp); (try with_reducible refine AR.nil ?_)
  refine ⟨chk_text _ _, hK.out _ ?_⟩
  clear hK K
  with_reducible (repeat (first | refine AW.seq ?_ | refine AW.block ?_ | refine AW.skip ?_ | refine AW.exit ?_ | refine AW.ret ?_ | refine AW.label ?_ | refine NX.then ?_ | refine NX.ret ?_ | refine NX.exit ?_ | refine NX.inRet ?_ | refine NX.inNormal ?_ | refine NX.inExit ?_ | refine NX.outExit (by decide) ?_))
  refine AW.re ty (by kernel_rfl) (by first | exact cx_N _ _ _ | assumption) (by first | exact cx_pz _ _ _ | assumption) 30 (by decide) (fun K hK => ?_)
  (try simp only [List.toList_toArray, toList_lit]); repeat (with_reducible refine AR.step (fun K1 K2 hK1 hK2 => ?_); simp; (first | refine hK1.out _ _ ?_ | refine hK2.out _ ?_ | refine ⟨by kernel_rfl, hK2.out _ ?_⟩); clear hK1 hK2 K1 K2; simp); (try with_reducible refine AR.nil ?_)
  refine ⟨chk_text _ _, hK.out _ ?_⟩
  clear hK K
  with_reducible (repeat (first | refine AW.seq ?_ | refine AW.block ?_ | refine AW.skip ?_ | refine AW.exit ?_ | refine AW.ret ?_ | refine AW.label ?_ | refine NX.then ?_ | refine NX.ret ?_ | refine NX.exit ?_ | refine NX.inRet ?_ | refine NX.inNormal ?_ | refine NX.inExit ?_ | refine NX.outExit (by decide) ?_))
  refine nx_ret (T := ty) (rs := [.tmp 4]) (zs := []) (ds := [dI (i : Nat)]) (rr := []) (.inr rfl) rfl (by kernel_rfl) (by kernel_rfl) (by simp) rfl
set_option maxHeartbeats 4000000 in
theorem has_wrong (l : List Pr) (p : Pr) (hrt : rightL l = false) (hn : l.length ≤ 1000000) : Ct Try.prog 65 [.c (RD l), PV p] none (.one (dB false)) := by
  have c1 := placex_ct l p (by omega)
  have c2 := check_ct l
  rw [hrt] at c2
  generalize placeX l p = i at *
  by_cases hgo : i < l.length
  · obtain ⟨x, hx⟩ : ∃ x, l[i] = x := ⟨_, rfl⟩
    by_cases hxp : x = p
    · have hb : decide (x = p) = true := by rw [decide_eq_true_iff]; exact hxp
      refine ct_intro Try.func65 rfl Try.ntmps65 (by simp) (fun W0 Z => ?_)
      with_reducible (repeat (first | refine AW.seq ?_ | refine AW.block ?_ | refine AW.skip ?_ | refine AW.exit ?_ | refine AW.ret ?_ | refine AW.label ?_ | refine NX.then ?_ | refine NX.ret ?_ | refine NX.exit ?_ | refine NX.inRet ?_ | refine NX.inNormal ?_ | refine NX.inExit ?_ | refine NX.outExit (by decide) ?_))
      refine AW.at_ (fun L hL => ?_)
      simp at hL
      subst hL
      refine AW.re ty (by kernel_rfl) (by first | exact cx_N _ _ _ | assumption) (by first | exact cx_pz _ _ _ | assumption) 1 (by decide) (fun K hK => ?_)
      (try simp only [List.toList_toArray, toList_lit]); repeat (with_reducible refine AR.step (fun K1 K2 hK1 hK2 => ?_); simp; (first | refine hK1.out _ _ ?_ | refine hK2.out _ ?_ | refine ⟨by kernel_rfl, hK2.out _ ?_⟩); clear hK1 hK2 K1 K2; simp); (try with_reducible refine AR.nil ?_)
      refine ⟨chk_text _ _, hK.out _ ?_⟩
      clear hK K
      with_reducible (repeat (first | refine AW.seq ?_ | refine AW.block ?_ | refine AW.skip ?_ | refine AW.exit ?_ | refine AW.ret ?_ | refine AW.label ?_ | refine NX.then ?_ | refine NX.ret ?_ | refine NX.exit ?_ | refine NX.inRet ?_ | refine NX.inNormal ?_ | refine NX.inExit ?_ | refine NX.outExit (by decide) ?_))
      refine AW.re ty (by kernel_rfl) (by first | exact cx_N _ _ _ | assumption) (by first | exact cx_pz _ _ _ | assumption) 10 (by decide) (fun K hK => ?_)
      (try simp only [List.toList_toArray, toList_lit]); repeat (with_reducible refine AR.step (fun K1 K2 hK1 hK2 => ?_); simp; (first | refine hK1.out _ _ ?_ | refine hK2.out _ ?_ | refine ⟨by kernel_rfl, hK2.out _ ?_⟩); clear hK1 hK2 K1 K2; simp); (try with_reducible refine AR.nil ?_)
      refine AR.step (fun K1 K2 hK1 hK2 => ?_)
      simp
      refine orr_l ⟨by kernel_rfl, .inl ⟨_, c1, ?_⟩⟩
      (try simp)
      refine hK1.out _ _ ?_
      clear hK1 hK2 K1 K2
      (try simp)
      (try simp only [List.toList_toArray, toList_lit]); repeat (with_reducible refine AR.step (fun K1 K2 hK1 hK2 => ?_); simp; (first | refine hK1.out _ _ ?_ | refine hK2.out _ ?_ | refine ⟨by kernel_rfl, hK2.out _ ?_⟩); clear hK1 hK2 K1 K2; simp); (try with_reducible refine AR.nil ?_)
      refine ⟨chk_text _ _, hK.out _ ?_⟩
      clear hK K
      with_reducible (repeat (first | refine AW.seq ?_ | refine AW.block ?_ | refine AW.skip ?_ | refine AW.exit ?_ | refine AW.ret ?_ | refine AW.label ?_ | refine NX.then ?_ | refine NX.ret ?_ | refine NX.exit ?_ | refine NX.inRet ?_ | refine NX.inNormal ?_ | refine NX.inExit ?_ | refine NX.outExit (by decide) ?_))
      refine AW.re ty (by kernel_rfl) (by first | exact cx_N _ _ _ | assumption) (by first | exact cx_pz _ _ _ | assumption) 20 (by decide) (fun K hK => ?_)
      (try simp only [List.toList_toArray, toList_lit]); repeat (with_reducible refine AR.step (fun K1 K2 hK1 hK2 => ?_); simp [hgo]; (first | refine hK1.out _ _ ?_ | refine hK2.out _ ?_ | refine ⟨by kernel_rfl, hK2.out _ ?_⟩); clear hK1 hK2 K1 K2; simp [hgo]); (try with_reducible refine AR.nil ?_)
      refine AR.step (fun K1 K2 hK1 hK2 => ?_)
      simp [hgo]
      refine ⟨i, PD x, rfl, by simp [hgo, hx], ?_⟩
      refine hK1.out _ _ ?_
      clear hK1 hK2 K1 K2
      (try simp [hgo])
      (try simp only [List.toList_toArray, toList_lit]); repeat (with_reducible refine AR.step (fun K1 K2 hK1 hK2 => ?_); simp [hgo]; (first | refine hK1.out _ _ ?_ | refine hK2.out _ ?_ | refine ⟨by kernel_rfl, hK2.out _ ?_⟩); clear hK1 hK2 K1 K2; simp [hgo]); (try with_reducible refine AR.nil ?_)
      refine AR.step (fun K1 K2 hK1 hK2 => ?_)
      simp [hgo]
      refine sba_eql x p hb ?_
      refine hK1.out _ _ ?_
      clear hK1 hK2 K1 K2
      (try simp [hgo])
      (try simp only [List.toList_toArray, toList_lit]); repeat (with_reducible refine AR.step (fun K1 K2 hK1 hK2 => ?_); simp [hgo]; (first | refine hK1.out _ _ ?_ | refine hK2.out _ ?_ | refine ⟨by kernel_rfl, hK2.out _ ?_⟩); clear hK1 hK2 K1 K2; simp [hgo]); (try with_reducible refine AR.nil ?_)
      refine AR.step (fun K1 K2 hK1 hK2 => ?_)
      simp [hgo]
      refine orr_l ⟨by kernel_rfl, .inl ⟨_, c2, ?_⟩⟩
      (try simp [hgo])
      refine hK1.out _ _ ?_
      clear hK1 hK2 K1 K2
      (try simp [hgo])
      (try simp only [List.toList_toArray, toList_lit]); repeat (with_reducible refine AR.step (fun K1 K2 hK1 hK2 => ?_); simp [hgo]; (first | refine hK1.out _ _ ?_ | refine hK2.out _ ?_ | refine ⟨by kernel_rfl, hK2.out _ ?_⟩); clear hK1 hK2 K1 K2; simp [hgo]); (try with_reducible refine AR.nil ?_)
      refine ⟨chk_drawn (by kernel_rfl) (by kernel_rfl), hK.out _ ?_⟩
      clear hK K
      with_reducible (repeat (first | refine AW.seq ?_ | refine AW.block ?_ | refine AW.skip ?_ | refine AW.exit ?_ | refine AW.ret ?_ | refine AW.label ?_ | refine NX.then ?_ | refine NX.ret ?_ | refine NX.exit ?_ | refine NX.inRet ?_ | refine NX.inNormal ?_ | refine NX.inExit ?_ | refine NX.outExit (by decide) ?_))
      refine nx_ret (T := ty) (rs := [.tmp 4]) (zs := []) (ds := [dB false]) (rr := []) (.inr rfl) rfl (by kernel_rfl) (by kernel_rfl) (by simp) rfl
    · have hb : decide (x = p) = false := by rw [decide_eq_false_iff_not]; exact hxp
      refine ct_intro Try.func65 rfl Try.ntmps65 (by simp) (fun W0 Z => ?_)
      with_reducible (repeat (first | refine AW.seq ?_ | refine AW.block ?_ | refine AW.skip ?_ | refine AW.exit ?_ | refine AW.ret ?_ | refine AW.label ?_ | refine NX.then ?_ | refine NX.ret ?_ | refine NX.exit ?_ | refine NX.inRet ?_ | refine NX.inNormal ?_ | refine NX.inExit ?_ | refine NX.outExit (by decide) ?_))
      refine AW.at_ (fun L hL => ?_)
      simp at hL
      subst hL
      refine AW.re ty (by kernel_rfl) (by first | exact cx_N _ _ _ | assumption) (by first | exact cx_pz _ _ _ | assumption) 1 (by decide) (fun K hK => ?_)
      (try simp only [List.toList_toArray, toList_lit]); repeat (with_reducible refine AR.step (fun K1 K2 hK1 hK2 => ?_); simp [hgo]; (first | refine hK1.out _ _ ?_ | refine hK2.out _ ?_ | refine ⟨by kernel_rfl, hK2.out _ ?_⟩); clear hK1 hK2 K1 K2; simp [hgo]); (try with_reducible refine AR.nil ?_)
      refine ⟨chk_text _ _, hK.out _ ?_⟩
      clear hK K
      with_reducible (repeat (first | refine AW.seq ?_ | refine AW.block ?_ | refine AW.skip ?_ | refine AW.exit ?_ | refine AW.ret ?_ | refine AW.label ?_ | refine NX.then ?_ | refine NX.ret ?_ | refine NX.exit ?_ | refine NX.inRet ?_ | refine NX.inNormal ?_ | refine NX.inExit ?_ | refine NX.outExit (by decide) ?_))
      refine AW.re ty (by kernel_rfl) (by first | exact cx_N _ _ _ | assumption) (by first | exact cx_pz _ _ _ | assumption) 10 (by decide) (fun K hK => ?_)
      (try simp only [List.toList_toArray, toList_lit]); repeat (with_reducible refine AR.step (fun K1 K2 hK1 hK2 => ?_); simp [hgo]; (first | refine hK1.out _ _ ?_ | refine hK2.out _ ?_ | refine ⟨by kernel_rfl, hK2.out _ ?_⟩); clear hK1 hK2 K1 K2; simp [hgo]); (try with_reducible refine AR.nil ?_)
      refine AR.step (fun K1 K2 hK1 hK2 => ?_)
      simp [hgo]
      refine orr_l ⟨by kernel_rfl, .inl ⟨_, c1, ?_⟩⟩
      (try simp [hgo])
      refine hK1.out _ _ ?_
      clear hK1 hK2 K1 K2
      (try simp [hgo])
      (try simp only [List.toList_toArray, toList_lit]); repeat (with_reducible refine AR.step (fun K1 K2 hK1 hK2 => ?_); simp [hgo]; (first | refine hK1.out _ _ ?_ | refine hK2.out _ ?_ | refine ⟨by kernel_rfl, hK2.out _ ?_⟩); clear hK1 hK2 K1 K2; simp [hgo]); (try with_reducible refine AR.nil ?_)
      refine ⟨chk_text _ _, hK.out _ ?_⟩
      clear hK K
      with_reducible (repeat (first | refine AW.seq ?_ | refine AW.block ?_ | refine AW.skip ?_ | refine AW.exit ?_ | refine AW.ret ?_ | refine AW.label ?_ | refine NX.then ?_ | refine NX.ret ?_ | refine NX.exit ?_ | refine NX.inRet ?_ | refine NX.inNormal ?_ | refine NX.inExit ?_ | refine NX.outExit (by decide) ?_))
      refine AW.re ty (by kernel_rfl) (by first | exact cx_N _ _ _ | assumption) (by first | exact cx_pz _ _ _ | assumption) 20 (by decide) (fun K hK => ?_)
      (try simp only [List.toList_toArray, toList_lit]); repeat (with_reducible refine AR.step (fun K1 K2 hK1 hK2 => ?_); simp [hgo]; (first | refine hK1.out _ _ ?_ | refine hK2.out _ ?_ | refine ⟨by kernel_rfl, hK2.out _ ?_⟩); clear hK1 hK2 K1 K2; simp [hgo]); (try with_reducible refine AR.nil ?_)
      refine AR.step (fun K1 K2 hK1 hK2 => ?_)
      simp [hgo]
      refine ⟨i, PD x, rfl, by simp [hgo, hx], ?_⟩
      refine hK1.out _ _ ?_
      clear hK1 hK2 K1 K2
      (try simp [hgo])
      (try simp only [List.toList_toArray, toList_lit]); repeat (with_reducible refine AR.step (fun K1 K2 hK1 hK2 => ?_); simp [hgo]; (first | refine hK1.out _ _ ?_ | refine hK2.out _ ?_ | refine ⟨by kernel_rfl, hK2.out _ ?_⟩); clear hK1 hK2 K1 K2; simp [hgo]); (try with_reducible refine AR.nil ?_)
      refine AR.step (fun K1 K2 hK1 hK2 => ?_)
      simp [hgo]
      refine sba_eql x p hb ?_
      refine hK1.out _ _ ?_
      clear hK1 hK2 K1 K2
      (try simp [hgo])
      (try simp only [List.toList_toArray, toList_lit]); repeat (with_reducible refine AR.step (fun K1 K2 hK1 hK2 => ?_); simp [hgo]; (first | refine hK1.out _ _ ?_ | refine hK2.out _ ?_ | refine ⟨by kernel_rfl, hK2.out _ ?_⟩); clear hK1 hK2 K1 K2; simp [hgo]); (try with_reducible refine AR.nil ?_)
      refine ⟨chk_drawn (by kernel_rfl) (by kernel_rfl), hK.out _ ?_⟩
      clear hK K
      with_reducible (repeat (first | refine AW.seq ?_ | refine AW.block ?_ | refine AW.skip ?_ | refine AW.exit ?_ | refine AW.ret ?_ | refine AW.label ?_ | refine NX.then ?_ | refine NX.ret ?_ | refine NX.exit ?_ | refine NX.inRet ?_ | refine NX.inNormal ?_ | refine NX.inExit ?_ | refine NX.outExit (by decide) ?_))
      refine nx_ret (T := ty) (rs := [.tmp 4]) (zs := []) (ds := [dB false]) (rr := []) (.inr rfl) rfl (by kernel_rfl) (by kernel_rfl) (by simp) rfl
  · refine ct_intro Try.func65 rfl Try.ntmps65 (by simp) (fun W0 Z => ?_)
    with_reducible (repeat (first | refine AW.seq ?_ | refine AW.block ?_ | refine AW.skip ?_ | refine AW.exit ?_ | refine AW.ret ?_ | refine AW.label ?_ | refine NX.then ?_ | refine NX.ret ?_ | refine NX.exit ?_ | refine NX.inRet ?_ | refine NX.inNormal ?_ | refine NX.inExit ?_ | refine NX.outExit (by decide) ?_))
    refine AW.at_ (fun L hL => ?_)
    simp at hL
    subst hL
    refine AW.re ty (by kernel_rfl) (by first | exact cx_N _ _ _ | assumption) (by first | exact cx_pz _ _ _ | assumption) 1 (by decide) (fun K hK => ?_)
    (try simp only [List.toList_toArray, toList_lit]); repeat (with_reducible refine AR.step (fun K1 K2 hK1 hK2 => ?_); simp [hgo]; (first | refine hK1.out _ _ ?_ | refine hK2.out _ ?_ | refine ⟨by kernel_rfl, hK2.out _ ?_⟩); clear hK1 hK2 K1 K2; simp [hgo]); (try with_reducible refine AR.nil ?_)
    refine ⟨chk_text _ _, hK.out _ ?_⟩
    clear hK K
    with_reducible (repeat (first | refine AW.seq ?_ | refine AW.block ?_ | refine AW.skip ?_ | refine AW.exit ?_ | refine AW.ret ?_ | refine AW.label ?_ | refine NX.then ?_ | refine NX.ret ?_ | refine NX.exit ?_ | refine NX.inRet ?_ | refine NX.inNormal ?_ | refine NX.inExit ?_ | refine NX.outExit (by decide) ?_))
    refine AW.re ty (by kernel_rfl) (by first | exact cx_N _ _ _ | assumption) (by first | exact cx_pz _ _ _ | assumption) 10 (by decide) (fun K hK => ?_)
    (try simp only [List.toList_toArray, toList_lit]); repeat (with_reducible refine AR.step (fun K1 K2 hK1 hK2 => ?_); simp [hgo]; (first | refine hK1.out _ _ ?_ | refine hK2.out _ ?_ | refine ⟨by kernel_rfl, hK2.out _ ?_⟩); clear hK1 hK2 K1 K2; simp [hgo]); (try with_reducible refine AR.nil ?_)
    refine AR.step (fun K1 K2 hK1 hK2 => ?_)
    simp [hgo]
    refine orr_l ⟨by kernel_rfl, .inl ⟨_, c1, ?_⟩⟩
    (try simp [hgo])
    refine hK1.out _ _ ?_
    clear hK1 hK2 K1 K2
    (try simp [hgo])
    (try simp only [List.toList_toArray, toList_lit]); repeat (with_reducible refine AR.step (fun K1 K2 hK1 hK2 => ?_); simp [hgo]; (first | refine hK1.out _ _ ?_ | refine hK2.out _ ?_ | refine ⟨by kernel_rfl, hK2.out _ ?_⟩); clear hK1 hK2 K1 K2; simp [hgo]); (try with_reducible refine AR.nil ?_)
    refine ⟨chk_text _ _, hK.out _ ?_⟩
    clear hK K
    with_reducible (repeat (first | refine AW.seq ?_ | refine AW.block ?_ | refine AW.skip ?_ | refine AW.exit ?_ | refine AW.ret ?_ | refine AW.label ?_ | refine NX.then ?_ | refine NX.ret ?_ | refine NX.exit ?_ | refine NX.inRet ?_ | refine NX.inNormal ?_ | refine NX.inExit ?_ | refine NX.outExit (by decide) ?_))
    refine AW.re ty (by kernel_rfl) (by first | exact cx_N _ _ _ | assumption) (by first | exact cx_pz _ _ _ | assumption) 20 (by decide) (fun K hK => ?_)
    (try simp only [List.toList_toArray, toList_lit]); repeat (with_reducible refine AR.step (fun K1 K2 hK1 hK2 => ?_); simp [hgo]; (first | refine hK1.out _ _ ?_ | refine hK2.out _ ?_ | refine ⟨by kernel_rfl, hK2.out _ ?_⟩); clear hK1 hK2 K1 K2; simp [hgo]); (try with_reducible refine AR.nil ?_)
    refine ⟨chk_drawn (by kernel_rfl) (by kernel_rfl), hK.out _ ?_⟩
    clear hK K
    with_reducible (repeat (first | refine AW.seq ?_ | refine AW.block ?_ | refine AW.skip ?_ | refine AW.exit ?_ | refine AW.ret ?_ | refine AW.label ?_ | refine NX.then ?_ | refine NX.ret ?_ | refine NX.exit ?_ | refine NX.inRet ?_ | refine NX.inNormal ?_ | refine NX.inExit ?_ | refine NX.outExit (by decide) ?_))
    refine nx_ret (T := ty) (rs := [.tmp 4]) (zs := []) (ds := [dB false]) (rr := []) (.inr rfl) rfl (by kernel_rfl) (by kernel_rfl) (by simp) rfl
theorem has_all (l : List Pr) (p : Pr) (hn : l.length ≤ 1000000) : Ct Try.prog 65 [.c (RD l), PV p] none (.one (dB (rightL l && decide (p ∈ l)))) := by
  cases h : rightL l with
  | false => exact has_wrong l p h hn
  | true =>
    have hr : Rises l := by
      have h' := h
      unfold rightL at h'
      simp only [Bool.and_eq_true, decide_eq_true_eq] at h'
      exact h'.1
    exact has_ct l p hr h hn
def rtR (l : List Pr) (k : Nat) : List Pr := ofL ((l.take k).map turnP)
theorem rtR_0 (l : List Pr) : rtR l 0 = [] := rfl
theorem rtR_s (l : List Pr) {k : Nat} (h : k < l.length) : rtR l (k + 1) = withL (rtR l k) (turnP l[k]) := by
  unfold rtR ofL
  rw [List.take_succ_eq_append_getElem h, List.map_append, List.foldl_append]
  rfl
theorem rtR_len (l : List Pr) (k : Nat) : (rtR l k).length ≤ l.length := by
  unfold rtR
  refine Nat.le_trans (ofL_len _) ?_
  simp; omega
def rtS (l : List Pr) (k : Nat) : Row := [(.zn 0, .zn .live), (.zn 900, .zn .live), (.zn 901, .zn .live), (.hd 900, .hd (.own 52 2 900 [901] ((rtR l k).map PD))),
  (.tmp 3, .av (.own 900)), (.tmp 6, .av (.c [0] (RD l))), (.tmp 7, .av (.c [] (.v (.int .i64 l.length)))), (.tmp 8, .av (.c [] (.v (.int .i64 k))))]
set_option maxHeartbeats 4000000 in
theorem rturn_ct (l : List Pr) (hn : l.length ≤ 1000000) : Ct Try.prog 72 [.c (RD l)] (some 52) (.one (.c (RD (ofL (l.map turnP))))) := by
  refine ct_intro Try.func72 rfl Try.ntmps72 (by simp) (fun W0 Z => ?_)
  with_reducible (repeat (first | refine AW.seq ?_ | refine AW.block ?_ | refine AW.skip ?_ | refine AW.exit ?_ | refine AW.ret ?_ | refine AW.label ?_ | refine NX.then ?_ | refine NX.ret ?_ | refine NX.exit ?_ | refine NX.inRet ?_ | refine NX.inNormal ?_ | refine NX.inExit ?_ | refine NX.outExit (by decide) ?_))
  refine AW.at_ (fun L hL => ?_)
  simp at hL
  subst hL
  refine AW.re ty (by kernel_rfl) (by first | exact cx_N _ _ _ | assumption) (by first | exact cx_pz _ _ _ | assumption) 1 (by decide) (fun K hK => ?_)
  (try simp only [List.toList_toArray, toList_lit]); repeat (with_reducible refine AR.step (fun K1 K2 hK1 hK2 => ?_); simp; (first | refine hK1.out _ _ ?_ | refine hK2.out _ ?_ | refine ⟨by kernel_rfl, hK2.out _ ?_⟩); clear hK1 hK2 K1 K2; simp); (try with_reducible refine AR.nil ?_)
  refine ⟨chk_text _ _, hK.out _ ?_⟩
  clear hK K
  with_reducible (repeat (first | refine AW.seq ?_ | refine AW.block ?_ | refine AW.skip ?_ | refine AW.exit ?_ | refine AW.ret ?_ | refine AW.label ?_ | refine NX.then ?_ | refine NX.ret ?_ | refine NX.exit ?_ | refine NX.inRet ?_ | refine NX.inNormal ?_ | refine NX.inExit ?_ | refine NX.outExit (by decide) ?_))
  refine AW.re ty (by kernel_rfl) (by first | exact cx_N _ _ _ | assumption) (by first | exact cx_pz _ _ _ | assumption) 10 (by decide) (fun K hK => ?_)
  (try simp only [List.toList_toArray, toList_lit]); repeat (with_reducible refine AR.step (fun K1 K2 hK1 hK2 => ?_); simp; (first | refine hK1.out _ _ ?_ | refine hK2.out _ ?_ | refine ⟨by kernel_rfl, hK2.out _ ?_⟩); clear hK1 hK2 K1 K2; simp); (try with_reducible refine AR.nil ?_)
  refine ⟨chk_text _ _, hK.out _ ?_⟩
  clear hK K
  with_reducible (repeat (first | refine AW.seq ?_ | refine AW.block ?_ | refine AW.skip ?_ | refine AW.exit ?_ | refine AW.ret ?_ | refine AW.label ?_ | refine NX.then ?_ | refine NX.ret ?_ | refine NX.exit ?_ | refine NX.inRet ?_ | refine NX.inNormal ?_ | refine NX.inExit ?_ | refine NX.outExit (by decide) ?_))
  refine AW.re ty (by kernel_rfl) (by first | exact cx_N _ _ _ | assumption) (by first | exact cx_pz _ _ _ | assumption) 20 (by decide) (fun K hK => ?_)
  (try simp only [List.toList_toArray, toList_lit]); repeat (with_reducible refine AR.step (fun K1 K2 hK1 hK2 => ?_); simp; (first | refine hK1.out _ _ ?_ | refine hK2.out _ ?_ | refine ⟨by kernel_rfl, hK2.out _ ?_⟩); clear hK1 hK2 K1 K2; simp); (try with_reducible refine AR.nil ?_)
  refine ⟨chk_text _ _, hK.out _ ?_⟩
  clear hK K
  with_reducible (repeat (first | refine AW.seq ?_ | refine AW.block ?_ | refine AW.skip ?_ | refine AW.exit ?_ | refine AW.ret ?_ | refine AW.label ?_ | refine NX.then ?_ | refine NX.ret ?_ | refine NX.exit ?_ | refine NX.inRet ?_ | refine NX.inNormal ?_ | refine NX.inExit ?_ | refine NX.outExit (by decide) ?_))
  refine AW.loop (X := { k : Nat // k ≤ l.length }) (fun x => rtS l x.1) (fun x => l.length - x.1) ⟨0, by simp⟩ (fun _ _ h => AS.fold (fold_of (V := vw [] [(900, []), (901, [])] [] [(900, none)]) (by first | exact cx_pz _ _ _ | assumption) (by kernel_rfl) (by rfl) (by simp [rtS, rtR_0, foks_nil, foks_cons, fok_tmp, fok_vt, fok_cell, fok_nm, fok_zn, fok_hd, fok_df, Fv_c, Fv_seg, Fv_tup, Fv_agg, Fv_ptr, Fv_ptrs, Fv_fn, Fv_fnd, Fv_own, Fv_ownd, Fv_nown, Fv_vown, FvL_nil, FvL_cons, kvp_av, hdp_some, subz, frz, Uz, Nm, Uh, vw_nb, vw_zo, vw_zf, vw_hb, tb_nil, tb_cons, fzc_nil, fzc_cons, fzcaps_nil, fzcaps_cons])) h) (fun x => ?_)
  obtain ⟨k, hk⟩ := x
  refine AW.at_ (fun L hL => ?_)
  simp [rtS] at hL
  subst hL
  with_reducible (repeat (first | refine AW.seq ?_ | refine AW.block ?_ | refine AW.skip ?_ | refine AW.exit ?_ | refine AW.ret ?_ | refine AW.label ?_ | refine NX.then ?_ | refine NX.ret ?_ | refine NX.exit ?_ | refine NX.inRet ?_ | refine NX.inNormal ?_ | refine NX.inExit ?_ | refine NX.outExit (by decide) ?_))
  by_cases hgo : k < l.length
  · have w5 : IntKind.i64.wrap ((k : Int) + 1) = ((k + 1 : Nat) : Int) := by rw [i64_ok _ (by omega) (by omega)]; omega
    obtain ⟨x, hx⟩ : ∃ x, l[k] = x := ⟨_, rfl⟩
    have FT := rtR_s l hgo
    rw [hx] at FT
    have FL := rtR_len l k
    generalize rtR l k = R at *
    have c1 := rwith_ct R (turnP x) (by omega)
    refine AW.re ty (by kernel_rfl) (by first | exact cx_N _ _ _ | assumption) (by first | exact cx_pz _ _ _ | assumption) 200 (by decide) (fun K hK => ?_)
    (try simp only [List.toList_toArray, toList_lit]); repeat (with_reducible refine AR.step (fun K1 K2 hK1 hK2 => ?_); simp [hgo]; (first | refine hK1.out _ _ ?_ | refine hK2.out _ ?_ | refine ⟨by kernel_rfl, hK2.out _ ?_⟩); clear hK1 hK2 K1 K2; simp [hgo]); (try with_reducible refine AR.nil ?_)
    refine ⟨chk_text _ _, hK.out _ ?_⟩
    clear hK K
    with_reducible (repeat (first | refine AW.seq ?_ | refine AW.block ?_ | refine AW.skip ?_ | refine AW.exit ?_ | refine AW.ret ?_ | refine AW.label ?_ | refine NX.then ?_ | refine NX.ret ?_ | refine NX.exit ?_ | refine NX.inRet ?_ | refine NX.inNormal ?_ | refine NX.inExit ?_ | refine NX.outExit (by decide) ?_))
    refine AW.ct rfl ?_
    with_reducible (repeat (first | refine AW.seq ?_ | refine AW.block ?_ | refine AW.skip ?_ | refine AW.exit ?_ | refine AW.ret ?_ | refine AW.label ?_ | refine NX.then ?_ | refine NX.ret ?_ | refine NX.exit ?_ | refine NX.inRet ?_ | refine NX.inNormal ?_ | refine NX.inExit ?_ | refine NX.outExit (by decide) ?_))
    refine AW.re ty (by kernel_rfl) (by first | exact cx_N _ _ _ | assumption) (by first | exact cx_pz _ _ _ | assumption) 210 (by decide) (fun K hK => ?_)
    (try simp only [List.toList_toArray, toList_lit]); repeat (with_reducible refine AR.step (fun K1 K2 hK1 hK2 => ?_); simp [hgo]; (first | refine hK1.out _ _ ?_ | refine hK2.out _ ?_ | refine ⟨by kernel_rfl, hK2.out _ ?_⟩); clear hK1 hK2 K1 K2; simp [hgo]); (try with_reducible refine AR.nil ?_)
    refine AR.step (fun K1 K2 hK1 hK2 => ?_)
    simp [hgo]
    refine ⟨k, PD x, rfl, by simp [hgo, hx], ?_⟩
    refine hK1.out _ _ ?_
    clear hK1 hK2 K1 K2
    (try simp [hgo])
    (try simp only [List.toList_toArray, toList_lit]); repeat (with_reducible refine AR.step (fun K1 K2 hK1 hK2 => ?_); simp [hgo]; (first | refine hK1.out _ _ ?_ | refine hK2.out _ ?_ | refine ⟨by kernel_rfl, hK2.out _ ?_⟩); clear hK1 hK2 K1 K2; simp [hgo]); (try with_reducible refine AR.nil ?_)
    refine ⟨chk_text _ _, hK.out _ ?_⟩
    clear hK K
    with_reducible (repeat (first | refine AW.seq ?_ | refine AW.block ?_ | refine AW.skip ?_ | refine AW.exit ?_ | refine AW.ret ?_ | refine AW.label ?_ | refine NX.then ?_ | refine NX.ret ?_ | refine NX.exit ?_ | refine NX.inRet ?_ | refine NX.inNormal ?_ | refine NX.inExit ?_ | refine NX.outExit (by decide) ?_))
    refine AW.re ty (by kernel_rfl) (by first | exact cx_N _ _ _ | assumption) (by first | exact cx_pz _ _ _ | assumption) 220 (by decide) (fun K hK => ?_)
    (try simp only [List.toList_toArray, toList_lit]); repeat (with_reducible refine AR.step (fun K1 K2 hK1 hK2 => ?_); simp; (first | refine hK1.out _ _ ?_ | refine hK2.out _ ?_ | refine ⟨by kernel_rfl, hK2.out _ ?_⟩); clear hK1 hK2 K1 K2; simp); (try with_reducible refine AR.nil ?_)
    refine AR.step (fun K1 K2 hK1 hK2 => ?_)
    simp
    refine orr_l ⟨by kernel_rfl, .inr (.inl ⟨_, _, _, c1, ?_⟩)⟩
    (try simp)
    refine hK1.out _ _ ?_
    clear hK1 hK2 K1 K2
    (try simp)
    (try simp only [List.toList_toArray, toList_lit]); repeat (with_reducible refine AR.step (fun K1 K2 hK1 hK2 => ?_); simp; (first | refine hK1.out _ _ ?_ | refine hK2.out _ ?_ | refine ⟨by kernel_rfl, hK2.out _ ?_⟩); clear hK1 hK2 K1 K2; simp); (try with_reducible refine AR.nil ?_)
    refine ⟨chk_text _ _, hK.out _ ?_⟩
    clear hK K
    with_reducible (repeat (first | refine AW.seq ?_ | refine AW.block ?_ | refine AW.skip ?_ | refine AW.exit ?_ | refine AW.ret ?_ | refine AW.label ?_ | refine NX.then ?_ | refine NX.ret ?_ | refine NX.exit ?_ | refine NX.inRet ?_ | refine NX.inNormal ?_ | refine NX.inExit ?_ | refine NX.outExit (by decide) ?_))
    refine AW.re ty (by kernel_rfl) (by first | exact cx_N _ _ _ | assumption) (by first | exact cx_pz _ _ _ | assumption) 240 (by decide) (fun K hK => ?_)
    (try simp only [List.toList_toArray, toList_lit]); repeat (with_reducible refine AR.step (fun K1 K2 hK1 hK2 => ?_); simp [w5]; (first | refine hK1.out _ _ ?_ | refine hK2.out _ ?_ | refine ⟨by kernel_rfl, hK2.out _ ?_⟩); clear hK1 hK2 K1 K2; simp [w5]); (try with_reducible refine AR.nil ?_)
    refine ⟨chk_text _ _, hK.out _ ?_⟩
    clear hK K
    with_reducible (repeat (first | refine AW.seq ?_ | refine AW.block ?_ | refine AW.skip ?_ | refine AW.exit ?_ | refine AW.ret ?_ | refine AW.label ?_ | refine NX.then ?_ | refine NX.ret ?_ | refine NX.exit ?_ | refine NX.inRet ?_ | refine NX.inNormal ?_ | refine NX.inExit ?_ | refine NX.outExit (by decide) ?_))
    exact NX.round ⟨k + 1, hgo⟩ (by show l.length - (k + 1) < l.length - k; omega) (fun _ _ h => AS.fold (fold_of (V := vw [] [(900, [226]), (901, [100226])] [] [(900, some 226)]) (by first | exact cx_pz _ _ _ | assumption) (by kernel_rfl) (by rfl) (by simp [rtS, FT, foks_nil, foks_cons, fok_tmp, fok_vt, fok_cell, fok_nm, fok_zn, fok_hd, fok_df, Fv_c, Fv_seg, Fv_tup, Fv_agg, Fv_ptr, Fv_ptrs, Fv_fn, Fv_fnd, Fv_own, Fv_ownd, Fv_nown, Fv_vown, FvL_nil, FvL_cons, kvp_av, hdp_some, subz, frz, Uz, Nm, Uh, vw_nb, vw_zo, vw_zf, vw_hb, tb_nil, tb_cons, fzc_nil, fzc_cons, fzcaps_nil, fzcaps_cons])) h)
  · obtain rfl : k = l.length := by omega
    have e2 : rtR l l.length = ofL (l.map turnP) := by unfold rtR; rw [List.take_length]
    rw [e2]
    refine AW.re ty (by kernel_rfl) (by first | exact cx_N _ _ _ | assumption) (by first | exact cx_pz _ _ _ | assumption) 300 (by decide) (fun K hK => ?_)
    (try simp only [List.toList_toArray, toList_lit]); repeat (with_reducible refine AR.step (fun K1 K2 hK1 hK2 => ?_); simp; (first | refine hK1.out _ _ ?_ | refine hK2.out _ ?_ | refine ⟨by kernel_rfl, hK2.out _ ?_⟩); clear hK1 hK2 K1 K2; simp); (try with_reducible refine AR.nil ?_)
    refine ⟨chk_text _ _, hK.out _ ?_⟩
    clear hK K
    with_reducible (repeat (first | refine AW.seq ?_ | refine AW.block ?_ | refine AW.skip ?_ | refine AW.exit ?_ | refine AW.ret ?_ | refine AW.label ?_ | refine NX.then ?_ | refine NX.ret ?_ | refine NX.exit ?_ | refine NX.inRet ?_ | refine NX.inNormal ?_ | refine NX.inExit ?_ | refine NX.outExit (by decide) ?_))
    refine AW.cf rfl ?_
    with_reducible (repeat (first | refine AW.seq ?_ | refine AW.block ?_ | refine AW.skip ?_ | refine AW.exit ?_ | refine AW.ret ?_ | refine AW.label ?_ | refine NX.then ?_ | refine NX.ret ?_ | refine NX.exit ?_ | refine NX.inRet ?_ | refine NX.inNormal ?_ | refine NX.inExit ?_ | refine NX.outExit (by decide) ?_))
    refine AW.re ty (by kernel_rfl) (by first | exact cx_N _ _ _ | assumption) (by first | exact cx_pz _ _ _ | assumption) 310 (by decide) (fun K hK => ?_)
    (try simp only [List.toList_toArray, toList_lit]); repeat (with_reducible refine AR.step (fun K1 K2 hK1 hK2 => ?_); simp; (first | refine hK1.out _ _ ?_ | refine hK2.out _ ?_ | refine ⟨by kernel_rfl, hK2.out _ ?_⟩); clear hK1 hK2 K1 K2; simp); (try with_reducible refine AR.nil ?_)
    refine ⟨chk_text _ _, hK.out _ ?_⟩
    clear hK K
    with_reducible (repeat (first | refine AW.seq ?_ | refine AW.block ?_ | refine AW.skip ?_ | refine AW.exit ?_ | refine AW.ret ?_ | refine AW.label ?_ | refine NX.then ?_ | refine NX.ret ?_ | refine NX.exit ?_ | refine NX.inRet ?_ | refine NX.inNormal ?_ | refine NX.inExit ?_ | refine NX.outExit (by decide) ?_))
    exact nx_reto (t := 2) (n := 900) (y := 900) (zs := [901]) (rr := [(.zn 900, .zn .live), (.zn 901, .zn .live)]) (.inr rfl) rfl (by kernel_rfl) (by kernel_rfl) (by kernel_rfl) (by simp) rfl
def rsR (l : List Pr) (s : Int) (k : Nat) : List Int := ((l.take k).filter fun p => decide (p.1 = s)).map fun p => p.2
theorem rsR_s (l : List Pr) (s : Int) {k : Nat} {x : Pr} (h : k < l.length) (hx : l[k] = x) : rsR l s (k + 1) = rsR l s k ++ (if x.1 = s then [x.2] else []) := by
  unfold rsR
  rw [List.take_succ_eq_append_getElem h, hx, List.filter_append, List.map_append]
  congr 1
  by_cases hs : x.1 = s <;> simp [hs]
theorem rsR_len (l : List Pr) (s : Int) (k : Nat) : (rsR l s k).length ≤ l.length := by
  unfold rsR
  rw [List.length_map]
  refine Nat.le_trans (List.length_filter_le _ _) ?_
  simp; omega
def rsS (l : List Pr) (s : Int) (k : Nat) : Row := [(.zn 0, .zn .live), (.zn 900, .zn .live), (.hd 900, .hd (.own 50 1 900 [] ((rsR l s k).map uD))), (.tmp 1, .av (.c [] (.v (.int .u64 s)))),
  (.tmp 5, .av (.own 900)), (.tmp 8, .av (.c [0] (RD l))), (.tmp 9, .av (.c [] (.v (.int .i64 l.length)))), (.tmp 10, .av (.c [] (.v (.int .i64 k))))]
set_option maxHeartbeats 4000000 in
theorem rseconds_ct (l : List Pr) (s : Int) (hn : l.length ≤ 1000000) : Ct Try.prog 71 [.c (RD l), dU s] (some 50) (.one (.c (UD (rsR l s l.length)))) := by
  refine ct_intro Try.func71 rfl Try.ntmps71 (by simp) (fun W0 Z => ?_)
  with_reducible (repeat (first | refine AW.seq ?_ | refine AW.block ?_ | refine AW.skip ?_ | refine AW.exit ?_ | refine AW.ret ?_ | refine AW.label ?_ | refine NX.then ?_ | refine NX.ret ?_ | refine NX.exit ?_ | refine NX.inRet ?_ | refine NX.inNormal ?_ | refine NX.inExit ?_ | refine NX.outExit (by decide) ?_))
  refine AW.at_ (fun L hL => ?_)
  simp at hL
  subst hL
  refine AW.re ty (by kernel_rfl) (by first | exact cx_N _ _ _ | assumption) (by first | exact cx_pz _ _ _ | assumption) 1 (by decide) (fun K hK => ?_)
  (try simp only [List.toList_toArray, toList_lit]); repeat (with_reducible refine AR.step (fun K1 K2 hK1 hK2 => ?_); simp; (first | refine hK1.out _ _ ?_ | refine hK2.out _ ?_ | refine ⟨by kernel_rfl, hK2.out _ ?_⟩); clear hK1 hK2 K1 K2; simp); (try with_reducible refine AR.nil ?_)
  refine ⟨chk_text _ _, hK.out _ ?_⟩
  clear hK K
  with_reducible (repeat (first | refine AW.seq ?_ | refine AW.block ?_ | refine AW.skip ?_ | refine AW.exit ?_ | refine AW.ret ?_ | refine AW.label ?_ | refine NX.then ?_ | refine NX.ret ?_ | refine NX.exit ?_ | refine NX.inRet ?_ | refine NX.inNormal ?_ | refine NX.inExit ?_ | refine NX.outExit (by decide) ?_))
  refine AW.re ty (by kernel_rfl) (by first | exact cx_N _ _ _ | assumption) (by first | exact cx_pz _ _ _ | assumption) 10 (by decide) (fun K hK => ?_)
  (try simp only [List.toList_toArray, toList_lit]); repeat (with_reducible refine AR.step (fun K1 K2 hK1 hK2 => ?_); simp; (first | refine hK1.out _ _ ?_ | refine hK2.out _ ?_ | refine ⟨by kernel_rfl, hK2.out _ ?_⟩); clear hK1 hK2 K1 K2; simp); (try with_reducible refine AR.nil ?_)
  refine ⟨chk_text _ _, hK.out _ ?_⟩
  clear hK K
  with_reducible (repeat (first | refine AW.seq ?_ | refine AW.block ?_ | refine AW.skip ?_ | refine AW.exit ?_ | refine AW.ret ?_ | refine AW.label ?_ | refine NX.then ?_ | refine NX.ret ?_ | refine NX.exit ?_ | refine NX.inRet ?_ | refine NX.inNormal ?_ | refine NX.inExit ?_ | refine NX.outExit (by decide) ?_))
  refine AW.re ty (by kernel_rfl) (by first | exact cx_N _ _ _ | assumption) (by first | exact cx_pz _ _ _ | assumption) 20 (by decide) (fun K hK => ?_)
  (try simp only [List.toList_toArray, toList_lit]); repeat (with_reducible refine AR.step (fun K1 K2 hK1 hK2 => ?_); simp; (first | refine hK1.out _ _ ?_ | refine hK2.out _ ?_ | refine ⟨by kernel_rfl, hK2.out _ ?_⟩); clear hK1 hK2 K1 K2; simp); (try with_reducible refine AR.nil ?_)
  refine ⟨chk_text _ _, hK.out _ ?_⟩
  clear hK K
  with_reducible (repeat (first | refine AW.seq ?_ | refine AW.block ?_ | refine AW.skip ?_ | refine AW.exit ?_ | refine AW.ret ?_ | refine AW.label ?_ | refine NX.then ?_ | refine NX.ret ?_ | refine NX.exit ?_ | refine NX.inRet ?_ | refine NX.inNormal ?_ | refine NX.inExit ?_ | refine NX.outExit (by decide) ?_))
  refine AW.loop (X := { k : Nat // k ≤ l.length }) (fun x => rsS l s x.1) (fun x => l.length - x.1) ⟨0, by simp⟩ (fun _ _ h => AS.fold (fold_of (V := vw [] [(900, [])] [] [(900, none)]) (by first | exact cx_pz _ _ _ | assumption) (by kernel_rfl) (by rfl) (by simp [rsS, rsR, foks_nil, foks_cons, fok_tmp, fok_vt, fok_cell, fok_nm, fok_zn, fok_hd, fok_df, Fv_c, Fv_seg, Fv_tup, Fv_agg, Fv_ptr, Fv_ptrs, Fv_fn, Fv_fnd, Fv_own, Fv_ownd, Fv_nown, Fv_vown, FvL_nil, FvL_cons, kvp_av, hdp_some, subz, frz, Uz, Nm, Uh, vw_nb, vw_zo, vw_zf, vw_hb, tb_nil, tb_cons, fzc_nil, fzc_cons, fzcaps_nil, fzcaps_cons])) h) (fun x => ?_)
  obtain ⟨k, hk⟩ := x
  refine AW.at_ (fun L hL => ?_)
  simp [rsS] at hL
  subst hL
  with_reducible (repeat (first | refine AW.seq ?_ | refine AW.block ?_ | refine AW.skip ?_ | refine AW.exit ?_ | refine AW.ret ?_ | refine AW.label ?_ | refine NX.then ?_ | refine NX.ret ?_ | refine NX.exit ?_ | refine NX.inRet ?_ | refine NX.inNormal ?_ | refine NX.inExit ?_ | refine NX.outExit (by decide) ?_))
  by_cases hgo : k < l.length
  · have w5 : IntKind.i64.wrap ((k : Int) + 1) = ((k + 1 : Nat) : Int) := by rw [i64_ok _ (by omega) (by omega)]; omega
    obtain ⟨x, hx⟩ : ∃ x, l[k] = x := ⟨_, rfl⟩
    have FT := rsR_s l s hgo hx
    have FL := rsR_len l s k
    generalize rsR l s k = R at *
    refine AW.re ty (by kernel_rfl) (by first | exact cx_N _ _ _ | assumption) (by first | exact cx_pz _ _ _ | assumption) 200 (by decide) (fun K hK => ?_)
    (try simp only [List.toList_toArray, toList_lit]); repeat (with_reducible refine AR.step (fun K1 K2 hK1 hK2 => ?_); simp [hgo]; (first | refine hK1.out _ _ ?_ | refine hK2.out _ ?_ | refine ⟨by kernel_rfl, hK2.out _ ?_⟩); clear hK1 hK2 K1 K2; simp [hgo]); (try with_reducible refine AR.nil ?_)
    refine ⟨chk_text _ _, hK.out _ ?_⟩
    clear hK K
    with_reducible (repeat (first | refine AW.seq ?_ | refine AW.block ?_ | refine AW.skip ?_ | refine AW.exit ?_ | refine AW.ret ?_ | refine AW.label ?_ | refine NX.then ?_ | refine NX.ret ?_ | refine NX.exit ?_ | refine NX.inRet ?_ | refine NX.inNormal ?_ | refine NX.inExit ?_ | refine NX.outExit (by decide) ?_))
    refine AW.ct rfl ?_
    with_reducible (repeat (first | refine AW.seq ?_ | refine AW.block ?_ | refine AW.skip ?_ | refine AW.exit ?_ | refine AW.ret ?_ | refine AW.label ?_ | refine NX.then ?_ | refine NX.ret ?_ | refine NX.exit ?_ | refine NX.inRet ?_ | refine NX.inNormal ?_ | refine NX.inExit ?_ | refine NX.outExit (by decide) ?_))
    refine AW.re ty (by kernel_rfl) (by first | exact cx_N _ _ _ | assumption) (by first | exact cx_pz _ _ _ | assumption) 210 (by decide) (fun K hK => ?_)
    (try simp only [List.toList_toArray, toList_lit]); repeat (with_reducible refine AR.step (fun K1 K2 hK1 hK2 => ?_); simp [hgo]; (first | refine hK1.out _ _ ?_ | refine hK2.out _ ?_ | refine ⟨by kernel_rfl, hK2.out _ ?_⟩); clear hK1 hK2 K1 K2; simp [hgo]); (try with_reducible refine AR.nil ?_)
    refine AR.step (fun K1 K2 hK1 hK2 => ?_)
    simp [hgo]
    refine ⟨k, PD x, rfl, by simp [hgo, hx], ?_⟩
    refine hK1.out _ _ ?_
    clear hK1 hK2 K1 K2
    (try simp [hgo])
    (try simp only [List.toList_toArray, toList_lit]); repeat (with_reducible refine AR.step (fun K1 K2 hK1 hK2 => ?_); simp [hgo]; (first | refine hK1.out _ _ ?_ | refine hK2.out _ ?_ | refine ⟨by kernel_rfl, hK2.out _ ?_⟩); clear hK1 hK2 K1 K2; simp [hgo]); (try with_reducible refine AR.nil ?_)
    refine ⟨chk_text _ _, hK.out _ ?_⟩
    clear hK K
    with_reducible (repeat (first | refine AW.seq ?_ | refine AW.block ?_ | refine AW.skip ?_ | refine AW.exit ?_ | refine AW.ret ?_ | refine AW.label ?_ | refine NX.then ?_ | refine NX.ret ?_ | refine NX.exit ?_ | refine NX.inRet ?_ | refine NX.inNormal ?_ | refine NX.inExit ?_ | refine NX.outExit (by decide) ?_))
    by_cases hxs : x.1 = s
    · rw [if_pos hxs] at FT
      refine AW.re ty (by kernel_rfl) (by first | exact cx_N _ _ _ | assumption) (by first | exact cx_pz _ _ _ | assumption) 220 (by decide) (fun K hK => ?_)
      (try simp only [List.toList_toArray, toList_lit]); repeat (with_reducible refine AR.step (fun K1 K2 hK1 hK2 => ?_); simp [hxs]; (first | refine hK1.out _ _ ?_ | refine hK2.out _ ?_ | refine ⟨by kernel_rfl, hK2.out _ ?_⟩); clear hK1 hK2 K1 K2; simp [hxs]); (try with_reducible refine AR.nil ?_)
      refine ⟨chk_text _ _, hK.out _ ?_⟩
      clear hK K
      with_reducible (repeat (first | refine AW.seq ?_ | refine AW.block ?_ | refine AW.skip ?_ | refine AW.exit ?_ | refine AW.ret ?_ | refine AW.label ?_ | refine NX.then ?_ | refine NX.ret ?_ | refine NX.exit ?_ | refine NX.inRet ?_ | refine NX.inNormal ?_ | refine NX.inExit ?_ | refine NX.outExit (by decide) ?_))
      refine AW.ct rfl ?_
      with_reducible (repeat (first | refine AW.seq ?_ | refine AW.block ?_ | refine AW.skip ?_ | refine AW.exit ?_ | refine AW.ret ?_ | refine AW.label ?_ | refine NX.then ?_ | refine NX.ret ?_ | refine NX.exit ?_ | refine NX.inRet ?_ | refine NX.inNormal ?_ | refine NX.inExit ?_ | refine NX.outExit (by decide) ?_))
      refine AW.re ty (by kernel_rfl) (by first | exact cx_N _ _ _ | assumption) (by first | exact cx_pz _ _ _ | assumption) 230 (by decide) (fun K hK => ?_)
      (try simp only [List.toList_toArray, toList_lit]); repeat (with_reducible refine AR.step (fun K1 K2 hK1 hK2 => ?_); simp; (first | refine hK1.out _ _ ?_ | refine hK2.out _ ?_ | refine ⟨by kernel_rfl, hK2.out _ ?_⟩); clear hK1 hK2 K1 K2; simp); (try with_reducible refine AR.nil ?_)
      refine AR.step (fun K1 K2 hK1 hK2 => ?_)
      simp
      refine ya_mk (by (simp [maxI]; omega)) ?_
      (try simp)
      refine hK1.out _ _ ?_
      clear hK1 hK2 K1 K2
      (try simp)
      (try simp only [List.toList_toArray, toList_lit]); repeat (with_reducible refine AR.step (fun K1 K2 hK1 hK2 => ?_); simp; (first | refine hK1.out _ _ ?_ | refine hK2.out _ ?_ | refine ⟨by kernel_rfl, hK2.out _ ?_⟩); clear hK1 hK2 K1 K2; simp); (try with_reducible refine AR.nil ?_)
      refine ⟨chk_text _ _, hK.out _ ?_⟩
      clear hK K
      with_reducible (repeat (first | refine AW.seq ?_ | refine AW.block ?_ | refine AW.skip ?_ | refine AW.exit ?_ | refine AW.ret ?_ | refine AW.label ?_ | refine NX.then ?_ | refine NX.ret ?_ | refine NX.exit ?_ | refine NX.inRet ?_ | refine NX.inNormal ?_ | refine NX.inExit ?_ | refine NX.outExit (by decide) ?_))
      refine AW.re ty (by kernel_rfl) (by first | exact cx_N _ _ _ | assumption) (by first | exact cx_pz _ _ _ | assumption) 250 (by decide) (fun K hK => ?_)
      (try simp only [List.toList_toArray, toList_lit]); repeat (with_reducible refine AR.step (fun K1 K2 hK1 hK2 => ?_); simp [w5]; (first | refine hK1.out _ _ ?_ | refine hK2.out _ ?_ | refine ⟨by kernel_rfl, hK2.out _ ?_⟩); clear hK1 hK2 K1 K2; simp [w5]); (try with_reducible refine AR.nil ?_)
      refine ⟨chk_text _ _, hK.out _ ?_⟩
      clear hK K
      with_reducible (repeat (first | refine AW.seq ?_ | refine AW.block ?_ | refine AW.skip ?_ | refine AW.exit ?_ | refine AW.ret ?_ | refine AW.label ?_ | refine NX.then ?_ | refine NX.ret ?_ | refine NX.exit ?_ | refine NX.inRet ?_ | refine NX.inNormal ?_ | refine NX.inExit ?_ | refine NX.outExit (by decide) ?_))
      exact NX.round ⟨k + 1, hgo⟩ (by show l.length - (k + 1) < l.length - k; omega) (fun _ _ h => AS.fold (fold_of (V := vw [] [(900, [234])] [] [(900, some 234)]) (by first | exact cx_pz _ _ _ | assumption) (by kernel_rfl) (by rfl) (by simp [rsS, FT, foks_nil, foks_cons, fok_tmp, fok_vt, fok_cell, fok_nm, fok_zn, fok_hd, fok_df, Fv_c, Fv_seg, Fv_tup, Fv_agg, Fv_ptr, Fv_ptrs, Fv_fn, Fv_fnd, Fv_own, Fv_ownd, Fv_nown, Fv_vown, FvL_nil, FvL_cons, kvp_av, hdp_some, subz, frz, Uz, Nm, Uh, vw_nb, vw_zo, vw_zf, vw_hb, tb_nil, tb_cons, fzc_nil, fzc_cons, fzcaps_nil, fzcaps_cons])) h)
    · rw [if_neg hxs, List.append_nil] at FT
      refine AW.re ty (by kernel_rfl) (by first | exact cx_N _ _ _ | assumption) (by first | exact cx_pz _ _ _ | assumption) 220 (by decide) (fun K hK => ?_)
      (try simp only [List.toList_toArray, toList_lit]); repeat (with_reducible refine AR.step (fun K1 K2 hK1 hK2 => ?_); simp [hxs]; (first | refine hK1.out _ _ ?_ | refine hK2.out _ ?_ | refine ⟨by kernel_rfl, hK2.out _ ?_⟩); clear hK1 hK2 K1 K2; simp [hxs]); (try with_reducible refine AR.nil ?_)
      refine ⟨chk_text _ _, hK.out _ ?_⟩
      clear hK K
      with_reducible (repeat (first | refine AW.seq ?_ | refine AW.block ?_ | refine AW.skip ?_ | refine AW.exit ?_ | refine AW.ret ?_ | refine AW.label ?_ | refine NX.then ?_ | refine NX.ret ?_ | refine NX.exit ?_ | refine NX.inRet ?_ | refine NX.inNormal ?_ | refine NX.inExit ?_ | refine NX.outExit (by decide) ?_))
      refine AW.cf rfl ?_
      with_reducible (repeat (first | refine AW.seq ?_ | refine AW.block ?_ | refine AW.skip ?_ | refine AW.exit ?_ | refine AW.ret ?_ | refine AW.label ?_ | refine NX.then ?_ | refine NX.ret ?_ | refine NX.exit ?_ | refine NX.inRet ?_ | refine NX.inNormal ?_ | refine NX.inExit ?_ | refine NX.outExit (by decide) ?_))
      refine AW.re ty (by kernel_rfl) (by first | exact cx_N _ _ _ | assumption) (by first | exact cx_pz _ _ _ | assumption) 250 (by decide) (fun K hK => ?_)
      (try simp only [List.toList_toArray, toList_lit]); repeat (with_reducible refine AR.step (fun K1 K2 hK1 hK2 => ?_); simp [w5]; (first | refine hK1.out _ _ ?_ | refine hK2.out _ ?_ | refine ⟨by kernel_rfl, hK2.out _ ?_⟩); clear hK1 hK2 K1 K2; simp [w5]); (try with_reducible refine AR.nil ?_)
      refine ⟨chk_text _ _, hK.out _ ?_⟩
      clear hK K
      with_reducible (repeat (first | refine AW.seq ?_ | refine AW.block ?_ | refine AW.skip ?_ | refine AW.exit ?_ | refine AW.ret ?_ | refine AW.label ?_ | refine NX.then ?_ | refine NX.ret ?_ | refine NX.exit ?_ | refine NX.inRet ?_ | refine NX.inNormal ?_ | refine NX.inExit ?_ | refine NX.outExit (by decide) ?_))
      exact NX.round ⟨k + 1, hgo⟩ (by show l.length - (k + 1) < l.length - k; omega) (fun _ _ h => AS.fold (fold_of (V := vw [] [] [] []) (by first | exact cx_pz _ _ _ | assumption) (by kernel_rfl) (by rfl) (by simp [rsS, FT, foks_nil, foks_cons, fok_tmp, fok_vt, fok_cell, fok_nm, fok_zn, fok_hd, fok_df, Fv_c, Fv_seg, Fv_tup, Fv_agg, Fv_ptr, Fv_ptrs, Fv_fn, Fv_fnd, Fv_own, Fv_ownd, Fv_nown, Fv_vown, FvL_nil, FvL_cons, kvp_av, hdp_some, subz, frz, Uz, Nm, Uh, vw_nb, vw_zo, vw_zf, vw_hb, tb_nil, tb_cons, fzc_nil, fzc_cons, fzcaps_nil, fzcaps_cons])) h)
  · obtain rfl : k = l.length := by omega
    generalize rsR l s l.length = R
    refine AW.re ty (by kernel_rfl) (by first | exact cx_N _ _ _ | assumption) (by first | exact cx_pz _ _ _ | assumption) 300 (by decide) (fun K hK => ?_)
    (try simp only [List.toList_toArray, toList_lit]); repeat (with_reducible refine AR.step (fun K1 K2 hK1 hK2 => ?_); simp; (first | refine hK1.out _ _ ?_ | refine hK2.out _ ?_ | refine ⟨by kernel_rfl, hK2.out _ ?_⟩); clear hK1 hK2 K1 K2; simp); (try with_reducible refine AR.nil ?_)
    refine ⟨chk_text _ _, hK.out _ ?_⟩
    clear hK K
    with_reducible (repeat (first | refine AW.seq ?_ | refine AW.block ?_ | refine AW.skip ?_ | refine AW.exit ?_ | refine AW.ret ?_ | refine AW.label ?_ | refine NX.then ?_ | refine NX.ret ?_ | refine NX.exit ?_ | refine NX.inRet ?_ | refine NX.inNormal ?_ | refine NX.inExit ?_ | refine NX.outExit (by decide) ?_))
    refine AW.cf rfl ?_
    with_reducible (repeat (first | refine AW.seq ?_ | refine AW.block ?_ | refine AW.skip ?_ | refine AW.exit ?_ | refine AW.ret ?_ | refine AW.label ?_ | refine NX.then ?_ | refine NX.ret ?_ | refine NX.exit ?_ | refine NX.inRet ?_ | refine NX.inNormal ?_ | refine NX.inExit ?_ | refine NX.outExit (by decide) ?_))
    refine AW.re ty (by kernel_rfl) (by first | exact cx_N _ _ _ | assumption) (by first | exact cx_pz _ _ _ | assumption) 310 (by decide) (fun K hK => ?_)
    (try simp only [List.toList_toArray, toList_lit]); repeat (with_reducible refine AR.step (fun K1 K2 hK1 hK2 => ?_); simp; (first | refine hK1.out _ _ ?_ | refine hK2.out _ ?_ | refine ⟨by kernel_rfl, hK2.out _ ?_⟩); clear hK1 hK2 K1 K2; simp); (try with_reducible refine AR.nil ?_)
    refine ⟨chk_text _ _, hK.out _ ?_⟩
    clear hK K
    with_reducible (repeat (first | refine AW.seq ?_ | refine AW.block ?_ | refine AW.skip ?_ | refine AW.exit ?_ | refine AW.ret ?_ | refine AW.label ?_ | refine NX.then ?_ | refine NX.ret ?_ | refine NX.exit ?_ | refine NX.inRet ?_ | refine NX.inNormal ?_ | refine NX.inExit ?_ | refine NX.outExit (by decide) ?_))
    exact nx_reto (t := 4) (n := 900) (y := 900) (zs := []) (rr := [(.zn 900, .zn .live)]) (.inr rfl) rfl (by kernel_rfl) (by kernel_rfl) (by kernel_rfl) (by simp) rfl
def rfR (l : List Pr) (k : Nat) : List Int := Go.Lib.compactUpTo (l.map fun p => p.1).toArray k
theorem rfR_len (l : List Pr) (k : Nat) : (rfR l k).length ≤ k := by
  unfold rfR Go.Lib.compactUpTo
  rw [List.length_map]
  refine Nat.le_trans (List.length_filter_le _ _) ?_
  simp
theorem rfR_0 (l : List Pr) {x : Pr} (h : 0 < l.length) (hx : l[0] = x) : rfR l 1 = rfR l 0 ++ [x.1] := by
  unfold rfR
  rw [Go.Lib.compactUpTo_succ, Go.Lib.keeps_lt_one _ 0 (by omega)]
  simp [h, hx]
theorem rfR_s (l : List Pr) {k : Nat} {x y : Pr} (h : k < l.length) (hk : k ≠ 0) (hx : l[k] = x) (hy : l[k - 1] = y) : rfR l (k + 1) = rfR l k ++ (if y.1 = x.1 then [] else [x.1]) := by
  unfold rfR
  rw [Go.Lib.compactUpTo_succ]
  congr 1
  have e1 : (l.map fun p => p.1).toArray[k]! = x.1 := by simp [h, hx]
  have e2 : (l.map fun p => p.1).toArray[k - 1]! = y.1 := by simp [show k - 1 < l.length by omega, hy]
  unfold Go.Lib.keeps
  rw [e1, e2]
  by_cases e : y.1 = x.1
  · simp [e, hk]
  · have : ¬ x.1 = y.1 := fun q => e q.symm
    simp [e, this]
def rfS (l : List Pr) (k : Nat) : Row := [(.zn 0, .zn .live), (.zn 900, .zn .live), (.hd 900, .hd (.own 50 1 900 [] ((rfR l k).map uD))), (.tmp 0, .av (.c [0] (RD l))),
  (.tmp 3, .av (.own 900)), (.tmp 6, .av (.c [0] (RD l))), (.tmp 7, .av (.c [] (.v (.int .i64 l.length)))), (.tmp 8, .av (.c [] (.v (.int .i64 k))))]
set_option maxHeartbeats 4000000 in
theorem rfirsts_ct (l : List Pr) (hn : l.length ≤ 1000000) : Ct Try.prog 74 [.c (RD l)] (some 50) (.one (.c (UD (firL l)))) := by
  refine ct_intro Try.func74 rfl Try.ntmps74 (by simp) (fun W0 Z => ?_)
  with_reducible (repeat (first | refine AW.seq ?_ | refine AW.block ?_ | refine AW.skip ?_ | refine AW.exit ?_ | refine AW.ret ?_ | refine AW.label ?_ | refine NX.then ?_ | refine NX.ret ?_ | refine NX.exit ?_ | refine NX.inRet ?_ | refine NX.inNormal ?_ | refine NX.inExit ?_ | refine NX.outExit (by decide) ?_))
  refine AW.at_ (fun L hL => ?_)
  simp at hL
  subst hL
  refine AW.re ty (by kernel_rfl) (by first | exact cx_N _ _ _ | assumption) (by first | exact cx_pz _ _ _ | assumption) 1 (by decide) (fun K hK => ?_)
  (try simp only [List.toList_toArray, toList_lit]); repeat (with_reducible refine AR.step (fun K1 K2 hK1 hK2 => ?_); simp; (first | refine hK1.out _ _ ?_ | refine hK2.out _ ?_ | refine ⟨by kernel_rfl, hK2.out _ ?_⟩); clear hK1 hK2 K1 K2; simp); (try with_reducible refine AR.nil ?_)
  refine ⟨chk_text _ _, hK.out _ ?_⟩
  clear hK K
  with_reducible (repeat (first | refine AW.seq ?_ | refine AW.block ?_ | refine AW.skip ?_ | refine AW.exit ?_ | refine AW.ret ?_ | refine AW.label ?_ | refine NX.then ?_ | refine NX.ret ?_ | refine NX.exit ?_ | refine NX.inRet ?_ | refine NX.inNormal ?_ | refine NX.inExit ?_ | refine NX.outExit (by decide) ?_))
  refine AW.re ty (by kernel_rfl) (by first | exact cx_N _ _ _ | assumption) (by first | exact cx_pz _ _ _ | assumption) 10 (by decide) (fun K hK => ?_)
  (try simp only [List.toList_toArray, toList_lit]); repeat (with_reducible refine AR.step (fun K1 K2 hK1 hK2 => ?_); simp; (first | refine hK1.out _ _ ?_ | refine hK2.out _ ?_ | refine ⟨by kernel_rfl, hK2.out _ ?_⟩); clear hK1 hK2 K1 K2; simp); (try with_reducible refine AR.nil ?_)
  refine ⟨chk_text _ _, hK.out _ ?_⟩
  clear hK K
  with_reducible (repeat (first | refine AW.seq ?_ | refine AW.block ?_ | refine AW.skip ?_ | refine AW.exit ?_ | refine AW.ret ?_ | refine AW.label ?_ | refine NX.then ?_ | refine NX.ret ?_ | refine NX.exit ?_ | refine NX.inRet ?_ | refine NX.inNormal ?_ | refine NX.inExit ?_ | refine NX.outExit (by decide) ?_))
  refine AW.re ty (by kernel_rfl) (by first | exact cx_N _ _ _ | assumption) (by first | exact cx_pz _ _ _ | assumption) 20 (by decide) (fun K hK => ?_)
  (try simp only [List.toList_toArray, toList_lit]); repeat (with_reducible refine AR.step (fun K1 K2 hK1 hK2 => ?_); simp; (first | refine hK1.out _ _ ?_ | refine hK2.out _ ?_ | refine ⟨by kernel_rfl, hK2.out _ ?_⟩); clear hK1 hK2 K1 K2; simp); (try with_reducible refine AR.nil ?_)
  refine ⟨chk_text _ _, hK.out _ ?_⟩
  clear hK K
  with_reducible (repeat (first | refine AW.seq ?_ | refine AW.block ?_ | refine AW.skip ?_ | refine AW.exit ?_ | refine AW.ret ?_ | refine AW.label ?_ | refine NX.then ?_ | refine NX.ret ?_ | refine NX.exit ?_ | refine NX.inRet ?_ | refine NX.inNormal ?_ | refine NX.inExit ?_ | refine NX.outExit (by decide) ?_))
  refine AW.loop (X := { k : Nat // k ≤ l.length }) (fun x => rfS l x.1) (fun x => l.length - x.1) ⟨0, by simp⟩ (fun _ _ h => AS.fold (fold_of (V := vw [] [(900, [])] [] [(900, none)]) (by first | exact cx_pz _ _ _ | assumption) (by kernel_rfl) (by rfl) (by simp [rfS, rfR, Go.Lib.compactUpTo, foks_nil, foks_cons, fok_tmp, fok_vt, fok_cell, fok_nm, fok_zn, fok_hd, fok_df, Fv_c, Fv_seg, Fv_tup, Fv_agg, Fv_ptr, Fv_ptrs, Fv_fn, Fv_fnd, Fv_own, Fv_ownd, Fv_nown, Fv_vown, FvL_nil, FvL_cons, kvp_av, hdp_some, subz, frz, Uz, Nm, Uh, vw_nb, vw_zo, vw_zf, vw_hb, tb_nil, tb_cons, fzc_nil, fzc_cons, fzcaps_nil, fzcaps_cons])) h) (fun x => ?_)
  obtain ⟨k, hk⟩ := x
  refine AW.at_ (fun L hL => ?_)
  simp [rfS] at hL
  subst hL
  with_reducible (repeat (first | refine AW.seq ?_ | refine AW.block ?_ | refine AW.skip ?_ | refine AW.exit ?_ | refine AW.ret ?_ | refine AW.label ?_ | refine NX.then ?_ | refine NX.ret ?_ | refine NX.exit ?_ | refine NX.inRet ?_ | refine NX.inNormal ?_ | refine NX.inExit ?_ | refine NX.outExit (by decide) ?_))
  by_cases hgo : k < l.length
  · have w5 : IntKind.i64.wrap ((k : Int) + 1) = ((k + 1 : Nat) : Int) := by rw [i64_ok _ (by omega) (by omega)]; omega
    obtain ⟨x, hx⟩ : ∃ x, l[k] = x := ⟨_, rfl⟩
    have FL := rfR_len l k
    by_cases hk0 : k = 0
    · have hk0i : (k : Int) = 0 := by omega
      have w5 : IntKind.i64.wrap 1 = ((k + 1 : Nat) : Int) := by rw [i64_ok _ (by omega) (by omega)]; omega
      have FT : rfR l (k + 1) = rfR l k ++ [x.1] := by subst hk0; exact rfR_0 l hgo hx
      generalize rfR l k = R at *
      refine AW.re ty (by kernel_rfl) (by first | exact cx_N _ _ _ | assumption) (by first | exact cx_pz _ _ _ | assumption) 200 (by decide) (fun K hK => ?_)
      (try simp only [List.toList_toArray, toList_lit]); repeat (with_reducible refine AR.step (fun K1 K2 hK1 hK2 => ?_); simp [hgo]; (first | refine hK1.out _ _ ?_ | refine hK2.out _ ?_ | refine ⟨by kernel_rfl, hK2.out _ ?_⟩); clear hK1 hK2 K1 K2; simp [hgo]); (try with_reducible refine AR.nil ?_)
      refine ⟨chk_text _ _, hK.out _ ?_⟩
      clear hK K
      with_reducible (repeat (first | refine AW.seq ?_ | refine AW.block ?_ | refine AW.skip ?_ | refine AW.exit ?_ | refine AW.ret ?_ | refine AW.label ?_ | refine NX.then ?_ | refine NX.ret ?_ | refine NX.exit ?_ | refine NX.inRet ?_ | refine NX.inNormal ?_ | refine NX.inExit ?_ | refine NX.outExit (by decide) ?_))
      refine AW.ct rfl ?_
      with_reducible (repeat (first | refine AW.seq ?_ | refine AW.block ?_ | refine AW.skip ?_ | refine AW.exit ?_ | refine AW.ret ?_ | refine AW.label ?_ | refine NX.then ?_ | refine NX.ret ?_ | refine NX.exit ?_ | refine NX.inRet ?_ | refine NX.inNormal ?_ | refine NX.inExit ?_ | refine NX.outExit (by decide) ?_))
      refine AW.re ty (by kernel_rfl) (by first | exact cx_N _ _ _ | assumption) (by first | exact cx_pz _ _ _ | assumption) 210 (by decide) (fun K hK => ?_)
      (try simp only [List.toList_toArray, toList_lit]); repeat (with_reducible refine AR.step (fun K1 K2 hK1 hK2 => ?_); simp [hgo]; (first | refine hK1.out _ _ ?_ | refine hK2.out _ ?_ | refine ⟨by kernel_rfl, hK2.out _ ?_⟩); clear hK1 hK2 K1 K2; simp [hgo]); (try with_reducible refine AR.nil ?_)
      refine AR.step (fun K1 K2 hK1 hK2 => ?_)
      simp [hgo]
      refine ⟨k, PD x, rfl, by simp [hgo, hx], ?_⟩
      refine hK1.out _ _ ?_
      clear hK1 hK2 K1 K2
      (try simp [hgo])
      (try simp only [List.toList_toArray, toList_lit]); repeat (with_reducible refine AR.step (fun K1 K2 hK1 hK2 => ?_); simp [hgo]; (first | refine hK1.out _ _ ?_ | refine hK2.out _ ?_ | refine ⟨by kernel_rfl, hK2.out _ ?_⟩); clear hK1 hK2 K1 K2; simp [hgo]); (try with_reducible refine AR.nil ?_)
      refine ⟨chk_text _ _, hK.out _ ?_⟩
      clear hK K
      with_reducible (repeat (first | refine AW.seq ?_ | refine AW.block ?_ | refine AW.skip ?_ | refine AW.exit ?_ | refine AW.ret ?_ | refine AW.label ?_ | refine NX.then ?_ | refine NX.ret ?_ | refine NX.exit ?_ | refine NX.inRet ?_ | refine NX.inNormal ?_ | refine NX.inExit ?_ | refine NX.outExit (by decide) ?_))
      refine AW.re ty (by kernel_rfl) (by first | exact cx_N _ _ _ | assumption) (by first | exact cx_pz _ _ _ | assumption) 220 (by decide) (fun K hK => ?_)
      (try simp only [List.toList_toArray, toList_lit]); repeat (with_reducible refine AR.step (fun K1 K2 hK1 hK2 => ?_); simp [hk0i]; (first | refine hK1.out _ _ ?_ | refine hK2.out _ ?_ | refine ⟨by kernel_rfl, hK2.out _ ?_⟩); clear hK1 hK2 K1 K2; simp [hk0i]); (try with_reducible refine AR.nil ?_)
      refine ⟨chk_drawn (by kernel_rfl) (by kernel_rfl), hK.out _ ?_⟩
      clear hK K
      with_reducible (repeat (first | refine AW.seq ?_ | refine AW.block ?_ | refine AW.skip ?_ | refine AW.exit ?_ | refine AW.ret ?_ | refine AW.label ?_ | refine NX.then ?_ | refine NX.ret ?_ | refine NX.exit ?_ | refine NX.inRet ?_ | refine NX.inNormal ?_ | refine NX.inExit ?_ | refine NX.outExit (by decide) ?_))
      refine AW.ct rfl ?_
      with_reducible (repeat (first | refine AW.seq ?_ | refine AW.block ?_ | refine AW.skip ?_ | refine AW.exit ?_ | refine AW.ret ?_ | refine AW.label ?_ | refine NX.then ?_ | refine NX.ret ?_ | refine NX.exit ?_ | refine NX.inRet ?_ | refine NX.inNormal ?_ | refine NX.inExit ?_ | refine NX.outExit (by decide) ?_))
      refine AW.re ty (by kernel_rfl) (by first | exact cx_N _ _ _ | assumption) (by first | exact cx_pz _ _ _ | assumption) 240 (by decide) (fun K hK => ?_)
      (try simp only [List.toList_toArray, toList_lit]); repeat (with_reducible refine AR.step (fun K1 K2 hK1 hK2 => ?_); simp; (first | refine hK1.out _ _ ?_ | refine hK2.out _ ?_ | refine ⟨by kernel_rfl, hK2.out _ ?_⟩); clear hK1 hK2 K1 K2; simp); (try with_reducible refine AR.nil ?_)
      refine AR.step (fun K1 K2 hK1 hK2 => ?_)
      simp
      refine ya_mk (by (simp [maxI]; omega)) ?_
      (try simp)
      refine hK1.out _ _ ?_
      clear hK1 hK2 K1 K2
      (try simp)
      (try simp only [List.toList_toArray, toList_lit]); repeat (with_reducible refine AR.step (fun K1 K2 hK1 hK2 => ?_); simp; (first | refine hK1.out _ _ ?_ | refine hK2.out _ ?_ | refine ⟨by kernel_rfl, hK2.out _ ?_⟩); clear hK1 hK2 K1 K2; simp); (try with_reducible refine AR.nil ?_)
      refine ⟨chk_text _ _, hK.out _ ?_⟩
      clear hK K
      with_reducible (repeat (first | refine AW.seq ?_ | refine AW.block ?_ | refine AW.skip ?_ | refine AW.exit ?_ | refine AW.ret ?_ | refine AW.label ?_ | refine NX.then ?_ | refine NX.ret ?_ | refine NX.exit ?_ | refine NX.inRet ?_ | refine NX.inNormal ?_ | refine NX.inExit ?_ | refine NX.outExit (by decide) ?_))
      refine AW.re ty (by kernel_rfl) (by first | exact cx_N _ _ _ | assumption) (by first | exact cx_pz _ _ _ | assumption) 260 (by decide) (fun K hK => ?_)
      (try simp only [List.toList_toArray, toList_lit]); repeat (with_reducible refine AR.step (fun K1 K2 hK1 hK2 => ?_); simp [w5]; (first | refine hK1.out _ _ ?_ | refine hK2.out _ ?_ | refine ⟨by kernel_rfl, hK2.out _ ?_⟩); clear hK1 hK2 K1 K2; simp [w5]); (try with_reducible refine AR.nil ?_)
      refine ⟨chk_text _ _, hK.out _ ?_⟩
      clear hK K
      with_reducible (repeat (first | refine AW.seq ?_ | refine AW.block ?_ | refine AW.skip ?_ | refine AW.exit ?_ | refine AW.ret ?_ | refine AW.label ?_ | refine NX.then ?_ | refine NX.ret ?_ | refine NX.exit ?_ | refine NX.inRet ?_ | refine NX.inNormal ?_ | refine NX.inExit ?_ | refine NX.outExit (by decide) ?_))
      exact NX.round ⟨k + 1, hgo⟩ (by show l.length - (k + 1) < l.length - k; omega) (fun _ _ h => AS.fold (fold_of (V := vw [] [(900, [244])] [] [(900, some 244)]) (by first | exact cx_pz _ _ _ | assumption) (by kernel_rfl) (by rfl) (by simp [rfS, FT, foks_nil, foks_cons, fok_tmp, fok_vt, fok_cell, fok_nm, fok_zn, fok_hd, fok_df, Fv_c, Fv_seg, Fv_tup, Fv_agg, Fv_ptr, Fv_ptrs, Fv_fn, Fv_fnd, Fv_own, Fv_ownd, Fv_nown, Fv_vown, FvL_nil, FvL_cons, kvp_av, hdp_some, subz, frz, Uz, Nm, Uh, vw_nb, vw_zo, vw_zf, vw_hb, tb_nil, tb_cons, fzc_nil, fzc_cons, fzcaps_nil, fzcaps_cons])) h)
    · have hk0i : ¬ (k : Int) = 0 := by omega
      have w6 : IntKind.i64.wrap ((k : Int) - 1) = ((k - 1 : Nat) : Int) := by rw [i64_ok _ (by omega) (by omega)]; omega
      obtain ⟨y, hy⟩ : ∃ y, l[k - 1] = y := ⟨_, rfl⟩
      have FT := rfR_s l hgo hk0 hx hy
      have hlt : k - 1 < l.length := by omega
      generalize rfR l k = R at *
      refine AW.re ty (by kernel_rfl) (by first | exact cx_N _ _ _ | assumption) (by first | exact cx_pz _ _ _ | assumption) 200 (by decide) (fun K hK => ?_)
      (try simp only [List.toList_toArray, toList_lit]); repeat (with_reducible refine AR.step (fun K1 K2 hK1 hK2 => ?_); simp [hgo]; (first | refine hK1.out _ _ ?_ | refine hK2.out _ ?_ | refine ⟨by kernel_rfl, hK2.out _ ?_⟩); clear hK1 hK2 K1 K2; simp [hgo]); (try with_reducible refine AR.nil ?_)
      refine ⟨chk_text _ _, hK.out _ ?_⟩
      clear hK K
      with_reducible (repeat (first | refine AW.seq ?_ | refine AW.block ?_ | refine AW.skip ?_ | refine AW.exit ?_ | refine AW.ret ?_ | refine AW.label ?_ | refine NX.then ?_ | refine NX.ret ?_ | refine NX.exit ?_ | refine NX.inRet ?_ | refine NX.inNormal ?_ | refine NX.inExit ?_ | refine NX.outExit (by decide) ?_))
      refine AW.ct rfl ?_
      with_reducible (repeat (first | refine AW.seq ?_ | refine AW.block ?_ | refine AW.skip ?_ | refine AW.exit ?_ | refine AW.ret ?_ | refine AW.label ?_ | refine NX.then ?_ | refine NX.ret ?_ | refine NX.exit ?_ | refine NX.inRet ?_ | refine NX.inNormal ?_ | refine NX.inExit ?_ | refine NX.outExit (by decide) ?_))
      refine AW.re ty (by kernel_rfl) (by first | exact cx_N _ _ _ | assumption) (by first | exact cx_pz _ _ _ | assumption) 210 (by decide) (fun K hK => ?_)
      (try simp only [List.toList_toArray, toList_lit]); repeat (with_reducible refine AR.step (fun K1 K2 hK1 hK2 => ?_); simp [hgo]; (first | refine hK1.out _ _ ?_ | refine hK2.out _ ?_ | refine ⟨by kernel_rfl, hK2.out _ ?_⟩); clear hK1 hK2 K1 K2; simp [hgo]); (try with_reducible refine AR.nil ?_)
      refine AR.step (fun K1 K2 hK1 hK2 => ?_)
      simp [hgo]
      refine ⟨k, PD x, rfl, by simp [hgo, hx], ?_⟩
      refine hK1.out _ _ ?_
      clear hK1 hK2 K1 K2
      (try simp [hgo])
      (try simp only [List.toList_toArray, toList_lit]); repeat (with_reducible refine AR.step (fun K1 K2 hK1 hK2 => ?_); simp [hgo]; (first | refine hK1.out _ _ ?_ | refine hK2.out _ ?_ | refine ⟨by kernel_rfl, hK2.out _ ?_⟩); clear hK1 hK2 K1 K2; simp [hgo]); (try with_reducible refine AR.nil ?_)
      refine ⟨chk_text _ _, hK.out _ ?_⟩
      clear hK K
      with_reducible (repeat (first | refine AW.seq ?_ | refine AW.block ?_ | refine AW.skip ?_ | refine AW.exit ?_ | refine AW.ret ?_ | refine AW.label ?_ | refine NX.then ?_ | refine NX.ret ?_ | refine NX.exit ?_ | refine NX.inRet ?_ | refine NX.inNormal ?_ | refine NX.inExit ?_ | refine NX.outExit (by decide) ?_))
      by_cases hxy : y.1 = x.1
      · rw [if_pos hxy, List.append_nil] at FT
        refine AW.re ty (by kernel_rfl) (by first | exact cx_N _ _ _ | assumption) (by first | exact cx_pz _ _ _ | assumption) 220 (by decide) (fun K hK => ?_)
        (try simp only [List.toList_toArray, toList_lit]); repeat (with_reducible refine AR.step (fun K1 K2 hK1 hK2 => ?_); simp [hk0, hk0i, w6, hxy]; (first | refine hK1.out _ _ ?_ | refine hK2.out _ ?_ | refine ⟨by kernel_rfl, hK2.out _ ?_⟩); clear hK1 hK2 K1 K2; simp [hk0, hk0i, w6, hxy]); (try with_reducible refine AR.nil ?_)
        refine AR.step (fun K1 K2 hK1 hK2 => ?_)
        simp [hk0, hk0i, w6, hxy]
        refine ⟨k - 1, PD y, rfl, by simp [hlt, hy], ?_⟩
        refine hK1.out _ _ ?_
        clear hK1 hK2 K1 K2
        (try simp [hk0, hk0i, w6, hxy])
        (try simp only [List.toList_toArray, toList_lit]); repeat (with_reducible refine AR.step (fun K1 K2 hK1 hK2 => ?_); simp [hk0, hk0i, w6, hxy]; (first | refine hK1.out _ _ ?_ | refine hK2.out _ ?_ | refine ⟨by kernel_rfl, hK2.out _ ?_⟩); clear hK1 hK2 K1 K2; simp [hk0, hk0i, w6, hxy]); (try with_reducible refine AR.nil ?_)
        refine ⟨chk_drawn (by kernel_rfl) (by kernel_rfl), hK.out _ ?_⟩
        clear hK K
        with_reducible (repeat (first | refine AW.seq ?_ | refine AW.block ?_ | refine AW.skip ?_ | refine AW.exit ?_ | refine AW.ret ?_ | refine AW.label ?_ | refine NX.then ?_ | refine NX.ret ?_ | refine NX.exit ?_ | refine NX.inRet ?_ | refine NX.inNormal ?_ | refine NX.inExit ?_ | refine NX.outExit (by decide) ?_))
        refine AW.cf rfl ?_
        with_reducible (repeat (first | refine AW.seq ?_ | refine AW.block ?_ | refine AW.skip ?_ | refine AW.exit ?_ | refine AW.ret ?_ | refine AW.label ?_ | refine NX.then ?_ | refine NX.ret ?_ | refine NX.exit ?_ | refine NX.inRet ?_ | refine NX.inNormal ?_ | refine NX.inExit ?_ | refine NX.outExit (by decide) ?_))
        refine AW.re ty (by kernel_rfl) (by first | exact cx_N _ _ _ | assumption) (by first | exact cx_pz _ _ _ | assumption) 260 (by decide) (fun K hK => ?_)
        (try simp only [List.toList_toArray, toList_lit]); repeat (with_reducible refine AR.step (fun K1 K2 hK1 hK2 => ?_); simp [w5]; (first | refine hK1.out _ _ ?_ | refine hK2.out _ ?_ | refine ⟨by kernel_rfl, hK2.out _ ?_⟩); clear hK1 hK2 K1 K2; simp [w5]); (try with_reducible refine AR.nil ?_)
        refine ⟨chk_text _ _, hK.out _ ?_⟩
        clear hK K
        with_reducible (repeat (first | refine AW.seq ?_ | refine AW.block ?_ | refine AW.skip ?_ | refine AW.exit ?_ | refine AW.ret ?_ | refine AW.label ?_ | refine NX.then ?_ | refine NX.ret ?_ | refine NX.exit ?_ | refine NX.inRet ?_ | refine NX.inNormal ?_ | refine NX.inExit ?_ | refine NX.outExit (by decide) ?_))
        exact NX.round ⟨k + 1, hgo⟩ (by show l.length - (k + 1) < l.length - k; omega) (fun _ _ h => AS.fold (fold_of (V := vw [] [] [] []) (by first | exact cx_pz _ _ _ | assumption) (by kernel_rfl) (by rfl) (by simp [rfS, FT, foks_nil, foks_cons, fok_tmp, fok_vt, fok_cell, fok_nm, fok_zn, fok_hd, fok_df, Fv_c, Fv_seg, Fv_tup, Fv_agg, Fv_ptr, Fv_ptrs, Fv_fn, Fv_fnd, Fv_own, Fv_ownd, Fv_nown, Fv_vown, FvL_nil, FvL_cons, kvp_av, hdp_some, subz, frz, Uz, Nm, Uh, vw_nb, vw_zo, vw_zf, vw_hb, tb_nil, tb_cons, fzc_nil, fzc_cons, fzcaps_nil, fzcaps_cons])) h)
      · rw [if_neg hxy] at FT
        refine AW.re ty (by kernel_rfl) (by first | exact cx_N _ _ _ | assumption) (by first | exact cx_pz _ _ _ | assumption) 220 (by decide) (fun K hK => ?_)
        (try simp only [List.toList_toArray, toList_lit]); repeat (with_reducible refine AR.step (fun K1 K2 hK1 hK2 => ?_); simp [hk0, hk0i, w6, hxy]; (first | refine hK1.out _ _ ?_ | refine hK2.out _ ?_ | refine ⟨by kernel_rfl, hK2.out _ ?_⟩); clear hK1 hK2 K1 K2; simp [hk0, hk0i, w6, hxy]); (try with_reducible refine AR.nil ?_)
        refine AR.step (fun K1 K2 hK1 hK2 => ?_)
        simp [hk0, hk0i, w6, hxy]
        refine ⟨k - 1, PD y, rfl, by simp [hlt, hy], ?_⟩
        refine hK1.out _ _ ?_
        clear hK1 hK2 K1 K2
        (try simp [hk0, hk0i, w6, hxy])
        (try simp only [List.toList_toArray, toList_lit]); repeat (with_reducible refine AR.step (fun K1 K2 hK1 hK2 => ?_); simp [hk0, hk0i, w6, hxy]; (first | refine hK1.out _ _ ?_ | refine hK2.out _ ?_ | refine ⟨by kernel_rfl, hK2.out _ ?_⟩); clear hK1 hK2 K1 K2; simp [hk0, hk0i, w6, hxy]); (try with_reducible refine AR.nil ?_)
        refine ⟨chk_drawn (by kernel_rfl) (by kernel_rfl), hK.out _ ?_⟩
        clear hK K
        with_reducible (repeat (first | refine AW.seq ?_ | refine AW.block ?_ | refine AW.skip ?_ | refine AW.exit ?_ | refine AW.ret ?_ | refine AW.label ?_ | refine NX.then ?_ | refine NX.ret ?_ | refine NX.exit ?_ | refine NX.inRet ?_ | refine NX.inNormal ?_ | refine NX.inExit ?_ | refine NX.outExit (by decide) ?_))
        refine AW.ct rfl ?_
        with_reducible (repeat (first | refine AW.seq ?_ | refine AW.block ?_ | refine AW.skip ?_ | refine AW.exit ?_ | refine AW.ret ?_ | refine AW.label ?_ | refine NX.then ?_ | refine NX.ret ?_ | refine NX.exit ?_ | refine NX.inRet ?_ | refine NX.inNormal ?_ | refine NX.inExit ?_ | refine NX.outExit (by decide) ?_))
        refine AW.re ty (by kernel_rfl) (by first | exact cx_N _ _ _ | assumption) (by first | exact cx_pz _ _ _ | assumption) 240 (by decide) (fun K hK => ?_)
        (try simp only [List.toList_toArray, toList_lit]); repeat (with_reducible refine AR.step (fun K1 K2 hK1 hK2 => ?_); simp; (first | refine hK1.out _ _ ?_ | refine hK2.out _ ?_ | refine ⟨by kernel_rfl, hK2.out _ ?_⟩); clear hK1 hK2 K1 K2; simp); (try with_reducible refine AR.nil ?_)
        refine AR.step (fun K1 K2 hK1 hK2 => ?_)
        simp
        refine ya_mk (by (simp [maxI]; omega)) ?_
        (try simp)
        refine hK1.out _ _ ?_
        clear hK1 hK2 K1 K2
        (try simp)
        (try simp only [List.toList_toArray, toList_lit]); repeat (with_reducible refine AR.step (fun K1 K2 hK1 hK2 => ?_); simp; (first | refine hK1.out _ _ ?_ | refine hK2.out _ ?_ | refine ⟨by kernel_rfl, hK2.out _ ?_⟩); clear hK1 hK2 K1 K2; simp); (try with_reducible refine AR.nil ?_)
        refine ⟨chk_text _ _, hK.out _ ?_⟩
        clear hK K
        with_reducible (repeat (first | refine AW.seq ?_ | refine AW.block ?_ | refine AW.skip ?_ | refine AW.exit ?_ | refine AW.ret ?_ | refine AW.label ?_ | refine NX.then ?_ | refine NX.ret ?_ | refine NX.exit ?_ | refine NX.inRet ?_ | refine NX.inNormal ?_ | refine NX.inExit ?_ | refine NX.outExit (by decide) ?_))
        refine AW.re ty (by kernel_rfl) (by first | exact cx_N _ _ _ | assumption) (by first | exact cx_pz _ _ _ | assumption) 260 (by decide) (fun K hK => ?_)
        (try simp only [List.toList_toArray, toList_lit]); repeat (with_reducible refine AR.step (fun K1 K2 hK1 hK2 => ?_); simp [w5]; (first | refine hK1.out _ _ ?_ | refine hK2.out _ ?_ | refine ⟨by kernel_rfl, hK2.out _ ?_⟩); clear hK1 hK2 K1 K2; simp [w5]); (try with_reducible refine AR.nil ?_)
        refine ⟨chk_text _ _, hK.out _ ?_⟩
        clear hK K
        with_reducible (repeat (first | refine AW.seq ?_ | refine AW.block ?_ | refine AW.skip ?_ | refine AW.exit ?_ | refine AW.ret ?_ | refine AW.label ?_ | refine NX.then ?_ | refine NX.ret ?_ | refine NX.exit ?_ | refine NX.inRet ?_ | refine NX.inNormal ?_ | refine NX.inExit ?_ | refine NX.outExit (by decide) ?_))
        exact NX.round ⟨k + 1, hgo⟩ (by show l.length - (k + 1) < l.length - k; omega) (fun _ _ h => AS.fold (fold_of (V := vw [] [(900, [244])] [] [(900, some 244)]) (by first | exact cx_pz _ _ _ | assumption) (by kernel_rfl) (by rfl) (by simp [rfS, FT, foks_nil, foks_cons, fok_tmp, fok_vt, fok_cell, fok_nm, fok_zn, fok_hd, fok_df, Fv_c, Fv_seg, Fv_tup, Fv_agg, Fv_ptr, Fv_ptrs, Fv_fn, Fv_fnd, Fv_own, Fv_ownd, Fv_nown, Fv_vown, FvL_nil, FvL_cons, kvp_av, hdp_some, subz, frz, Uz, Nm, Uh, vw_nb, vw_zo, vw_zf, vw_hb, tb_nil, tb_cons, fzc_nil, fzc_cons, fzcaps_nil, fzcaps_cons])) h)
  · obtain rfl : k = l.length := by omega
    have e2 : rfR l l.length = firL l := by
      unfold rfR firL ddI
      rw [List.length_map]
    rw [e2]
    generalize firL l = R
    refine AW.re ty (by kernel_rfl) (by first | exact cx_N _ _ _ | assumption) (by first | exact cx_pz _ _ _ | assumption) 300 (by decide) (fun K hK => ?_)
    (try simp only [List.toList_toArray, toList_lit]); repeat (with_reducible refine AR.step (fun K1 K2 hK1 hK2 => ?_); simp; (first | refine hK1.out _ _ ?_ | refine hK2.out _ ?_ | refine ⟨by kernel_rfl, hK2.out _ ?_⟩); clear hK1 hK2 K1 K2; simp); (try with_reducible refine AR.nil ?_)
    refine ⟨chk_text _ _, hK.out _ ?_⟩
    clear hK K
    with_reducible (repeat (first | refine AW.seq ?_ | refine AW.block ?_ | refine AW.skip ?_ | refine AW.exit ?_ | refine AW.ret ?_ | refine AW.label ?_ | refine NX.then ?_ | refine NX.ret ?_ | refine NX.exit ?_ | refine NX.inRet ?_ | refine NX.inNormal ?_ | refine NX.inExit ?_ | refine NX.outExit (by decide) ?_))
    refine AW.cf rfl ?_
    with_reducible (repeat (first | refine AW.seq ?_ | refine AW.block ?_ | refine AW.skip ?_ | refine AW.exit ?_ | refine AW.ret ?_ | refine AW.label ?_ | refine NX.then ?_ | refine NX.ret ?_ | refine NX.exit ?_ | refine NX.inRet ?_ | refine NX.inNormal ?_ | refine NX.inExit ?_ | refine NX.outExit (by decide) ?_))
    refine AW.re ty (by kernel_rfl) (by first | exact cx_N _ _ _ | assumption) (by first | exact cx_pz _ _ _ | assumption) 310 (by decide) (fun K hK => ?_)
    (try simp only [List.toList_toArray, toList_lit]); repeat (with_reducible refine AR.step (fun K1 K2 hK1 hK2 => ?_); simp; (first | refine hK1.out _ _ ?_ | refine hK2.out _ ?_ | refine ⟨by kernel_rfl, hK2.out _ ?_⟩); clear hK1 hK2 K1 K2; simp); (try with_reducible refine AR.nil ?_)
    refine ⟨chk_text _ _, hK.out _ ?_⟩
    clear hK K
    with_reducible (repeat (first | refine AW.seq ?_ | refine AW.block ?_ | refine AW.skip ?_ | refine AW.exit ?_ | refine AW.ret ?_ | refine AW.label ?_ | refine NX.then ?_ | refine NX.ret ?_ | refine NX.exit ?_ | refine NX.inRet ?_ | refine NX.inNormal ?_ | refine NX.inExit ?_ | refine NX.outExit (by decide) ?_))
    exact nx_reto (t := 2) (n := 900) (y := 900) (zs := []) (rr := [(.zn 900, .zn .live)]) (.inr rfl) rfl (by kernel_rfl) (by kernel_rfl) (by kernel_rfl) (by simp) rfl
set_option maxHeartbeats 4000000 in
theorem seconds_ct' (l : List Pr) (s : Int) (hr : rightL l = false) : Ct Try.prog 70 [.c (RD l), dU s] none (.one (.c (.v (.slice none 0 0)))) := by
  have c1 := check_ct l
  rw [hr] at c1
  refine ct_intro Try.func70 rfl Try.ntmps70 (by simp) (fun W0 Z => ?_)
  with_reducible (repeat (first | refine AW.seq ?_ | refine AW.block ?_ | refine AW.skip ?_ | refine AW.exit ?_ | refine AW.ret ?_ | refine AW.label ?_ | refine NX.then ?_ | refine NX.ret ?_ | refine NX.exit ?_ | refine NX.inRet ?_ | refine NX.inNormal ?_ | refine NX.inExit ?_ | refine NX.outExit (by decide) ?_))
  refine AW.at_ (fun L hL => ?_)
  simp at hL
  subst hL
  refine AW.re ty (by kernel_rfl) (by first | exact cx_N _ _ _ | assumption) (by first | exact cx_pz _ _ _ | assumption) 1 (by decide) (fun K hK => ?_)
  (try simp only [List.toList_toArray, toList_lit]); repeat (with_reducible refine AR.step (fun K1 K2 hK1 hK2 => ?_); simp; (first | refine hK1.out _ _ ?_ | refine hK2.out _ ?_ | refine ⟨by kernel_rfl, hK2.out _ ?_⟩); clear hK1 hK2 K1 K2; simp); (try with_reducible refine AR.nil ?_)
  refine ⟨chk_text _ _, hK.out _ ?_⟩
  clear hK K
  with_reducible (repeat (first | refine AW.seq ?_ | refine AW.block ?_ | refine AW.skip ?_ | refine AW.exit ?_ | refine AW.ret ?_ | refine AW.label ?_ | refine NX.then ?_ | refine NX.ret ?_ | refine NX.exit ?_ | refine NX.inRet ?_ | refine NX.inNormal ?_ | refine NX.inExit ?_ | refine NX.outExit (by decide) ?_))
  refine AW.re ty (by kernel_rfl) (by first | exact cx_N _ _ _ | assumption) (by first | exact cx_pz _ _ _ | assumption) 10 (by decide) (fun K hK => ?_)
  (try simp only [List.toList_toArray, toList_lit]); repeat (with_reducible refine AR.step (fun K1 K2 hK1 hK2 => ?_); simp; (first | refine hK1.out _ _ ?_ | refine hK2.out _ ?_ | refine ⟨by kernel_rfl, hK2.out _ ?_⟩); clear hK1 hK2 K1 K2; simp); (try with_reducible refine AR.nil ?_)
  refine AR.step (fun K1 K2 hK1 hK2 => ?_)
  simp
  refine orr_l ⟨by kernel_rfl, .inl ⟨_, c1, ?_⟩⟩
  (try simp)
  refine hK1.out _ _ ?_
  clear hK1 hK2 K1 K2
  (try simp)
  (try simp only [List.toList_toArray, toList_lit]); repeat (with_reducible refine AR.step (fun K1 K2 hK1 hK2 => ?_); simp; (first | refine hK1.out _ _ ?_ | refine hK2.out _ ?_ | refine ⟨by kernel_rfl, hK2.out _ ?_⟩); clear hK1 hK2 K1 K2; simp); (try with_reducible refine AR.nil ?_)
  refine ⟨chk_text _ _, hK.out _ ?_⟩
  clear hK K
  with_reducible (repeat (first | refine AW.seq ?_ | refine AW.block ?_ | refine AW.skip ?_ | refine AW.exit ?_ | refine AW.ret ?_ | refine AW.label ?_ | refine NX.then ?_ | refine NX.ret ?_ | refine NX.exit ?_ | refine NX.inRet ?_ | refine NX.inNormal ?_ | refine NX.inExit ?_ | refine NX.outExit (by decide) ?_))
  refine AW.ct rfl ?_
  with_reducible (repeat (first | refine AW.seq ?_ | refine AW.block ?_ | refine AW.skip ?_ | refine AW.exit ?_ | refine AW.ret ?_ | refine AW.label ?_ | refine NX.then ?_ | refine NX.ret ?_ | refine NX.exit ?_ | refine NX.inRet ?_ | refine NX.inNormal ?_ | refine NX.inExit ?_ | refine NX.outExit (by decide) ?_))
  refine AW.re ty (by kernel_rfl) (by first | exact cx_N _ _ _ | assumption) (by first | exact cx_pz _ _ _ | assumption) 30 (by decide) (fun K hK => ?_)
  (try simp only [List.toList_toArray, toList_lit]); repeat (with_reducible refine AR.step (fun K1 K2 hK1 hK2 => ?_); simp; (first | refine hK1.out _ _ ?_ | refine hK2.out _ ?_ | refine ⟨by kernel_rfl, hK2.out _ ?_⟩); clear hK1 hK2 K1 K2; simp); (try with_reducible refine AR.nil ?_)
  refine ⟨chk_text _ _, hK.out _ ?_⟩
  clear hK K
  with_reducible (repeat (first | refine AW.seq ?_ | refine AW.block ?_ | refine AW.skip ?_ | refine AW.exit ?_ | refine AW.ret ?_ | refine AW.label ?_ | refine NX.then ?_ | refine NX.ret ?_ | refine NX.exit ?_ | refine NX.inRet ?_ | refine NX.inNormal ?_ | refine NX.inExit ?_ | refine NX.outExit (by decide) ?_))
  refine nx_ret (T := ty) (rs := [.tmp 4]) (zs := []) (ds := [.c (.v (.slice none 0 0))]) (rr := []) (.inr rfl) rfl (by kernel_rfl) (by kernel_rfl) (by simp) rfl
set_option maxHeartbeats 4000000 in
theorem between_n (l : List Pr) (f t : Pr) (hr : rightL l = false) : Ct Try.prog 66 [.c (RD l), PV f, PV t] none (.one (.c (.v (.slice none 0 0)))) := by
  have c1 := check_ct l
  rw [hr] at c1
  refine ct_intro Try.func66 rfl Try.ntmps66 (by simp) (fun W0 Z => ?_)
  with_reducible (repeat (first | refine AW.seq ?_ | refine AW.block ?_ | refine AW.skip ?_ | refine AW.exit ?_ | refine AW.ret ?_ | refine AW.label ?_ | refine NX.then ?_ | refine NX.ret ?_ | refine NX.exit ?_ | refine NX.inRet ?_ | refine NX.inNormal ?_ | refine NX.inExit ?_ | refine NX.outExit (by decide) ?_))
  refine AW.at_ (fun L hL => ?_)
  simp at hL
  subst hL
  refine AW.re ty (by kernel_rfl) (by first | exact cx_N _ _ _ | assumption) (by first | exact cx_pz _ _ _ | assumption) 1 (by decide) (fun K hK => ?_)
  (try simp only [List.toList_toArray, toList_lit]); repeat (with_reducible refine AR.step (fun K1 K2 hK1 hK2 => ?_); simp; (first | refine hK1.out _ _ ?_ | refine hK2.out _ ?_ | refine ⟨by kernel_rfl, hK2.out _ ?_⟩); clear hK1 hK2 K1 K2; simp); (try with_reducible refine AR.nil ?_)
  refine ⟨chk_text _ _, hK.out _ ?_⟩
  clear hK K
  with_reducible (repeat (first | refine AW.seq ?_ | refine AW.block ?_ | refine AW.skip ?_ | refine AW.exit ?_ | refine AW.ret ?_ | refine AW.label ?_ | refine NX.then ?_ | refine NX.ret ?_ | refine NX.exit ?_ | refine NX.inRet ?_ | refine NX.inNormal ?_ | refine NX.inExit ?_ | refine NX.outExit (by decide) ?_))
  refine AW.re ty (by kernel_rfl) (by first | exact cx_N _ _ _ | assumption) (by first | exact cx_pz _ _ _ | assumption) 10 (by decide) (fun K hK => ?_)
  (try simp only [List.toList_toArray, toList_lit]); repeat (with_reducible refine AR.step (fun K1 K2 hK1 hK2 => ?_); simp; (first | refine hK1.out _ _ ?_ | refine hK2.out _ ?_ | refine ⟨by kernel_rfl, hK2.out _ ?_⟩); clear hK1 hK2 K1 K2; simp); (try with_reducible refine AR.nil ?_)
  refine AR.step (fun K1 K2 hK1 hK2 => ?_)
  simp
  refine orr_l ⟨by kernel_rfl, .inl ⟨_, c1, ?_⟩⟩
  (try simp)
  refine hK1.out _ _ ?_
  clear hK1 hK2 K1 K2
  (try simp)
  (try simp only [List.toList_toArray, toList_lit]); repeat (with_reducible refine AR.step (fun K1 K2 hK1 hK2 => ?_); simp; (first | refine hK1.out _ _ ?_ | refine hK2.out _ ?_ | refine ⟨by kernel_rfl, hK2.out _ ?_⟩); clear hK1 hK2 K1 K2; simp); (try with_reducible refine AR.nil ?_)
  refine ⟨chk_text _ _, hK.out _ ?_⟩
  clear hK K
  with_reducible (repeat (first | refine AW.seq ?_ | refine AW.block ?_ | refine AW.skip ?_ | refine AW.exit ?_ | refine AW.ret ?_ | refine AW.label ?_ | refine NX.then ?_ | refine NX.ret ?_ | refine NX.exit ?_ | refine NX.inRet ?_ | refine NX.inNormal ?_ | refine NX.inExit ?_ | refine NX.outExit (by decide) ?_))
  refine AW.ct rfl ?_
  with_reducible (repeat (first | refine AW.seq ?_ | refine AW.block ?_ | refine AW.skip ?_ | refine AW.exit ?_ | refine AW.ret ?_ | refine AW.label ?_ | refine NX.then ?_ | refine NX.ret ?_ | refine NX.exit ?_ | refine NX.inRet ?_ | refine NX.inNormal ?_ | refine NX.inExit ?_ | refine NX.outExit (by decide) ?_))
  refine AW.re ty (by kernel_rfl) (by first | exact cx_N _ _ _ | assumption) (by first | exact cx_pz _ _ _ | assumption) 30 (by decide) (fun K hK => ?_)
  (try simp only [List.toList_toArray, toList_lit]); repeat (with_reducible refine AR.step (fun K1 K2 hK1 hK2 => ?_); simp; (first | refine hK1.out _ _ ?_ | refine hK2.out _ ?_ | refine ⟨by kernel_rfl, hK2.out _ ?_⟩); clear hK1 hK2 K1 K2; simp); (try with_reducible refine AR.nil ?_)
  refine ⟨chk_text _ _, hK.out _ ?_⟩
  clear hK K
  with_reducible (repeat (first | refine AW.seq ?_ | refine AW.block ?_ | refine AW.skip ?_ | refine AW.exit ?_ | refine AW.ret ?_ | refine AW.label ?_ | refine NX.then ?_ | refine NX.ret ?_ | refine NX.exit ?_ | refine NX.inRet ?_ | refine NX.inNormal ?_ | refine NX.inExit ?_ | refine NX.outExit (by decide) ?_))
  refine nx_ret (T := ty) (rs := [.tmp 6]) (zs := []) (ds := [.c (.v (.slice none 0 0))]) (rr := []) (.inr rfl) rfl (by kernel_rfl) (by kernel_rfl) (by simp) rfl
theorem secL_is {m : List Pr} (hr : Rises m) (h0 : ∀ p ∈ m, 0 ≤ p.2) (a : Int) : secL m a = rsR m a m.length := by
  have e : grp m a = m.filter fun p => decide (p.1 = a) := rises_ext (grp_rises hr a) (hr.sub List.filter_sublist) fun p => by
    rw [grp_mem hr h0, List.mem_filter, decide_eq_true_iff]
  unfold rsR
  rw [List.take_length, ← e]
  unfold grp
  rw [List.map_map, show ((fun p : Pr => p.2) ∘ fun b => (a, b)) = id from rfl, List.map_id]
theorem btwL_is {m : List Pr} (hr : Rises m) (f t : Pr) : btwL m f t = m.filter (btwP f t) := by
  refine rises_ext ?_ (hr.sub List.filter_sublist) fun p => ?_
  · exact hr.sub ((List.drop_sublist _ _).trans (List.take_sublist _ _))
  · rw [btwL_mem hr, List.mem_filter]
    unfold btwP
    simp
end Go.Proofs.Ytlkdkhmdmgchbaa
