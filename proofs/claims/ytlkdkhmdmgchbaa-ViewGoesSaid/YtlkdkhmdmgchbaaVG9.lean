/- texts on which the statement stands, part 9. -/
import Derived.Test.YtlkdkhmdmgchbaaVG8
import Derived.Deep.LoopGhost
namespace Go.Proofs.Ytlkdkhmdmgchbaa
set_option linter.unusedSimpArgs false
set_option linter.unusedVariables false
open Go.RowKit
attribute [local simp ↓] raw_wp hdd_wp dst0_wp slc_wp gav_bool gav_undef avpo_ptr avpo_seg avpo_wp avpo_optr avtupw_tup avtupw_wp raw_optr hdd_optr arun_nil ob_some kva_av kfree_free khfree_free khown_own klive_live knm_false chk_true ya_true gsel_tt gsel_ff gsel_tf gsel_ft vb_bool vi_int vstr_string avps_ptr avps_seg avp_ptr avagg_agg avtup_tup avb_bool avown_own shs_struct shsa_struct shsa_arr sharr_arr shl_slice shla_slice shla_arr shls_slice shls_str shi_int bc_true bc_false hd1_cons opc_some opc_none opn_some opn_none unc_not unc_neg gd_none gd_some as_move as_assign as_pick as_bin as_un as_conv as_load as_faddr as_field as_extract as_iaddr as_slice as_alloc as_box as_store as_build as_rows as_call as_append as_invoke as_copy as_nilCheck as_makeIface as_assert as_makeSlice as_lookup as_mapUpdate as_makeMap as_range as_next as_entry as_index as_fn as_len as_min as_max stMove stPick stBin stUn stConv stLoad stFaddr stField stExtract stIaddr stSlice stAlloc stBox stStore stBuild stIndex stRows stCall stAppend stFn stLen stMin stMax opd_tmp opd_const opd_func rawL_nil rawL_cons raw_c raw_st raw_a opr_e zr_nil zr_cons lvd_live hod_own obd_some obd_none kvd_av chd_true vid_int lk_cons lk_nil ins_nil ins_cons cells_zero cells_succ spread1_c spread1_own spread1_ptr spread1_fn spread1_seg spreadL_nil spreadL_cons spread_agg spread_c spread_own spread_seg spread_ptr spread_fn ex_zero ex_succ ops_e opb_none opb_int spreadD_agg spreadD_c spreadD_own spreadD_seg fillO_nil fillO_cons argsOf_nil argsOf_cons dvOf_c dvOf_seg dvOf_own dvOf_agg zrL_nil zrL_cons hdd_c hdd_seg hdd_own clz_e clv_raw clv_f callD_e dst0_n dst0_nil dst0_own goneH_e capc_ptr capc_seg capc_c capN_nil capN_cons capD_nil capD_cons deadZ_nil deadZ_cons
attribute [local simp] dok_some dok_none dflt_tmp dflt_vt dflt_cell dflt_zn dflt_nm dflt_hd dflt_sz dflt_df puts_nil puts_cons wr_some wr_none cst_agg cst_int cst_bool cst_string cst_slice cst_tuple cst_nilFunc cst_pointer cst_func bin_add bin_sub bin_mul bin_quo bin_rem bin_eql bin_neq bin_lss bin_leq bin_gtr bin_geq bin_bool bin_aggs binT_bool binT_aggs shbd_bool eqb_eql eqb_neq bin_slice bin_str_eql bin_str_neq bin_str_lss bin_str_add nz_v nz_n nz_s nz_p nz_f nz_st atz_v atz_n atz_s atz_p atz_f atz_st atz_agg atR_one atR_tup crow_nil crow_cons slc_c slc_n slc_own slc_nil raws setR placesT_nil placesT_cons zc chunk zsAll setD ocD_v ocD_n ocD_s ocD_p ocD_f ocD_st nrm_v nrm_n nrm_s nrm_p nrm_f nrm_st isV_one isV_tup isV_c isV_agg isV_v isV_n isV_s isV_p isV_f isV_st argRows Sh.agg zds_nil zds_e zds_v zds_s vcells_agg vcells_int vcells_bool vcells_string vcells_slice vcells_pointer toList_lit map_nilL map_consL nzr_e rowsOc_nil rowsOc_cons rowsOc_RD nzr_RD foks_nil foks_cons fok_tmp fok_vt fok_cell fok_nm fok_zn fok_hd fok_sz fok_df Fv_c Fv_seg Fv_tup Fv_agg Fv_ptr Fv_ptrs Fv_wp Fv_fn Fv_fnd Fv_own Fv_ownd Fv_nown Fv_vown FvL_nil FvL_cons kvp_av hdp_some subz frz Uz Nm Uh vw_nb vw_zo vw_zf vw_hb tb_nil tb_cons fzc_nil fzc_cons fzcaps_nil fzcaps_cons ty2 ty3 ty4 ty5 ty6 ty7 ty8 ty9 ty10 ty11 ty12 ty13 ty14 ty15 ty16 ty17 ty18 ty19 ty20 ty21 ty22 ty23 ty24 ty25 ty26 ty27 ty30 ty40 ty48 ty50 ty51 ty52 ty55 ty57 ty62 ty63 ty85 ty94 ty101 ty121 ty122 ty123 ty124 ty125 ty126 ty128 ty148 ty149 ty151 ty164 ty165 ty179 ty182 ty196 ty203 ty205 ty209 ty211 ty215 ty216 ty217 ty218 ty219 ty220 ty221 ty223 ty224 ty225 ty226 ty227 Value.oneCell'
attribute [local simp] kzRows oWr deadZ VK.av kzReads kzWrites oRead hdD cst_nilI
set_option maxRecDepth 100000
theorem stepVN_nil (n : Nat) (p : Pr) (fin : Bool) : stepVN (n + 1) ⟨[], p, fin⟩ = ⟨[], (0, 0), true⟩ := rfl
theorem stepVN_cons (n : Nat) (h : Hd) (r : List Hd) (p : Pr) (fin : Bool) : stepVN (n + 1) ⟨h :: r, p, fin⟩ = if h.2.1 then ⟨takeH (h :: r), fstH h, fin⟩ else stepVN n ⟨takeH (h :: r), p, fin⟩ := rfl
set_option maxHeartbeats 16000000 in
theorem step_kz (hs0 : List Hd) (p0 : Pr) (fin : Bool) (hn0 : hs0.length ≤ 500) (G0 : GoodH hs0) : Kz Try.prog 109 (.ptr 0) [] (vC ⟨hs0, p0, fin⟩) (vC (stepV ⟨hs0, p0, fin⟩)) (.tup []) := by
  obtain ⟨R, hR⟩ : ∃ R, R = stepV ⟨hs0, p0, fin⟩ := ⟨_, rfl⟩
  rw [← hR]
  refine kz_intro Try.func109 rfl Try.ntmps109 (by simp) (fun W0 A B g hN hP => ?_)
  refine AW.scope ?_
  with_reducible repeat first | refine Jt.i ?_ | refine .g (by decide) ?_
  refine AW.at_ (fun L hL => ?_)
  simp at hL
  subst hL
  refine AW.loop (X := { s : (List Hd × Pr) × Nat // s.1.1.length ≤ 500 ∧ GoodH s.1.1 ∧ pairsH s.1.1 ≤ s.2 ∧ stepVN (s.2 + 1) ⟨s.1.1, s.1.2, fin⟩ = R }) (fun s => hpR2 (.ptr 1 0) s.1.1.1 s.1.1.2 fin) (fun s => s.1.2) ⟨((hs0, p0), pairsH hs0), hn0, G0, Nat.le_refl _, hR.symm⟩ (view_of (vw [] [(900, [200001]), (901, [])] [] [(900, some 200001)]) (by simp)) (fun x => ?_)
  clear hn0 G0 hR
  obtain ⟨⟨⟨hs, p⟩, n⟩, hl, G, hf, hR⟩ := x
  simp only at hl G hf hR
  refine AW.at_ (fun L hL => ?_)
  simp at hL
  subst hL
  cases hs with
  | nil =>
    rw [stepVN_nil] at hR
    subst hR
    with_reducible repeat first | refine Jt.i ?_ | refine .g (by decide) ?_
    refine AW.rc 20 fun K hK => ?_
    repeat (with_reducible refine .s fun X Y Z W => ?_; simp; (first | refine Z.out _ _ ?_ | refine W.out _ ?_ | refine ⟨by kernel_rfl, W.out _ ?_⟩); clear Z W X Y; simp); (try refine .n ?_)
    refine .s fun K1 K2 hK1 hK2 => ?_
    simp
    refine hatch_nilp rfl ?_
    refine hK1.out _ _ ?_
    clear hK1 hK2 K1 K2
    (try simp)
    repeat (with_reducible refine .s fun X Y Z W => ?_; simp; (first | refine Z.out _ _ ?_ | refine W.out _ ?_ | refine ⟨by kernel_rfl, W.out _ ?_⟩); clear Z W X Y; simp); (try refine .n ?_)
    refine Jt.f hK ?_
    clear hK K
    with_reducible repeat first | refine Jt.i ?_ | refine .g (by decide) ?_
    refine AW.ct rfl ?_
    with_reducible repeat first | refine Jt.i ?_ | refine .g (by decide) ?_
    refine AW.rc 40 fun K hK => ?_
    repeat (with_reducible refine .s fun X Y Z W => ?_; simp; (first | refine Z.out _ _ ?_ | refine W.out _ ?_ | refine ⟨by kernel_rfl, W.out _ ?_⟩); clear Z W X Y; simp); (try refine .n ?_)
    refine .s fun K1 K2 hK1 hK2 => ?_
    simp
    refine hatch_nilp rfl ?_
    refine hK1.out _ _ ?_
    clear hK1 hK2 K1 K2
    (try simp)
    repeat (with_reducible refine .s fun X Y Z W => ?_; simp; (first | refine Z.out _ _ ?_ | refine W.out _ ?_ | refine ⟨by kernel_rfl, W.out _ ?_⟩); clear Z W X Y; simp); (try refine .n ?_)
    refine .s fun K1 K2 hK1 hK2 => ?_
    simp
    refine hatch_nilp rfl ?_
    refine hK1.out _ _ ?_
    clear hK1 hK2 K1 K2
    (try simp)
    repeat (with_reducible refine .s fun X Y Z W => ?_; simp; (first | refine Z.out _ _ ?_ | refine W.out _ ?_ | refine ⟨by kernel_rfl, W.out _ ?_⟩); clear Z W X Y; simp); (try refine .n ?_)
    refine Jt.f hK ?_
    clear hK K
    with_reducible repeat first | refine Jt.i ?_ | refine .g (by decide) ?_
    refine NX.sN ?_
    refine nx_kz (yo := ?_) (zs := ?_) (r := ?_) ty (by first | exact .inl rfl | exact .inr rfl) rfl rfl rfl rfl rfl rfl ⟨rfl, rfl, ?_⟩ ?_
    rotate_left 3
    · rfl
    · rfl
  | cons h r =>
    rw [stepVN_cons] at hR
    have c1 := take_kz h r p fin hl G
    obtain ⟨Gx, _⟩ := takeH_good G
    have glt := takeH_lt G
    have gln := takeH_len G
    generalize takeH (h :: r) = Sx at *
    generalize fstH h = q at *
    obtain ⟨t, ad, rs⟩ := h
    simp only at c1 hR
    have g1 : ¬ (r.length : Int) + 1 = 0 := by omega
    with_reducible repeat first | refine Jt.i ?_ | refine .g (by decide) ?_
    refine AW.rc 20 fun K hK => ?_
    repeat (with_reducible refine .s fun X Y Z W => ?_; simp [g1]; (first | refine Z.out _ _ ?_ | refine W.out _ ?_ | refine ⟨by kernel_rfl, W.out _ ?_⟩); clear Z W X Y; simp [g1]); (try refine .n ?_)
    refine .s fun K1 K2 hK1 hK2 => ?_
    simp [g1]
    refine hatch_nilp rfl ?_
    refine hK1.out _ _ ?_
    clear hK1 hK2 K1 K2
    (try simp [g1])
    repeat (with_reducible refine .s fun X Y Z W => ?_; simp [g1]; (first | refine Z.out _ _ ?_ | refine W.out _ ?_ | refine ⟨by kernel_rfl, W.out _ ?_⟩); clear Z W X Y; simp [g1]); (try refine .n ?_)
    refine Jt.f hK ?_
    clear hK K
    with_reducible repeat first | refine Jt.i ?_ | refine .g (by decide) ?_
    refine AW.cf rfl ?_
    with_reducible repeat first | refine Jt.i ?_ | refine .g (by decide) ?_
    refine AW.keep 10 (fun L hL => ?_)
    simp only [keepT_nil, keepT_tmp, keepT_vt, keepT_cell, keepT_zn, keepT_nm, keepT_hd, keepT_sz, keepT_df, if_true, if_false, Nat.reduceLT, reduceIte] at hL
    subst hL
    refine AW.rc 40 fun K hK => ?_
    repeat (with_reducible refine .s fun X Y Z W => ?_; simp; (first | refine Z.out _ _ ?_ | refine W.out _ ?_ | refine ⟨by kernel_rfl, W.out _ ?_⟩); clear Z W X Y; simp); (try refine .n ?_)
    refine .s fun K1 K2 hK1 hK2 => ?_
    try simp
    refine orr_r (orr_r (hatch_kz (κ := .ptr 0) (fun a w g h => run_val h rfl rfl w) c1 ⟨rfl, rfl, rfl, rfl, rfl, rfl, rfl, rfl, rfl⟩ ?_))
    refine hK1.out _ _ ?_
    clear hK1 hK2 K1 K2
    (try simp)
    repeat (with_reducible refine .s fun X Y Z W => ?_; simp; (first | refine Z.out _ _ ?_ | refine W.out _ ?_ | refine ⟨by kernel_rfl, W.out _ ?_⟩); clear Z W X Y; simp); (try refine .n ?_)
    refine Jt.f hK ?_
    clear hK K
    with_reducible repeat first | refine Jt.i ?_ | refine .g (by decide) ?_
    cases ad with
    | true =>
      simp only [if_true] at hR
      subst hR
      refine AW.rc 60 fun K hK => ?_
      repeat (with_reducible refine .s fun X Y Z W => ?_; simp; (first | refine Z.out _ _ ?_ | refine W.out _ ?_ | refine ⟨by kernel_rfl, W.out _ ?_⟩); clear Z W X Y; simp); (try refine .n ?_)
      refine Jt.f hK ?_
      clear hK K
      with_reducible repeat first | refine Jt.i ?_ | refine .g (by decide) ?_
      refine AW.ct rfl ?_
      with_reducible repeat first | refine Jt.i ?_ | refine .g (by decide) ?_
      refine AW.keep 10 (fun L hL => ?_)
      simp only [keepT_nil, keepT_tmp, keepT_vt, keepT_cell, keepT_zn, keepT_nm, keepT_hd, keepT_sz, keepT_df, if_true, if_false, Nat.reduceLT, reduceIte] at hL
      subst hL
      refine AW.rc 70 fun K hK => ?_
      repeat (with_reducible refine .s fun X Y Z W => ?_; simp; (first | refine Z.out _ _ ?_ | refine W.out _ ?_ | refine ⟨by kernel_rfl, W.out _ ?_⟩); clear Z W X Y; simp); (try refine .n ?_)
      refine .s fun K1 K2 hK1 hK2 => ?_
      simp
      refine hatch_nilp rfl ?_
      refine hK1.out _ _ ?_
      clear hK1 hK2 K1 K2
      (try simp)
      repeat (with_reducible refine .s fun X Y Z W => ?_; simp; (first | refine Z.out _ _ ?_ | refine W.out _ ?_ | refine ⟨by kernel_rfl, W.out _ ?_⟩); clear Z W X Y; simp); (try refine .n ?_)
      refine Jt.f hK ?_
      clear hK K
      with_reducible repeat first | refine Jt.i ?_ | refine .g (by decide) ?_
      refine NX.sN ?_
      refine nx_kz (yo := ?_) (zs := ?_) (r := ?_) ty (by first | exact .inl rfl | exact .inr rfl) rfl rfl rfl rfl rfl rfl ⟨rfl, rfl, ?_⟩ ?_
      rotate_left 3
      · rfl
      · rfl
    | false =>
      simp only [Bool.false_eq_true, if_false] at hR
      refine AW.rc 60 fun K hK => ?_
      repeat (with_reducible refine .s fun X Y Z W => ?_; simp; (first | refine Z.out _ _ ?_ | refine W.out _ ?_ | refine ⟨by kernel_rfl, W.out _ ?_⟩); clear Z W X Y; simp); (try refine .n ?_)
      refine Jt.f hK ?_
      clear hK K
      with_reducible repeat first | refine Jt.i ?_ | refine .g (by decide) ?_
      refine AW.cf rfl ?_
      with_reducible repeat first | refine Jt.i ?_ | refine .g (by decide) ?_
      exact NX.round ⟨((Sx, p), n - 1), by show Sx.length ≤ 500; omega, Gx, by show pairsH Sx ≤ n - 1; omega, by show stepVN (n - 1 + 1) _ = R; rw [show n - 1 + 1 = n by omega]; exact hR⟩ (by show n - 1 < n; omega) (view_of (vw [] [(900, [200041]), (901, [901, 41])] [] [(900, some 200041)]) (by simp))
def GoodV (V : VO) : Prop := GoodH V.hs ∧ V.hs.length ≤ 500 ∧ pairsH V.hs ≤ 100000000
theorem stepVN_len : ∀ (n : Nat) (V : VO), GoodH V.hs → (stepVN n V).hs.length ≤ V.hs.length
  | 0, V, _ => Nat.le_refl _
  | n + 1, ⟨[], p, fin⟩, _ => Nat.le_refl _
  | n + 1, ⟨h :: r, p, fin⟩, G => by
    obtain ⟨Gx, _⟩ := takeH_good G
    have gln := takeH_len G
    rw [stepVN_cons]
    split
    · exact gln
    · exact Nat.le_trans (stepVN_len n ⟨takeH (h :: r), p, fin⟩ Gx) gln
theorem stepVN_goodH : ∀ (n : Nat) (V : VO), GoodH V.hs → GoodH (stepVN n V).hs
  | 0, V, G => G
  | n + 1, ⟨[], p, fin⟩, G => G
  | n + 1, ⟨h :: r, p, fin⟩, G => by
    obtain ⟨Gx, _⟩ := takeH_good G
    rw [stepVN_cons]
    split
    · exact Gx
    · exact stepVN_goodH n ⟨takeH (h :: r), p, fin⟩ Gx
theorem stepVN_pairs : ∀ (n : Nat) (V : VO), GoodH V.hs → pairsH (stepVN n V).hs ≤ pairsH V.hs
  | 0, V, _ => Nat.le_refl _
  | n + 1, ⟨[], p, fin⟩, _ => Nat.le_refl _
  | n + 1, ⟨h :: r, p, fin⟩, G => by
    obtain ⟨Gx, _⟩ := takeH_good G
    have gln := Nat.le_of_lt (takeH_lt G)
    rw [stepVN_cons]
    split
    · exact gln
    · exact Nat.le_trans (stepVN_pairs n ⟨takeH (h :: r), p, fin⟩ Gx) gln
theorem GoodV.step {V : VO} (h : GoodV V) : GoodV (stepV V) := ⟨stepVN_goodH _ _ h.1, Nat.le_trans (stepVN_len _ _ h.1) h.2.1, Nat.le_trans (stepVN_pairs _ _ h.1) h.2.2⟩
def nextV (V : VO) : VO := if V.fin then V else stepV V
theorem GoodV.next {V : VO} (h : GoodV V) : GoodV (nextV V) := by
  unfold nextV
  split
  · exact h
  · exact h.step
theorem neqp (op : BinOp) (b : Bool) (h : op = .eql ∧ b = false) {t0 : Tmp} (ad : Addr) (w : World) : (do eqGuard op 57 (.tmp t0) (.const (.pointer none)) (.pointer (some ad)) (.pointer none); binOp op 57 (.pointer (some ad)) (.pointer none) : Sem Value).run Try.prog w = .ok (.bool b) w := by
  obtain ⟨rfl, rfl⟩ := h
  kernel_rfl
set_option maxHeartbeats 8000000 in
theorem next_kz (V : VO) (h : GoodV V) : Kz Try.prog 48 (.ptr 0) [] (vC V) (vC (nextV V)) (.one (dI (if V.fin then 4 else 0))) := by
  obtain ⟨hs, p, fin⟩ := V
  unfold nextV
  cases fin with
  | true =>
    simp only [if_true]
    refine kz_intro Try.func48 rfl Try.ntmps48 (by simp) (fun W0 A B g hN hP => ?_)
    with_reducible repeat first | refine Jt.i ?_ | refine .g (by decide) ?_
    refine AW.at_ (fun L hL => ?_)
    simp at hL
    subst hL
    refine AW.rc 10 fun K hK => ?_
    repeat (with_reducible refine .s fun X Y Z W => ?_; simp; (first | refine Z.out _ _ ?_ | refine W.out _ ?_ | refine ⟨by kernel_rfl, W.out _ ?_⟩); clear Z W X Y; simp); (try refine .n ?_)
    refine Jt.f hK ?_
    clear hK K
    with_reducible repeat first | refine Jt.i ?_ | refine .g (by decide) ?_
    refine AW.rc 20 fun K hK => ?_
    repeat (with_reducible refine .s fun X Y Z W => ?_; simp; (first | refine Z.out _ _ ?_ | refine W.out _ ?_ | refine ⟨by kernel_rfl, W.out _ ?_⟩); clear Z W X Y; simp); (try refine .n ?_)
    refine .s fun K1 K2 hK1 hK2 => ?_
    simp
    refine hatch_eqnil (neqp .eql false ⟨rfl, rfl⟩) rfl ?_
    refine hK1.out _ _ ?_
    clear hK1 hK2 K1 K2
    (try simp)
    repeat (with_reducible refine .s fun X Y Z W => ?_; simp; (first | refine Z.out _ _ ?_ | refine W.out _ ?_ | refine ⟨by kernel_rfl, W.out _ ?_⟩); clear Z W X Y; simp); (try refine .n ?_)
    refine Jt.f hK ?_
    clear hK K
    with_reducible repeat first | refine Jt.i ?_ | refine .g (by decide) ?_
    refine AW.cf rfl ?_
    with_reducible repeat first | refine Jt.i ?_ | refine .g (by decide) ?_
    refine AW.rc 30 fun K hK => ?_
    repeat (with_reducible refine .s fun X Y Z W => ?_; simp; (first | refine Z.out _ _ ?_ | refine W.out _ ?_ | refine ⟨by kernel_rfl, W.out _ ?_⟩); clear Z W X Y; simp); (try refine .n ?_)
    refine .s fun K1 K2 hK1 hK2 => ?_
    simp
    refine hatch_nilp rfl ?_
    refine hK1.out _ _ ?_
    clear hK1 hK2 K1 K2
    (try simp)
    repeat (with_reducible refine .s fun X Y Z W => ?_; simp; (first | refine Z.out _ _ ?_ | refine W.out _ ?_ | refine ⟨by kernel_rfl, W.out _ ?_⟩); clear Z W X Y; simp); (try refine .n ?_)
    refine Jt.f hK ?_
    clear hK K
    with_reducible repeat first | refine Jt.i ?_ | refine .g (by decide) ?_
    refine AW.ct rfl ?_
    with_reducible repeat first | refine Jt.i ?_ | refine .g (by decide) ?_
    refine AW.rc 40 fun K hK => ?_
    repeat (with_reducible refine .s fun X Y Z W => ?_; simp; (first | refine Z.out _ _ ?_ | refine W.out _ ?_ | refine ⟨by kernel_rfl, W.out _ ?_⟩); clear Z W X Y; simp); (try refine .n ?_)
    refine Jt.f hK ?_
    clear hK K
    with_reducible repeat first | refine Jt.i ?_ | refine .g (by decide) ?_
    refine nx_kz (yo := ?_) (zs := ?_) (r := ?_) ty (by first | exact .inl rfl | exact .inr rfl) rfl rfl rfl rfl rfl rfl ⟨rfl, rfl, ?_⟩ ?_
    rotate_left 3
    · rfl
    · rfl
  | false =>
    simp only [Bool.false_eq_true, if_false]
    have c1 := step_kz hs p false h.2.1 h.1
    generalize stepV ⟨hs, p, false⟩ = R at *
    refine kz_intro Try.func48 rfl Try.ntmps48 (by simp) (fun W0 A B g hN hP => ?_)
    with_reducible repeat first | refine Jt.i ?_ | refine .g (by decide) ?_
    refine AW.at_ (fun L hL => ?_)
    simp at hL
    subst hL
    refine AW.rc 10 fun K hK => ?_
    repeat (with_reducible refine .s fun X Y Z W => ?_; simp; (first | refine Z.out _ _ ?_ | refine W.out _ ?_ | refine ⟨by kernel_rfl, W.out _ ?_⟩); clear Z W X Y; simp); (try refine .n ?_)
    refine Jt.f hK ?_
    clear hK K
    with_reducible repeat first | refine Jt.i ?_ | refine .g (by decide) ?_
    refine AW.rc 20 fun K hK => ?_
    repeat (with_reducible refine .s fun X Y Z W => ?_; simp; (first | refine Z.out _ _ ?_ | refine W.out _ ?_ | refine ⟨by kernel_rfl, W.out _ ?_⟩); clear Z W X Y; simp); (try refine .n ?_)
    refine .s fun K1 K2 hK1 hK2 => ?_
    simp
    refine hatch_eqnil (neqp .eql false ⟨rfl, rfl⟩) rfl ?_
    refine hK1.out _ _ ?_
    clear hK1 hK2 K1 K2
    (try simp)
    repeat (with_reducible refine .s fun X Y Z W => ?_; simp; (first | refine Z.out _ _ ?_ | refine W.out _ ?_ | refine ⟨by kernel_rfl, W.out _ ?_⟩); clear Z W X Y; simp); (try refine .n ?_)
    refine Jt.f hK ?_
    clear hK K
    with_reducible repeat first | refine Jt.i ?_ | refine .g (by decide) ?_
    refine AW.cf rfl ?_
    with_reducible repeat first | refine Jt.i ?_ | refine .g (by decide) ?_
    refine AW.rc 30 fun K hK => ?_
    repeat (with_reducible refine .s fun X Y Z W => ?_; simp; (first | refine Z.out _ _ ?_ | refine W.out _ ?_ | refine ⟨by kernel_rfl, W.out _ ?_⟩); clear Z W X Y; simp); (try refine .n ?_)
    refine .s fun K1 K2 hK1 hK2 => ?_
    simp
    refine hatch_nilp rfl ?_
    refine hK1.out _ _ ?_
    clear hK1 hK2 K1 K2
    (try simp)
    repeat (with_reducible refine .s fun X Y Z W => ?_; simp; (first | refine Z.out _ _ ?_ | refine W.out _ ?_ | refine ⟨by kernel_rfl, W.out _ ?_⟩); clear Z W X Y; simp); (try refine .n ?_)
    refine Jt.f hK ?_
    clear hK K
    with_reducible repeat first | refine Jt.i ?_ | refine .g (by decide) ?_
    refine AW.cf rfl ?_
    with_reducible repeat first | refine Jt.i ?_ | refine .g (by decide) ?_
    refine AW.rc 50 fun K hK => ?_
    repeat (with_reducible refine .s fun X Y Z W => ?_; simp; (first | refine Z.out _ _ ?_ | refine W.out _ ?_ | refine ⟨by kernel_rfl, W.out _ ?_⟩); clear Z W X Y; simp); (try refine .n ?_)
    refine .s fun K1 K2 hK1 hK2 => ?_
    try simp
    refine orr_r (orr_r (hatch_kz (κ := .ptr 0) (fun a w g h => run_val h rfl rfl w) c1 ⟨rfl, rfl, rfl, rfl, rfl, rfl, rfl, rfl, rfl⟩ ?_))
    refine hK1.out _ _ ?_
    clear hK1 hK2 K1 K2
    (try simp)
    repeat (with_reducible refine .s fun X Y Z W => ?_; simp; (first | refine Z.out _ _ ?_ | refine W.out _ ?_ | refine ⟨by kernel_rfl, W.out _ ?_⟩); clear Z W X Y; simp); (try refine .n ?_)
    refine Jt.f hK ?_
    clear hK K
    with_reducible repeat first | refine Jt.i ?_ | refine .g (by decide) ?_
    refine AW.rc 60 fun K hK => ?_
    repeat (with_reducible refine .s fun X Y Z W => ?_; simp; (first | refine Z.out _ _ ?_ | refine W.out _ ?_ | refine ⟨by kernel_rfl, W.out _ ?_⟩); clear Z W X Y; simp); (try refine .n ?_)
    refine Jt.f hK ?_
    clear hK K
    with_reducible repeat first | refine Jt.i ?_ | refine .g (by decide) ?_
    refine nx_kz (yo := ?_) (zs := ?_) (r := ?_) ty (by first | exact .inl rfl | exact .inr rfl) rfl rfl rfl rfl rfl rfl ⟨rfl, rfl, ?_⟩ ?_
    rotate_left 3
    · rfl
    · rfl
theorem run_mkheads (n : Nat) (h : n ≤ 1000) : ∃ made : Array Value, made.size = n * 3 ∧ (∀ u ∈ made.toList, u.oneCell' = true) ∧ ∀ w : World, (Instr.makeSlice 121 (.int .i64 (n : Int)) (.int .i64 (n : Int))).run Try.prog w = .ok (.slice (some ⟨w.heap.size, 0, none⟩) n n) (w.alloc (.cells made 126)) := by
  obtain ⟨i, hi, hz0, hz1, hz2⟩ := (ty.ok _ _ ty126).get
  obtain ⟨d, hd, hd2⟩ := (ty.ok _ _ ty121).und
  have hu : Try.prog.underlying 121 = some (.slice 126) := by kernel_rfl
  refine ⟨madeCells (Value.agg #[.int .i64 0, .bool false, .slice none 0 0]).cells (n * 3), size_madeCells _ _, fun u hu => ?_, fun w => ?_⟩
  · unfold madeCells at hu
    simp only [Array.toList_map, List.mem_map] at hu
    obtain ⟨q, _, rfl⟩ := hu
    have : q % 3 < 3 := Nat.mod_lt _ (by omega)
    show ((#[Value.int .i64 0, .bool false, .slice none 0 0])[q % 3]!).oneCell' = true
    rcases (by omega : q % 3 = 0 ∨ q % 3 = 1 ∨ q % 3 = 2) with h | h | h <;> rw [h] <;> rfl
  · have := run_make (P := Try.prog) w 121 126 i (.agg #[.int .i64 0, .bool false, .slice none 0 0]) hu hi hz0 .i64 .i64 (n : Int) (n : Int) (by omega) (Int.le_refl _) (by rw [hz2]; simp only; omega) (by omega)
    rw [hz1] at this
    simpa using this
theorem sz_head : (Try.prog.info? 126).map (·.size) = some 3 := by
  obtain ⟨i, hi, hz0, hz1, hz2⟩ := (ty.ok _ _ ty126).get
  rw [hi]
  simp [hz1]
theorem und_heads : Try.prog.underlying 122 = some (.slice 126) := by kernel_rfl
set_option maxHeartbeats 8000000 in
theorem copy_kz (V : VO) (hn : V.hs.length ≤ 500) : Kzn Try.prog 54 (.ptr 0) [] (vC V) (vC V) (.ptr 0) (vC V) := by
  obtain ⟨hs, p, fin⟩ := V
  simp only at hn ⊢
  obtain ⟨made, m1, m2, m3⟩ := run_mkheads hs.length (by omega)
  have hx : hs.length ≤ maxLen := by have : maxLen = 9223372036854775807 := rfl; omega
  have hl2 : (hs.map hdD).length = hs.length := List.length_map _
  generalize hlen : hs.length = n at *
  refine kz_intro Try.func54 rfl Try.ntmps54 (by simp) (fun W0 A B g hN hP => ?_)
  with_reducible repeat first | refine Jt.i ?_ | refine .g (by decide) ?_
  refine AW.at_ (fun L hL => ?_)
  simp at hL
  subst hL
  refine AW.rc 10 fun K hK => ?_
  repeat (with_reducible refine .s fun X Y Z W => ?_; simp; (first | refine Z.out _ _ ?_ | refine W.out _ ?_ | refine ⟨by kernel_rfl, W.out _ ?_⟩); clear Z W X Y; simp); (try refine .n ?_)
  refine Jt.f hK ?_
  clear hK K
  with_reducible repeat first | refine Jt.i ?_ | refine .g (by decide) ?_
  refine AW.rc 20 fun K hK => ?_
  repeat (with_reducible refine .s fun X Y Z W => ?_; simp; (first | refine Z.out _ _ ?_ | refine W.out _ ?_ | refine ⟨by kernel_rfl, W.out _ ?_⟩); clear Z W X Y; simp); (try refine .n ?_)
  refine .s fun K1 K2 hK1 hK2 => ?_
  simp
  refine hatch_eqnil (neqp .eql false ⟨rfl, rfl⟩) rfl ?_
  refine hK1.out _ _ ?_
  clear hK1 hK2 K1 K2
  (try simp)
  repeat (with_reducible refine .s fun X Y Z W => ?_; simp; (first | refine Z.out _ _ ?_ | refine W.out _ ?_ | refine ⟨by kernel_rfl, W.out _ ?_⟩); clear Z W X Y; simp); (try refine .n ?_)
  refine Jt.f hK ?_
  clear hK K
  with_reducible repeat first | refine Jt.i ?_ | refine .g (by decide) ?_
  refine AW.cf rfl ?_
  with_reducible repeat first | refine Jt.i ?_ | refine .g (by decide) ?_
  refine AW.rc 40 fun K hK => ?_
  repeat (with_reducible refine .s fun X Y Z W => ?_; simp [hlen]; (first | refine Z.out _ _ ?_ | refine W.out _ ?_ | refine ⟨by kernel_rfl, W.out _ ?_⟩); clear Z W X Y; simp [hlen]); (try refine .n ?_)
  refine .s fun K1 K2 hK1 hK2 => ?_
  simp [hlen]
  refine hatch_nilp rfl ?_
  refine hK1.out _ _ ?_
  clear hK1 hK2 K1 K2
  (try simp [hlen])
  repeat (with_reducible refine .s fun X Y Z W => ?_; simp [hlen]; (first | refine Z.out _ _ ?_ | refine W.out _ ?_ | refine ⟨by kernel_rfl, W.out _ ?_⟩); clear Z W X Y; simp [hlen]); (try refine .n ?_)
  refine .s fun K1 K2 hK1 hK2 => ?_
  simp [hlen]
  refine hatch_mkslice m3 m1 m2 hx rfl rfl rfl ?_
  refine hK1.out _ _ ?_
  clear hK1 hK2 K1 K2
  (try simp [hlen])
  repeat (with_reducible refine .s fun X Y Z W => ?_; simp [hlen]; (first | refine Z.out _ _ ?_ | refine W.out _ ?_ | refine ⟨by kernel_rfl, W.out _ ?_⟩); clear Z W X Y; simp [hlen]); (try refine .n ?_)
  refine .s fun K1 K2 hK1 hK2 => ?_
  simp [hlen]
  refine hatch_nilp rfl ?_
  refine hK1.out _ _ ?_
  clear hK1 hK2 K1 K2
  (try simp [hlen])
  repeat (with_reducible refine .s fun X Y Z W => ?_; simp [hlen]; (first | refine Z.out _ _ ?_ | refine W.out _ ?_ | refine ⟨by kernel_rfl, W.out _ ?_⟩); clear Z W X Y; simp [hlen]); (try refine .n ?_)
  refine .s fun K1 K2 hK1 hK2 => ?_
  simp [hlen]
  refine hatch_nilp rfl ?_
  refine hK1.out _ _ ?_
  clear hK1 hK2 K1 K2
  (try simp [hlen])
  repeat (with_reducible refine .s fun X Y Z W => ?_; simp [hlen]; (first | refine Z.out _ _ ?_ | refine W.out _ ?_ | refine ⟨by kernel_rfl, W.out _ ?_⟩); clear Z W X Y; simp [hlen]); (try refine .n ?_)
  refine ⟨chk_drawn (by kernel_rfl) (by kernel_rfl), hK.out _ ?_⟩
  clear hK K
  with_reducible repeat first | refine Jt.i ?_ | refine .g (by decide) ?_
  refine AW.keep 6 (fun L hL => ?_)
  simp only [keepT_nil, keepT_tmp, keepT_vt, keepT_cell, keepT_zn, keepT_nm, keepT_hd, keepT_sz, keepT_df, if_true, if_false, Nat.reduceLT, reduceIte] at hL
  subst hL
  refine AW.rc 50 fun K hK => ?_
  repeat (with_reducible refine .s fun X Y Z W => ?_; simp [hl2]; (first | refine Z.out _ _ ?_ | refine W.out _ ?_ | refine ⟨by kernel_rfl, W.out _ ?_⟩); clear Z W X Y; simp [hl2]); (try refine .n ?_)
  refine .s fun K1 K2 hK1 hK2 => ?_
  simp [hl2]
  refine hatch_nilp rfl ?_
  refine hK1.out _ _ ?_
  clear hK1 hK2 K1 K2
  (try simp [hl2])
  repeat (with_reducible refine .s fun X Y Z W => ?_; simp [hl2]; (first | refine Z.out _ _ ?_ | refine W.out _ ?_ | refine ⟨by kernel_rfl, W.out _ ?_⟩); clear Z W X Y; simp [hl2]); (try refine .n ?_)
  refine .s fun K1 K2 hK1 hK2 => ?_
  simp [hl2]
  refine hatch_nilp rfl ?_
  refine hK1.out _ _ ?_
  clear hK1 hK2 K1 K2
  (try simp [hl2])
  repeat (with_reducible refine .s fun X Y Z W => ?_; simp [hl2]; (first | refine Z.out _ _ ?_ | refine W.out _ ?_ | refine ⟨by kernel_rfl, W.out _ ?_⟩); clear Z W X Y; simp [hl2]); (try refine .n ?_)
  refine .s fun K1 K2 hK1 hK2 => ?_
  simp [hl2]
  refine hatch_copy (m := 55) (j := 0) und_heads sz_head (by decide) rfl rfl rfl rfl rfl rfl rfl rfl hl2 (mkRows_len _ _ _) rfl rfl rfl ?_
  refine hK1.out _ _ ?_
  clear hK1 hK2 K1 K2
  (try simp [hl2])
  repeat (with_reducible refine .s fun X Y Z W => ?_; simp [hl2]; (first | refine Z.out _ _ ?_ | refine W.out _ ?_ | refine ⟨by kernel_rfl, W.out _ ?_⟩); clear Z W X Y; simp [hl2]); (try refine .n ?_)
  refine ⟨chk_drawn (by kernel_rfl) (by kernel_rfl), hK.out _ ?_⟩
  clear hK K
  with_reducible repeat first | refine Jt.i ?_ | refine .g (by decide) ?_
  refine AW.rc 60 fun K hK => ?_
  repeat (with_reducible refine .s fun X Y Z W => ?_; simp [hl2]; (first | refine Z.out _ _ ?_ | refine W.out _ ?_ | refine ⟨by kernel_rfl, W.out _ ?_⟩); clear Z W X Y; simp [hl2]); (try refine .n ?_)
  refine Jt.f hK ?_
  clear hK K
  with_reducible repeat first | refine Jt.i ?_ | refine .g (by decide) ?_
  refine nx_kzn (n := 55) (.inr rfl) rfl rfl (by decide) rfl rfl ⟨rfl, rfl, rfl⟩ ⟨rfl, rfl, rfl⟩ rfl rfl rfl
set_option maxHeartbeats 8000000 in
theorem at_kz (V : VO) : Kz Try.prog 51 (.ptr 0) [] (vC V) (vC V) (.tup [PV V.at_, dB (!V.fin)]) := by
  obtain ⟨hs, p, fin⟩ := V
  simp only
  refine kz_intro Try.func51 rfl Try.ntmps51 (by simp) (fun W0 A B g hN hP => ?_)
  with_reducible repeat first | refine Jt.i ?_ | refine .g (by decide) ?_
  refine AW.at_ (fun L hL => ?_)
  simp at hL
  subst hL
  refine AW.rc 10 fun K hK => ?_
  repeat (with_reducible refine .s fun X Y Z W => ?_; simp; (first | refine Z.out _ _ ?_ | refine W.out _ ?_ | refine ⟨by kernel_rfl, W.out _ ?_⟩); clear Z W X Y; simp); (try refine .n ?_)
  refine Jt.f hK ?_
  clear hK K
  with_reducible repeat first | refine Jt.i ?_ | refine .g (by decide) ?_
  refine AW.rc 20 fun K hK => ?_
  repeat (with_reducible refine .s fun X Y Z W => ?_; simp; (first | refine Z.out _ _ ?_ | refine W.out _ ?_ | refine ⟨by kernel_rfl, W.out _ ?_⟩); clear Z W X Y; simp); (try refine .n ?_)
  refine .s fun K1 K2 hK1 hK2 => ?_
  simp
  refine hatch_eqnil (neqp .eql false ⟨rfl, rfl⟩) rfl ?_
  refine hK1.out _ _ ?_
  clear hK1 hK2 K1 K2
  (try simp)
  repeat (with_reducible refine .s fun X Y Z W => ?_; simp; (first | refine Z.out _ _ ?_ | refine W.out _ ?_ | refine ⟨by kernel_rfl, W.out _ ?_⟩); clear Z W X Y; simp); (try refine .n ?_)
  refine Jt.f hK ?_
  clear hK K
  with_reducible repeat first | refine Jt.i ?_ | refine .g (by decide) ?_
  refine AW.cf rfl ?_
  with_reducible repeat first | refine Jt.i ?_ | refine .g (by decide) ?_
  refine AW.rc 40 fun K hK => ?_
  repeat (with_reducible refine .s fun X Y Z W => ?_; simp; (first | refine Z.out _ _ ?_ | refine W.out _ ?_ | refine ⟨by kernel_rfl, W.out _ ?_⟩); clear Z W X Y; simp); (try refine .n ?_)
  refine .s fun K1 K2 hK1 hK2 => ?_
  simp
  refine hatch_nilp rfl ?_
  refine hK1.out _ _ ?_
  clear hK1 hK2 K1 K2
  (try simp)
  repeat (with_reducible refine .s fun X Y Z W => ?_; simp; (first | refine Z.out _ _ ?_ | refine W.out _ ?_ | refine ⟨by kernel_rfl, W.out _ ?_⟩); clear Z W X Y; simp); (try refine .n ?_)
  refine .s fun K1 K2 hK1 hK2 => ?_
  simp
  refine hatch_nilp rfl ?_
  refine hK1.out _ _ ?_
  clear hK1 hK2 K1 K2
  (try simp)
  repeat (with_reducible refine .s fun X Y Z W => ?_; simp; (first | refine Z.out _ _ ?_ | refine W.out _ ?_ | refine ⟨by kernel_rfl, W.out _ ?_⟩); clear Z W X Y; simp); (try refine .n ?_)
  refine ⟨chk_drawn (by kernel_rfl) (by kernel_rfl), hK.out _ ?_⟩
  clear hK K
  with_reducible repeat first | refine Jt.i ?_ | refine .g (by decide) ?_
  refine nx_kz (yo := ?_) (zs := ?_) (r := ?_) ty (by first | exact .inl rfl | exact .inr rfl) rfl rfl rfl rfl rfl rfl ⟨rfl, rfl, ?_⟩ ?_
  rotate_left 3
  · rfl
  · rfl
theorem nilp2 (x y : Operand) (w : World) : (do eqGuard .eql 57 x y (.pointer none) (.pointer none); binOp .eql 57 (.pointer none) (.pointer none) : Sem Value).run Try.prog w = .ok (.bool true) w := by kernel_rfl
end Go.Proofs.Ytlkdkhmdmgchbaa
namespace Go.Proofs.Ytlkdkhmdmgchbaa
set_option linter.unusedSimpArgs false
set_option linter.unusedVariables false
open Go.RowKit Go.Shelf
attribute [local go_sem] Oper.semAt_some
set_option maxRecDepth 100000
set_option maxRecDepth 100000 in
theorem vpairs_any (g : Nat) (w : World) : Calls Try.prog 112 #[.pointer (some ⟨g, 0, none⟩)] w fun e w' => e = .returned (.func (.func 154) #[] #[.pointer (some ⟨w.heap.size, 0, none⟩)]) ∧ w' = w.alloc (.cells #[.pointer (some ⟨g, 0, none⟩)] 57) := by
  go_enter Try.func112, Try.ntmps112
  go_wp2_with fail
  refine bodyPost_ret (v := .func (.func 154) #[] #[.pointer (some ⟨w.heap.size, 0, none⟩)]) (by simp [results, Try.results112, go_sem]) rfl ?_
  exact ⟨rfl, rfl⟩
section
variable {L : St} {pz : List Nat} {ats : Array TypeId} {ty : TypeId} {st : String} {e : Array Edge} {gd : Option (Nat × Bool)} {n z d t0 : Nat}
theorem hatch_pairs {k : Trc → Prop} (h1 : L (.tmp t0) = .av (.ptr n 0)) (h2 : L (.nm z) = .nm false)
    (hk : k ⟨[(.tmp t0, .av (.ptr n 0)), (.nm z, .nm false)], wr (some d) (.fn 154 [z]) ++ [(.cell z 0, .av (.ptr n 0)), (.nm z, .nm true), (.sz z, .sz 1)]⟩) :
    stHatchZ Try.prog L pz z ⟨some d, .call ⟨.value (.func 112), #[.tmp t0], ats⟩, ty, st, e, gd⟩ k := by
  refine ⟨_, hk, Rd.cons h1 (Rd.cons h2 Rd.nil), fun C hd hpz hzb => ?_⟩
  subst hpz
  intro σ a w K ⟨G, hA⟩ hr hK'
  obtain ⟨v0, tq, r0⟩ := hA.tmp _ _ hr.head
  have f2 := hr.tail.head
  have ev : a.eval (.tmp t0) = .pointer (some ⟨G.ρ n, 0, none⟩) := by simp only [Act.eval, Array.getD_eq_getD_getElem?, tq]; exact r0.rep
  have hcell : Nm σ n := r0.ok
  refine ⟨fun c => by simp, .inr (.inr ⟨112, #[.pointer (some ⟨G.ρ n, 0, none⟩)], w, ?_, (vpairs_any (G.ρ n) w).mono ?_⟩)⟩
  · have := run_val (P := Try.prog) (d := some d) (f := 112) (xs := []) (ats := ats) (ty := ty) (st := st) (e := e) (gd := gd) (a := a) (x := .tmp t0) (args := #[.tmp t0]) (v := .pointer (some ⟨G.ρ n, 0, none⟩)) ev rfl rfl w
    simpa using this
  rintro ee w' ⟨rfl, hw'⟩
  refine ⟨_, rfl, hK' _ _ ?_⟩
  obtain ⟨h3, e3⟩ := hA.below (w' := w') (by rw [hw']; exact below_alloc w _)
  have hb : w'.heap[w.heap.size]? = some (.cells #[.pointer (some ⟨G.ρ n, 0, none⟩)] 57 (0, 0)) := by rw [hw']; exact World.alloc_heap_new w _
  obtain ⟨G', k1, k2, k3, k4, _⟩ := h3.addname0 (n := z) (b := w.heap.size) (c := 1) f2 (hA.fresh (Nat.le_refl _) (Array.getElem?_eq_some_iff.1 hb).1) ⟨_, _, hb, rfl⟩
  have nz : n ≠ z := fun q => by subst q; unfold Nm at hcell; rw [f2] at hcell; cases hcell
  have nm : Nm (ovr σ [(.nm z, .nm true), (.sz z, .sz 1)]) z := by unfold Nm; simp [ovr, fnd]
  have nm2 : Nm (ovr σ [(.nm z, .nm true), (.sz z, .sz 1)]) n := (k2.nm n hcell).1
  have k5 := (k1.know (n := z) (k := 0) (y := .ptr n 0) (v := .pointer (some ⟨G.ρ n, 0, none⟩)) nm (by rw [k3]; exact cell_of hb rfl) ⟨nm2, by show _ = _; rw [k4 n nz]⟩).1
  have k6 := k5.put (dst := some d) (v := .func (.func 154) #[] #[.pointer (some ⟨w.heap.size, 0, none⟩)]) (x := .fn 154 [z]) (dok_ok hd) ⟨fun m hm => by simp at hm; subst hm; unfold Nm; rw [ovr_one_ne _ _ _ (by simp)]; exact nm, by show _ = _; simp [k3]⟩
  rw [ovr_ovr, ovr_ovr] at k6
  exact ⟨_, by simpa using k6⟩
end
end Go.Proofs.Ytlkdkhmdmgchbaa
namespace Go.Proofs.Ytlkdkhmdmgchbaa
set_option linter.unusedSimpArgs false
set_option linter.unusedVariables false
open Go.RowKit Go.Shelf
set_option maxRecDepth 100000
structure VI (Z : Zone) (bx g : Nat) (U : Zone) (V : VO) (W : World) : Prop where
  ob : ∃ A B : Zone, OW A B W g (vC V) ∧ (∀ b, A b → U b ∧ Soft W b ∧ ¬ B b) ∧ (∀ b, B b → b < W.heap.size ∧ (Z b ∨ U b)) ∧ ¬ A bx
  box : W.cell? ⟨bx, 0, none⟩ = some (.pointer (some ⟨g, 0, none⟩))
  ub : U bx
  lt : ∀ b, U b → b < W.heap.size
section
variable {Z U U' : Zone} {bx g : Nat} {V : VO} {W W' : World}
theorem VI.kept (h : VI Z bx g U V W) (k : KU (fun b => Z b ∨ U b) W W') : VI Z bx g U V W' := by
  obtain ⟨A, B, h1, h2, h3, h4⟩ := h.ob
  refine ⟨⟨A, B, h1.evo (fun b hb hl => ⟨hb, k.2 b (.inr (h2 b hb).1) hl⟩) (fun b hb hl => ⟨hb, k.2 b (h3 b hb).2 hl⟩), fun b hb => ⟨(h2 b hb).1, (h2 b hb).2.1.of_eq (k.2 b (.inr (h2 b hb).1) (h2 b hb).2.1.lt), (h2 b hb).2.2⟩, fun b hb => ⟨by have := (h3 b hb).1; have := k.1; omega, (h3 b hb).2⟩, h4⟩, ?_, h.ub, fun b hb => by have := h.lt b hb; have := k.1; omega⟩
  exact (World.cell?_of_block (w := W) (a := ⟨bx, 0, none⟩) (k.2 bx (.inr h.ub) (h.lt bx h.ub))).trans h.box
theorem VI.cells (h : VI Z bx g U V W) : W.cell? ⟨g, 1, none⟩ = some (.int .u64 V.at_.1) ∧ W.cell? ⟨g, 2, none⟩ = some (.int .u64 V.at_.2) ∧ W.cell? ⟨g, 3, none⟩ = some (.bool V.fin) ∧ g < W.heap.size := by
  obtain ⟨A, B, h1, h2, h3, h4⟩ := h.ob
  obtain ⟨us, ⟨cur, E, e, q1, q2⟩, q3, q4⟩ := h1.us
  have c1 := cell_of e (q2 1 (by simp [vC]))
  have c2 := cell_of e (q2 2 (by simp [vC]))
  have c3 := cell_of e (q2 3 (by simp [vC]))
  have d1 : us 1 = .int .u64 V.at_.1 := (show RepD B W (us 1) (.v (.int .u64 V.at_.1)) from q3 1 _ rfl).raw
  have d2 : us 2 = .int .u64 V.at_.2 := (show RepD B W (us 2) (.v (.int .u64 V.at_.2)) from q3 2 _ rfl).raw
  have d3 : us 3 = .bool V.fin := (show RepD B W (us 3) (.v (.bool V.fin)) from q3 3 _ rfl).raw
  rw [d1] at c1
  rw [d2] at c2
  rw [d3] at c3
  exact ⟨c1, c2, c3, (Array.getElem?_eq_some_iff.1 e).1⟩
theorem VI.step (h : VI Z bx g U V W) (hG : GoodV V) : Calls Try.prog 109 #[.pointer (some ⟨g, 0, none⟩)] W fun e W' => (∃ v, e = .returned v) ∧ ∃ U', VI Z bx g U' (stepV V) W' ∧ Keeps (fun b => ¬ U b) W W' ∧ ∀ b, U' b → b < W'.heap.size ∧ (U b ∨ W.heap.size ≤ b) := by
  obtain ⟨A, B, h1, h2, h3, h4⟩ := h.ob
  obtain ⟨hs, p, fin⟩ := V
  have c := step_kz hs p fin hG.2.1 hG.1
  have := c A B W g #[] h1 (fun b hb => (h2 b hb).2) (fun b hb => (h3 b hb).1) ⟨rfl, fun i x hi => by simp at hi⟩
  refine this.mono ?_
  rintro e W' ⟨v, A', Zn, rfl, ⟨k1, k2, k3, k4⟩, _⟩
  have ks := k4.size
  refine ⟨⟨v, rfl⟩, fun b => U b ∨ ((A' b ∨ Zn b) ∧ b < W'.heap.size ∧ W.heap.size ≤ b), ⟨⟨A', fun b => B b ∨ Zn b, k3, fun b hb => ⟨?_, (k1 b hb).2, ?_⟩, fun b hb => ?_, fun hb => ?_⟩, ?_, .inl h.ub, fun b hb => ?_⟩, ⟨k4.os, k4.tape, k4.output, k4.size, fun b hl hb => k4.block b hl fun q => hb (h2 b q).1⟩, fun b hb => ?_⟩
  · rcases (k1 b hb).1 with q | q
    · exact .inl (h2 b q).1
    · exact .inr ⟨.inl hb, (k1 b hb).2.lt, q⟩
  · rintro (q | q)
    · rcases (k1 b hb).1 with r | r
      · exact (h2 b r).2.2 q
      · have := (h3 b q).1; omega
    · exact (k2 b q).2.2 hb
  · rcases hb with q | q
    · refine ⟨by have := (h3 b q).1; omega, ?_⟩
      rcases (h3 b q).2 with r | r
      · exact .inl r
      · exact .inr (.inl r)
    · refine ⟨(k2 b q).2.1.lt, .inr ?_⟩
      rcases (k2 b q).1 with r | r
      · exact .inl (h2 b r).1
      · exact .inr ⟨.inr q, (k2 b q).2.1.lt, r⟩
  · rcases (k1 bx hb).1 with q | q
    · exact h4 q
    · have := h.lt bx h.ub; omega
  · exact (World.cell?_of_block (w := W) (a := ⟨bx, 0, none⟩) (k4.block bx (h.lt bx h.ub) h4)).trans h.box
  · rcases hb with q | q
    · have := h.lt b q; omega
    · exact q.2.1
  · rcases hb with q | q
    · exact ⟨by have := h.lt b q; omega, .inl q⟩
    · exact ⟨q.2.1, .inr q.2.2⟩
end
end Go.Proofs.Ytlkdkhmdmgchbaa
namespace Go.Proofs.Ytlkdkhmdmgchbaa
set_option linter.unusedSimpArgs false
set_option linter.unusedVariables false
open Go.RowKit Go.Shelf
attribute [local go_sem] Oper.semAt_some
set_option maxRecDepth 100000
theorem Stands.fin_nil {V : VO} {L : List Pr} (h : Stands V L) (hf : V.fin = true) : L = [] := by
  cases h with
  | fin => rfl
  | «at» => cases hf
theorem Stands.go {V : VO} {L : List Pr} (h : Stands V L) (hf : V.fin = false) : ∃ r, L = V.at_ :: r ∧ Stands (stepV V) r := by
  cases h with
  | fin => cases hf
  | «at» hs p L G hr ht => exact ⟨L, rfl, (Stands.at hs p L G hr ht).next⟩
set_option maxRecDepth 100000 in
set_option maxHeartbeats 4000000 in
theorem vpairs_iter (Z U0 : Zone) (w0 : World) (bx g : Nat) (V : VO) (L : List Pr) (hS : Stands V L) (hG : GoodV V) (hV : VI Z bx g U0 V w0) :
    IterU Try.prog 154 #[.pointer (some ⟨bx, 0, none⟩)] (fun vs : Array Value => vs) Z U0 (fun W => KU (fun b => Z b ∨ U0 b) w0 W)
      (fun pre vs => ∃ x, (told1 L)[pre.length]? = some x ∧ Reps (fun _ => False) w0 vs x) (fun xs => xs.length = (told1 L).length) := by
  intro y J W hW jK hY h0
  have HJ := hid jK
  have HY := hid hY
  clear jK hY
  have HV := hid (hV.kept hW)
  clear hV
  have HS := hid hS
  have HG := hid hG
  have H0 := hid h0
  clear hS hG h0 hW
  refine callsIn_of_wp Try.func154 rfl trivial ?_ rfl
  simp only [Try.ntmps154, List.size_toArray, List.length_cons, List.length_nil, Nat.reduceAdd, Nat.reduceSub, Array.replicate_succ, Array.replicate_zero, List.push_toArray, List.append_toArray, List.nil_append, List.cons_append]
  refine wpIn_wide.2 ?_
  go_wp2_with fail
  go_loopg [] (L.length + 1) (fun n wr => ∃ (k : Nat) (pre : List (Array Value)) (U : Zone) (Vk : VO), n + k = L.length + 1 ∧ k ≤ L.length ∧ pre.length = k ∧ Hid (VI Z bx g U Vk wr) ∧ Hid (Stands Vk (L.drop k)) ∧ Hid (GoodV Vk) ∧ Hid (J U pre wr))
  case atStart => exact ⟨0, [], U0, V, rfl, Nat.zero_le _, rfl, HV, HS, HG, H0⟩
  case round =>
    clear HV HS HG H0
    obtain ⟨k, pre, U, Vk, hn, hk, hpre, HV, HS, HG, HP⟩ := hrel
    obtain ⟨c1, c2, c3, hg⟩ := HV.out.cells
    have cb := HV.out.box
    have hbx := World.lt_of_cell cb
    cases hf : Vk.fin with
    | true =>
      rw [hf] at c3
      have hnil := HS.out.fin_nil hf
      have HL := hid (show pre.length = (told1 L).length by rw [told1, List.length_map, hpre]; have := congrArg List.length hnil; simp at this; omega)
      clear hnil hf
      go_wp2_with fail
      (try rw [Exit.noGoto_ret]); (try rw [Exit.noGoto_normal])
      go_end0
      exact ⟨⟨_, rfl⟩, U, pre, HL.out, HP.out⟩
    | false =>
      rw [hf] at c3
      obtain ⟨r, hr, hst⟩ := HS.out.go hf
      have hlt : k < L.length := by
        have := congrArg List.length hr
        simp at this
        omega
      have hat : L[k]? = some Vk.at_ := by
        have : (L.drop k)[0]? = some Vk.at_ := by rw [hr]; rfl
        rw [List.getElem?_drop] at this
        simpa using this
      have hr2 : L.drop (k + 1) = r := by
        have : (L.drop k).drop 1 = r := by rw [hr]; rfl
        rw [List.drop_drop] at this
        exact this
      have HST := hid (show Stands (stepV Vk) (L.drop (k + 1)) by rw [hr2]; exact hst)
      obtain ⟨fn, tmps, assign, body, hy, hR⟩ := HY.out U pre #[.agg #[.int .u64 Vk.at_.1, .int .u64 Vk.at_.2]] wr HP.out ⟨[PV Vk.at_], by simp [told1, hpre, hat], by simp, by
        intro i d hd
        match i, hd with
        | 0, hd =>
          simp at hd
          subst hd
          exact ⟨#[.int .u64 Vk.at_.1, .int .u64 Vk.at_.2], rfl, rfl, fun j d hd => by
            match j, hd with
            | 0, hd => simp at hd; subst hd; exact .v _
            | 1, hd => simp at hd; subst hd; exact .v _⟩⟩
      have HR := hid hR
      have HF := hid hf
      clear hR hr hst hat hr2 hf
      go_upto_region 2 with fail
      refine (wpIn_wide (n := 9)).1 ?_
      gi_wp2_with fail
      refine HR.out.mono ?_
      rintro e w8 ⟨rfl, hj4, hk8⟩
      have HV8 := hid (HV.out.kept hk8)
      have HJ8 := hid hj4
      obtain ⟨b1, b2, b3, bg⟩ := HV8.out.cells
      have bb := HV8.out.box
      have HC := hid (HV8.out.step HG.out)
      clear hy hk8 hj4 c1 c2 c3 cb
      gi_wp2_with fail
      go_wp2_with fail
      refine HC.out.mono ?_
      rintro e w9 ⟨⟨v, rfl⟩, U', hV9, hk9, hu9⟩
      have HV9 := hid hV9
      have HJ9 := hid (HJ.out _ U' _ _ _ HJ8.out hk9 hu9)
      have HG9 := hid HG.out.step
      clear hV9 hk9 hu9 b1 b2 b3 bb
      go_wp2_with fail
      go_roundg (gk - 1)
      case rel => exact ⟨k + 1, pre ++ [#[.agg #[.int .u64 Vk.at_.1, .int .u64 Vk.at_.2]]], U', stepV Vk, by omega, hlt, by simp [hpre], HV9, HST, HG9, HJ9⟩
      case measure => omega
end Go.Proofs.Ytlkdkhmdmgchbaa
namespace Go.Proofs.Ytlkdkhmdmgchbaa
set_option linter.unusedSimpArgs false
set_option linter.unusedVariables false
open Go.RowKit
set_option maxRecDepth 100000
def uChk (V : Vw) (ns zs us ys : List Nat) : Bool := (ns.all fun n => !us.contains (V.nb n)) && zs.all fun z => (V.zf z).isEmpty && ys.all fun y => !(V.zo z).contains y
theorem U_mine {C : Cx} {G : Gh} {a : Act} {w : World} {L L0 : Row} {V : Vw} {us ys : List Nat} (F : Fold C (lk L) (lk L0) V) (hA : ASG C G (lk L) a w) (hO : C.ob = []) (hdf : lk L0 .df = .df 0) (hus : ∀ n ∈ us, Nm (lk L) n) (hys : ∀ y ∈ ys, Lv (lk L) y ∧ y ∉ C.pz)
    (hc : uChk V (nmsOf L0) (znsOf L0) us ys = true) : ∀ b, ((∃ n ∈ us, b = G.ρ n) ∨ ∃ y ∈ ys, G.ζ y b) → Mine C (fgh G V) (lk L0) w b := by
  unfold uChk at hc
  simp only [Bool.and_eq_true, List.all_eq_true] at hc
  obtain ⟨c1, c2⟩ := hc
  have hn0 : ∀ n, Nm (lk L0) n → V.nb n ∉ us := fun n h q => by
    have := c1 n (mem_nms (lk_mem h (by simp [dflt])))
    simp at this
    exact this q
  have hz0 : ∀ z, Lv (lk L0) z → V.zf z = [] ∧ ∀ y ∈ ys, y ∉ V.zo z := fun z h => by
    obtain ⟨q1, q2⟩ := c2 z (mem_zns (lk_mem h (by simp [dflt])))
    refine ⟨by simpa using q1, fun y hy q => ?_⟩
    have := q2 y hy
    simp at this
    exact this q
  intro b hb
  refine ⟨?_, ?_, fun n hn e => ?_, fun z hz hg => ?_, fun k i e hi => by rw [hdf] at e; cases e; omega, fun p hp => by rw [hO] at hp; cases hp⟩
  · rcases hb with ⟨n, hn, rfl⟩ | ⟨y, hy, hg⟩
    · exact (hA.nm n (hus n hn)).2
    · exact (hA.sep y b (hys y hy).1 hg).1
  · rcases hb with ⟨n, hn, rfl⟩ | ⟨y, hy, hg⟩
    · exact (hA.nm n (hus n hn)).1
    · exact (hA.new y b (hys y hy).2 (hys y hy).1 hg).1
  · have e : G.ρ (V.nb n) = b := e
    rcases hb with ⟨m, hm, rfl⟩ | ⟨y, hy, hg⟩
    · exact hn0 n hn (hA.inj _ _ (F.nm n hn) (hus m hm) e ▸ hm)
    · exact (hA.sep y b (hys y hy).1 hg).2 _ (F.nm n hn) e
  · obtain ⟨q1, q2⟩ := hz0 z hz
    rcases hg with ⟨x, hx, hg⟩ | ⟨x, hx, _⟩
    · have lx := (F.lv z hz).1 x hx
      rcases hb with ⟨m, hm, rfl⟩ | ⟨y, hy, hg'⟩
      · exact (hA.sep x _ lx hg).2 m (hus m hm) rfl
      · exact hA.disj x y b (fun e => q2 y hy (e ▸ hx)) lx (hys y hy).1 hg hg'
    · rw [q1] at hx; cases hx
theorem vpairs_hU {C : Cx} {L L0 : Row} {pz zs : List Nat} {yo : List (Option Nat)} {r : Row} {t n m : Nat} {R : VO} {Ls : List Pr} (V : Vw) (hSt : Stands R Ls) (hGV : GoodV R) (hfk : foks L L0 V L0)
    (h1 : lk L (.tmp t) = .av (.fn 154 [m])) (h2 : lk L (.cell m 0) = .av (.ptr n 0)) (h3 : lk L (.nm m) = .nm true) (hE : KzE L n (vC R) yo zs r)
    (hP : C.pz = pz) (hO : C.ob = []) (hc : fchk pz V (nmsOf L0) (znsOf L0) = true) (hdf : lk L0 .df = lk L .df) (hdf0 : lk L0 .df = .df 0)
    (hnm : n ≠ m) (hok : oOk pz yo zs = true) (hu : uChk V (nmsOf L0) (znsOf L0) [n, m] (yo.filterMap id) = true) (hzo : (zs.all fun z => (V.zo z).contains z) = true) :
    ∀ (a : Act) (w : World) (G : Gh), ASG C G (lk L) a w → ∃ (gf : Nat) (lb : Array Value) (U0 : Zone) (G' : Gh), a.eval (.tmp t) = .func (.func gf) #[] lb ∧ (∀ args w, (callFunc gf args).run Try.prog w = .ok (.enter gf args) w) ∧ ASG C G' (lk L0) a w ∧ (∀ b, U0 b → Mine C G' (lk L0) w b) ∧
      IterU Try.prog gf lb (fun vs : Array Value => vs) (G'.zu zs) U0 (fun W => KU (fun b => G'.zu zs b ∨ U0 b) w W) (fun pre vs => ∃ x, (told1 Ls)[pre.length]? = some x ∧ Reps (fun _ => False) w vs x) (fun xs => xs.length = (told1 Ls).length) := by
  intro a w G hA
  have F := fold_of hP hc hdf hfk
  have rd : Rd (lk L) r := oRead_rd (y := (vC R, yo, zs)) hE.rd
  obtain ⟨q1, q2⟩ := oOk_ok hok
  obtain ⟨k1, k2, k3, k4, k5⟩ := oRead_ok hA hE.rd rd
  have hn : Nm (lk L) n := hE.nm
  have ow := obj_ow hA hn hE.sz hE.rd rd q2
  obtain ⟨v, t1, r1⟩ := hA.tmp t _ h1
  have e1 : v = .func (.func 154) #[] #[.pointer (some ⟨G.ρ m, 0, none⟩)] := r1.rep
  have ev : a.eval (.tmp t) = .func (.func 154) #[] #[.pointer (some ⟨G.ρ m, 0, none⟩)] := by simp only [Act.eval, Array.getD_eq_getD_getElem?, t1]; exact e1
  obtain ⟨c1, v2, c2, c3, c4⟩ := hA.cell m 0 _ h2
  have e2 : v2 = .pointer (some ⟨G.ρ n, 0, none⟩) := c4.rep
  rw [e2] at c2
  have mem : ∀ y, y ∈ yo.filterMap id ↔ some y ∈ yo := fun y => by simp [List.mem_filterMap]
  have hys : ∀ y ∈ yo.filterMap id, Lv (lk L) y ∧ y ∉ C.pz := fun y hy => ⟨k3 y ((mem y).1 hy), by rw [hP]; exact (q1 y ((mem y).1 hy)).1⟩
  have hus : ∀ x ∈ [n, m], Nm (lk L) x := fun x hx => by
    simp at hx
    rcases hx with rfl | rfl
    · exact hn
    · exact h3
  have hM := U_mine F hA hO hdf0 hus hys hu
  refine ⟨_, _, fun b => (∃ x ∈ [n, m], b = G.ρ x) ∨ ∃ y ∈ yo.filterMap id, G.ζ y b, fgh G V, ev, fun _ _ => rfl, hA.fold F, hM, vpairs_iter _ _ w (G.ρ m) (G.ρ n) R Ls hSt hGV ⟨⟨_, _, ow, fun b hb => ?_, fun b hb => ?_, ?_⟩, c2, .inl ⟨m, by simp, rfl⟩, fun b hb => (hM b hb).lt⟩⟩
  · rcases hb with rfl | ⟨y, hy, hb⟩
    · exact ⟨.inl ⟨n, by simp, rfl⟩, (hA.sf n hn).s, fun ⟨z, hz, hg⟩ => (hA.sep z _ (k2 z hz) hg).2 n hn rfl⟩
    · refine ⟨.inr ⟨y, (mem y).2 hy, hb⟩, (hA.new y b (hys y ((mem y).2 hy)).2 (k3 y hy) hb).2, fun ⟨z, hz, hg⟩ => hA.disj z y b (fun e => (q1 y hy).2 (e ▸ hz)) (k2 z hz) (k3 y hy) hg hb⟩
  · obtain ⟨z, hz, hg⟩ := hb
    refine ⟨(hA.sep z b (k2 z hz) hg).1, .inl ⟨z, hz, .inl ⟨z, ?_, hg⟩⟩⟩
    have := List.all_eq_true.1 hzo z hz
    simpa using this
  · rintro (e | ⟨y, hy, hg⟩)
    · exact hnm (hA.inj m n h3 hn e).symm
    · exact (hA.sep y _ (k3 y hy) hg).2 m h3 rfl
theorem done_vt {C : Cx} {L S : Row} {Q : Exit → Act → World → Prop} {t0 n0 : Nat} {x : AV} (hvt : lk L (.vt 0 t0) = .av (.ptr n0 0)) (htm : lk L (.tmp t0) = .av (.ptr n0 0)) (hx : lk S (.tmp t0) = .av x) (h : NX C Q .normal ((.vt 0 t0, .av x) :: S)) :
    ∀ (a : Act) (w : World), AS C (lk L) a w → ∀ d W, AS C (lk S) { a with defers := d :: a.defers } W → Q .normal { a with defers := d :: a.defers } W := by
  rintro a w ⟨G, hA⟩ d W ⟨G2, hB⟩
  refine h _ W ⟨G2, ?_⟩
  obtain ⟨v, e1, r1⟩ := hA.tmp _ _ htm
  have r2 := hA.vt 0 t0 _ hvt
  obtain ⟨v', e2, r3⟩ := hB.tmp _ _ hx
  have e2 : a.tmps[t0]? = some v' := e2
  have ev : v' = v := by rw [e1] at e2; exact (Option.some.inj e2).symm
  have ep : C.pv 0 t0 = v := (show C.pv 0 t0 = .pointer (some ⟨G.ρ n0, 0, none⟩) from r2.rep).trans (show v = .pointer (some ⟨G.ρ n0, 0, none⟩) from r1.rep).symm
  have := hB.addvt (i := 0) (t := t0) (x := x) (by rw [ep, ← ev]; exact r3)
  rw [show ((Key.vt 0 t0, KV.av x) :: S) = [(.vt 0 t0, .av x)] ++ S from rfl, lk_app]
  exact this
end Go.Proofs.Ytlkdkhmdmgchbaa
namespace Go.Proofs.Ytlkdkhmdmgchbaa
set_option linter.unusedSimpArgs false
set_option linter.unusedVariables false
open Go.RowKit
attribute [local simp ↓] raw_wp hdd_wp dst0_wp slc_wp gav_bool gav_undef avpo_ptr avpo_seg avpo_wp avpo_optr avtupw_tup avtupw_wp raw_optr hdd_optr arun_nil ob_some kva_av kfree_free khfree_free khown_own klive_live knm_false chk_true ya_true gsel_tt gsel_ff gsel_tf gsel_ft vb_bool vi_int vstr_string avps_ptr avps_seg avp_ptr avagg_agg avtup_tup avb_bool avown_own shs_struct shsa_struct shsa_arr sharr_arr shl_slice shla_slice shla_arr shls_slice shls_str shi_int bc_true bc_false hd1_cons opc_some opc_none opn_some opn_none unc_not unc_neg gd_none gd_some as_move as_assign as_pick as_bin as_un as_conv as_load as_faddr as_field as_extract as_iaddr as_slice as_alloc as_box as_store as_build as_rows as_call as_append as_invoke as_copy as_nilCheck as_makeIface as_assert as_makeSlice as_lookup as_mapUpdate as_makeMap as_range as_next as_entry as_index as_fn as_len as_min as_max stMove stPick stBin stUn stConv stLoad stFaddr stField stExtract stIaddr stSlice stAlloc stBox stStore stBuild stIndex stRows stCall stAppend stFn stLen stMin stMax opd_tmp opd_const opd_func rawL_nil rawL_cons raw_c raw_st raw_a opr_e zr_nil zr_cons lvd_live hod_own obd_some obd_none kvd_av chd_true vid_int lk_cons lk_nil ins_nil ins_cons cells_zero cells_succ spread1_c spread1_own spread1_ptr spread1_fn spread1_seg spreadL_nil spreadL_cons spread_agg spread_c spread_own spread_seg spread_ptr spread_fn ex_zero ex_succ ops_e opb_none opb_int spreadD_agg spreadD_c spreadD_own spreadD_seg fillO_nil fillO_cons argsOf_nil argsOf_cons dvOf_c dvOf_seg dvOf_own dvOf_agg zrL_nil zrL_cons hdd_c hdd_seg hdd_own clz_e clv_raw clv_f callD_e dst0_n dst0_nil dst0_own goneH_e capc_ptr capc_seg capc_c capN_nil capN_cons capD_nil capD_cons deadZ_nil deadZ_cons
attribute [local simp] dok_some dok_none dflt_tmp dflt_vt dflt_cell dflt_zn dflt_nm dflt_hd dflt_sz dflt_df puts_nil puts_cons wr_some wr_none cst_agg cst_int cst_bool cst_string cst_slice cst_tuple cst_nilFunc cst_pointer cst_func bin_add bin_sub bin_mul bin_quo bin_rem bin_eql bin_neq bin_lss bin_leq bin_gtr bin_geq bin_bool bin_aggs binT_bool binT_aggs shbd_bool eqb_eql eqb_neq bin_slice bin_str_eql bin_str_neq bin_str_lss bin_str_add nz_v nz_n nz_s nz_p nz_f nz_st atz_v atz_n atz_s atz_p atz_f atz_st atz_agg atR_one atR_tup crow_nil crow_cons slc_c slc_n slc_own slc_nil raws setR placesT_nil placesT_cons zc chunk zsAll setD ocD_v ocD_n ocD_s ocD_p ocD_f ocD_st nrm_v nrm_n nrm_s nrm_p nrm_f nrm_st isV_one isV_tup isV_c isV_agg isV_v isV_n isV_s isV_p isV_f isV_st argRows Sh.agg zds_nil zds_e zds_v zds_s vcells_agg vcells_int vcells_bool vcells_string vcells_slice vcells_pointer toList_lit map_nilL map_consL nzr_e rowsOc_nil rowsOc_cons rowsOc_RD nzr_RD foks_nil foks_cons fok_tmp fok_vt fok_cell fok_nm fok_zn fok_hd fok_sz fok_df Fv_c Fv_seg Fv_tup Fv_agg Fv_ptr Fv_ptrs Fv_wp Fv_fn Fv_fnd Fv_own Fv_ownd Fv_nown Fv_vown FvL_nil FvL_cons kvp_av hdp_some subz frz Uz Nm Uh vw_nb vw_zo vw_zf vw_hb tb_nil tb_cons fzc_nil fzc_cons fzcaps_nil fzcaps_cons ty2 ty3 ty4 ty5 ty6 ty7 ty8 ty9 ty10 ty11 ty12 ty13 ty14 ty15 ty16 ty17 ty18 ty19 ty20 ty21 ty22 ty23 ty24 ty25 ty26 ty27 ty30 ty40 ty48 ty50 ty51 ty52 ty55 ty57 ty62 ty63 ty85 ty94 ty101 ty121 ty122 ty123 ty124 ty125 ty126 ty128 ty148 ty149 ty151 ty164 ty165 ty179 ty182 ty196 ty203 ty205 ty209 ty211 ty215 ty216 ty217 ty218 ty219 ty220 ty221 ty223 ty224 ty225 ty226 ty227 Value.oneCell'
set_option maxRecDepth 100000
def seenE (done : List MapEntry) : Array Nat := (done.map (·.born)).toArray
theorem nodup_sub {α : Type} [DecidableEq α] : ∀ {l m : List α}, l.Nodup → (∀ x ∈ l, x ∈ m) → l.length ≤ m.length
  | [], m, _, _ => by simp
  | x :: l, m, hl, hs => by
    obtain ⟨h1, h2⟩ := List.nodup_cons.1 hl
    have hx := hs x List.mem_cons_self
    have := nodup_sub (m := m.erase x) h2 (fun y hy => (List.mem_erase_of_ne (fun e => h1 (by rw [← e]; exact hy))).2 (hs y (List.mem_cons_of_mem _ hy)))
    rw [List.length_erase_of_mem hx] at this
    have : 0 < m.length := List.length_pos_of_mem hx
    simp only [List.length_cons]
    omega
def DoneE (es : Array MapEntry) (done : List MapEntry) : Prop := (∀ e ∈ done, e ∈ es.toList) ∧ (done.map (·.born)).Nodup
theorem DoneE.len {es : Array MapEntry} {done : List MapEntry} (h : DoneE es done) : done.length ≤ es.size := by
  have := nodup_sub (m := es.toList.map (·.born)) h.2 (fun x hx => by
    obtain ⟨e, he, rfl⟩ := List.mem_map.1 hx
    exact List.mem_map.2 ⟨e, h.1 e he, rfl⟩)
  simpa using this
theorem DoneE.snoc {es : Array MapEntry} {done : List MapEntry} {e : MapEntry} (h : DoneE es done) (he : e ∈ (leftOf es (seenE done)).toList) : DoneE es (done ++ [e]) := by
  obtain ⟨h1, h2⟩ := mem_left he
  refine ⟨fun x hx => ?_, ?_⟩
  · rcases List.mem_append.1 hx with hx | hx
    · exact h.1 x hx
    · simp at hx; subst hx; exact h1
  · rw [List.map_append, List.nodup_append]
    refine ⟨h.2, by simp, fun x hx y hy => ?_⟩
    simp at hy; subst hy
    rintro rfl
    have : (seenE done).contains e.born = true := by simpa [seenE] using hx
    rw [this] at h2; cases h2
set_option maxHeartbeats 4000000 in
theorem rat_ct (l : List Pr) : Ct Try.prog 52 [.c (RD l)] none (.tup [PV (l.headD (0, 0)), dB (!l.isEmpty)]) := by
  cases l with
  | nil =>
    refine ct_intro Try.func52 rfl Try.ntmps52 (by simp) (fun W0 Z => ?_)
    with_reducible repeat first | refine Jt.i ?_ | refine .g (by decide) ?_
    refine AW.at_ (fun L hL => ?_)
    simp at hL
    subst hL
    refine AW.rc 10 fun K hK => ?_
    repeat (with_reducible refine .s fun X Y Z W => ?_; simp; (first | refine Z.out _ _ ?_ | refine W.out _ ?_ | refine ⟨by kernel_rfl, W.out _ ?_⟩); clear Z W X Y; simp); (try refine .n ?_)
    refine Jt.f hK ?_
    clear hK K
    with_reducible repeat first | refine Jt.i ?_ | refine .g (by decide) ?_
    refine AW.rc 20 fun K hK => ?_
    repeat (with_reducible refine .s fun X Y Z W => ?_; simp; (first | refine Z.out _ _ ?_ | refine W.out _ ?_ | refine ⟨by kernel_rfl, W.out _ ?_⟩); clear Z W X Y; simp); (try refine .n ?_)
    refine Jt.f hK ?_
    clear hK K
    with_reducible repeat first | refine Jt.i ?_ | refine .g (by decide) ?_
    refine AW.ct rfl ?_
    with_reducible repeat first | refine Jt.i ?_ | refine .g (by decide) ?_
    refine AW.rc 30 fun K hK => ?_
    repeat (with_reducible refine .s fun X Y Z W => ?_; simp; (first | refine Z.out _ _ ?_ | refine W.out _ ?_ | refine ⟨by kernel_rfl, W.out _ ?_⟩); clear Z W X Y; simp); (try refine .n ?_)
    refine Jt.f hK ?_
    clear hK K
    with_reducible repeat first | refine Jt.i ?_ | refine .g (by decide) ?_
    refine nx_ret (T := ty) (rs := [.cell 2 52, .tmp 3]) (zs := []) (ds := [PV (0, 0), dB false]) (rr := []) (.inr rfl) rfl (by kernel_rfl) (by kernel_rfl) (by simp) rfl
  | cons p l =>
    have h1 : ¬ (l.length : Int) + 1 = 0 := by omega
    refine ct_intro Try.func52 rfl Try.ntmps52 (by simp) (fun W0 Z => ?_)
    with_reducible repeat first | refine Jt.i ?_ | refine .g (by decide) ?_
    refine AW.at_ (fun L hL => ?_)
    simp at hL
    subst hL
    refine AW.rc 10 fun K hK => ?_
    repeat (with_reducible refine .s fun X Y Z W => ?_; simp; (first | refine Z.out _ _ ?_ | refine W.out _ ?_ | refine ⟨by kernel_rfl, W.out _ ?_⟩); clear Z W X Y; simp); (try refine .n ?_)
    refine Jt.f hK ?_
    clear hK K
    with_reducible repeat first | refine Jt.i ?_ | refine .g (by decide) ?_
    refine AW.rc 20 fun K hK => ?_
    repeat (with_reducible refine .s fun X Y Z W => ?_; simp [h1]; (first | refine Z.out _ _ ?_ | refine W.out _ ?_ | refine ⟨by kernel_rfl, W.out _ ?_⟩); clear Z W X Y; simp [h1]); (try refine .n ?_)
    refine Jt.f hK ?_
    clear hK K
    with_reducible repeat first | refine Jt.i ?_ | refine .g (by decide) ?_
    refine AW.cf rfl ?_
    with_reducible repeat first | refine Jt.i ?_ | refine .g (by decide) ?_
    refine AW.rc 40 fun K hK => ?_
    repeat (with_reducible refine .s fun X Y Z W => ?_; simp; (first | refine Z.out _ _ ?_ | refine W.out _ ?_ | refine ⟨by kernel_rfl, W.out _ ?_⟩); clear Z W X Y; simp); (try refine .n ?_)
    refine .s fun K1 K2 hK1 hK2 => ?_
    simp
    first | refine ⟨0, _, rfl, rfl, ?_⟩ | refine orr_l ⟨0, _, rfl, rfl, ?_⟩
    refine hK1.out _ _ ?_
    clear hK1 hK2 K1 K2
    (try simp)
    repeat (with_reducible refine .s fun X Y Z W => ?_; simp; (first | refine Z.out _ _ ?_ | refine W.out _ ?_ | refine ⟨by kernel_rfl, W.out _ ?_⟩); clear Z W X Y; simp); (try refine .n ?_)
    refine Jt.f hK ?_
    clear hK K
    with_reducible repeat first | refine Jt.i ?_ | refine .g (by decide) ?_
    refine nx_ret (T := ty) (rs := [.cell 2 52, .tmp 3]) (zs := []) (ds := [PV p, dB true]) (rr := []) (.inr rfl) rfl (by kernel_rfl) (by kernel_rfl) (by simp) rfl
set_option maxHeartbeats 4000000 in
theorem rnext_nil : Ct Try.prog 47 [.c (RD [])] none (.tup [.c (.v (.slice none 0 0)), dI 4]) := by
  refine ct_intro Try.func47 rfl Try.ntmps47 (by simp) (fun W0 Z => ?_)
  with_reducible repeat first | refine Jt.i ?_ | refine .g (by decide) ?_
  refine AW.at_ (fun L hL => ?_)
  simp at hL
  subst hL
  refine AW.rc 10 fun K hK => ?_
  repeat (with_reducible refine .s fun X Y Z W => ?_; simp; (first | refine Z.out _ _ ?_ | refine W.out _ ?_ | refine ⟨by kernel_rfl, W.out _ ?_⟩); clear Z W X Y; simp); (try refine .n ?_)
  refine Jt.f hK ?_
  clear hK K
  with_reducible repeat first | refine Jt.i ?_ | refine .g (by decide) ?_
  refine AW.rc 20 fun K hK => ?_
  repeat (with_reducible refine .s fun X Y Z W => ?_; simp; (first | refine Z.out _ _ ?_ | refine W.out _ ?_ | refine ⟨by kernel_rfl, W.out _ ?_⟩); clear Z W X Y; simp); (try refine .n ?_)
  refine Jt.f hK ?_
  clear hK K
  with_reducible repeat first | refine Jt.i ?_ | refine .g (by decide) ?_
  refine AW.ct rfl ?_
  with_reducible repeat first | refine Jt.i ?_ | refine .g (by decide) ?_
  refine AW.rc 30 fun K hK => ?_
  repeat (with_reducible refine .s fun X Y Z W => ?_; simp; (first | refine Z.out _ _ ?_ | refine W.out _ ?_ | refine ⟨by kernel_rfl, W.out _ ?_⟩); clear Z W X Y; simp); (try refine .n ?_)
  refine Jt.f hK ?_
  clear hK K
  with_reducible repeat first | refine Jt.i ?_ | refine .g (by decide) ?_
  refine nx_ret (T := ty) (rs := [.tmp 2, .tmp 3]) (zs := []) (ds := [.c (.v (.slice none 0 0)), dI 4]) (rr := []) (.inr rfl) rfl (by kernel_rfl) (by kernel_rfl) (by simp) rfl
set_option maxHeartbeats 4000000 in
theorem rnext_cons (p : Pr) (l : List Pr) : Ca Try.prog 47 [.c (RD (p :: l))] (.tup [.c (RD l), dI 0]) := by
  have h1 : ¬ (l.length : Int) + 1 = 0 := by omega
  refine ca_intro Try.func47 rfl Try.ntmps47 (by simp) (fun W0 Z => ?_)
  with_reducible repeat first | refine Jt.i ?_ | refine .g (by decide) ?_
  refine AW.at_ (fun L hL => ?_)
  simp at hL
  subst hL
  refine AW.rc 10 fun K hK => ?_
  repeat (with_reducible refine .s fun X Y Z W => ?_; simp; (first | refine Z.out _ _ ?_ | refine W.out _ ?_ | refine ⟨by kernel_rfl, W.out _ ?_⟩); clear Z W X Y; simp); (try refine .n ?_)
  refine Jt.f hK ?_
  clear hK K
  with_reducible repeat first | refine Jt.i ?_ | refine .g (by decide) ?_
  refine AW.rc 20 fun K hK => ?_
  repeat (with_reducible refine .s fun X Y Z W => ?_; simp [h1]; (first | refine Z.out _ _ ?_ | refine W.out _ ?_ | refine ⟨by kernel_rfl, W.out _ ?_⟩); clear Z W X Y; simp [h1]); (try refine .n ?_)
  refine Jt.f hK ?_
  clear hK K
  with_reducible repeat first | refine Jt.i ?_ | refine .g (by decide) ?_
  refine AW.cf rfl ?_
  with_reducible repeat first | refine Jt.i ?_ | refine .g (by decide) ?_
  refine AW.rc 40 fun K hK => ?_
  repeat (with_reducible refine .s fun X Y Z W => ?_; simp; (first | refine Z.out _ _ ?_ | refine W.out _ ?_ | refine ⟨by kernel_rfl, W.out _ ?_⟩); clear Z W X Y; simp); (try refine .n ?_)
  refine .s fun K1 K2 hK1 hK2 => ?_
  simp
  refine slice_tail ?_
  refine hK1.out _ _ ?_
  clear hK1 hK2 K1 K2
  (try simp)
  repeat (with_reducible refine .s fun X Y Z W => ?_; simp; (first | refine Z.out _ _ ?_ | refine W.out _ ?_ | refine ⟨by kernel_rfl, W.out _ ?_⟩); clear Z W X Y; simp); (try refine .n ?_)
  refine Jt.f hK ?_
  clear hK K
  with_reducible repeat first | refine Jt.i ?_ | refine .g (by decide) ?_
  exact nx_reta (T := ty) (rs := [.tmp 2, .tmp 3]) (zs := [0]) (ds := [.c (RD l), dI 0]) (rr := [(.zn 0, .zn .live)]) (.inr rfl) rfl (by kernel_rfl) (by kernel_rfl) rfl
def rkS (l : List Pr) (p : Pr) : Row := [(.zn 0, .zn .live), (.tmp 0, .av (.c [0] (RD l))), (.tmp 3, .av (.ptr 1 0)), (.nm 1, .nm true), (.cell 1 0, .av (.c [] (.v (.int .u64 p.1)))), (.cell 1 1, .av (.c [] (.v (.int .u64 p.2))))]
set_option maxHeartbeats 8000000 in
theorem rseek_ca (l0 : List Pr) (p : Pr) (h0 : Rises l0) : Ca Try.prog 49 [.c (RD l0), PV p] (.one (.c (RD (skipR p l0)))) := by
  obtain ⟨R, hR⟩ : ∃ R, R = skipR p l0 := ⟨_, rfl⟩
  rw [← hR]
  refine ca_intro Try.func49 rfl Try.ntmps49 (by simp) (fun W0 Z => ?_)
  with_reducible repeat first | refine Jt.i ?_ | refine .g (by decide) ?_
  refine AW.at_ (fun L hL => ?_)
  simp at hL
  subst hL
  refine AW.rc 10 fun K hK => ?_
  repeat (with_reducible refine .s fun X Y Z W => ?_; simp; (first | refine Z.out _ _ ?_ | refine W.out _ ?_ | refine ⟨by kernel_rfl, W.out _ ?_⟩); clear Z W X Y; simp); (try refine .n ?_)
  refine Jt.f hK ?_
  clear hK K
  with_reducible repeat first | refine Jt.i ?_ | refine .g (by decide) ?_
  refine AW.loop (X := { s : List Pr // Rises s ∧ skipR p s = R }) (fun s => rkS s.1 p) (fun s => s.1.length) ⟨l0, h0, hR.symm⟩ (view_of (vw [(1, 10)] [] [] []) (by simp [rkS])) (fun x => ?_)
  clear hR h0
  obtain ⟨l, hr, hR⟩ := x
  refine AW.at_ (fun L hL => ?_)
  simp [rkS] at hL
  subst hL
  with_reducible repeat first | refine Jt.i ?_ | refine .g (by decide) ?_
  cases l with
  | nil =>
    have hR : [] = R := hR
    subst hR
    refine AW.rc 20 fun K hK => ?_
    repeat (with_reducible refine .s fun X Y Z W => ?_; simp; (first | refine Z.out _ _ ?_ | refine W.out _ ?_ | refine ⟨by kernel_rfl, W.out _ ?_⟩); clear Z W X Y; simp); (try refine .n ?_)
    refine ⟨chk_drawn (by kernel_rfl) (by kernel_rfl), hK.out _ ?_⟩
    clear hK K
    with_reducible repeat first | refine Jt.i ?_ | refine .g (by decide) ?_
    refine AW.cf rfl ?_
    with_reducible repeat first | refine Jt.i ?_ | refine .g (by decide) ?_
    refine AW.rc 40 fun K hK => ?_
    repeat (with_reducible refine .s fun X Y Z W => ?_; simp; (first | refine Z.out _ _ ?_ | refine W.out _ ?_ | refine ⟨by kernel_rfl, W.out _ ?_⟩); clear Z W X Y; simp); (try refine .n ?_)
    refine Jt.f hK ?_
    clear hK K
    with_reducible repeat first | refine Jt.i ?_ | refine .g (by decide) ?_
    exact nx_reta (T := ty) (rs := [.tmp 4]) (zs := [0]) (ds := [.c (RD [])]) (rr := [(.zn 0, .zn .live)]) (.inr rfl) rfl (by kernel_rfl) (by kernel_rfl) rfl
  | cons y l =>
    have g1 : (0 : Int) < (l.length : Int) + 1 := by omega
    have ca := ahead_ct y p
    by_cases hy : lt y p
    · have e : skipR p (y :: l) = skipR p l := by
        unfold skipR
        rw [List.filter_cons, if_neg (by simpa using hy)]
      rw [e] at hR
      rw [decide_eq_true hy] at ca
      refine AW.rc 20 fun K hK => ?_
      repeat (with_reducible refine .s fun X Y Z W => ?_; simp [g1]; (first | refine Z.out _ _ ?_ | refine W.out _ ?_ | refine ⟨by kernel_rfl, W.out _ ?_⟩); clear Z W X Y; simp [g1]); (try refine .n ?_)
      refine .s fun K1 K2 hK1 hK2 => ?_
      simp [g1]
      first | refine ⟨0, _, rfl, rfl, ?_⟩ | refine orr_l ⟨0, _, rfl, rfl, ?_⟩
      refine hK1.out _ _ ?_
      clear hK1 hK2 K1 K2
      (try simp [g1])
      repeat (with_reducible refine .s fun X Y Z W => ?_; simp [g1]; (first | refine Z.out _ _ ?_ | refine W.out _ ?_ | refine ⟨by kernel_rfl, W.out _ ?_⟩); clear Z W X Y; simp [g1]); (try refine .n ?_)
      refine .s fun K1 K2 hK1 hK2 => ?_
      simp [g1]
      refine orr_l ⟨by kernel_rfl, .inl ⟨_, ca, ?_⟩⟩
      (try simp [g1])
      refine hK1.out _ _ ?_
      clear hK1 hK2 K1 K2
      (try simp [g1])
      repeat (with_reducible refine .s fun X Y Z W => ?_; simp [g1]; (first | refine Z.out _ _ ?_ | refine W.out _ ?_ | refine ⟨by kernel_rfl, W.out _ ?_⟩); clear Z W X Y; simp [g1]); (try refine .n ?_)
      refine ⟨chk_drawn (by kernel_rfl) (by kernel_rfl), hK.out _ ?_⟩
      clear hK K
      with_reducible repeat first | refine Jt.i ?_ | refine .g (by decide) ?_
      refine AW.ct rfl ?_
      with_reducible repeat first | refine Jt.i ?_ | refine .g (by decide) ?_
      refine AW.rc 30 fun K hK => ?_
      repeat (with_reducible refine .s fun X Y Z W => ?_; simp; (first | refine Z.out _ _ ?_ | refine W.out _ ?_ | refine ⟨by kernel_rfl, W.out _ ?_⟩); clear Z W X Y; simp); (try refine .n ?_)
      refine .s fun K1 K2 hK1 hK2 => ?_
      simp
      refine slice_tail ?_
      refine hK1.out _ _ ?_
      clear hK1 hK2 K1 K2
      (try simp)
      repeat (with_reducible refine .s fun X Y Z W => ?_; simp; (first | refine Z.out _ _ ?_ | refine W.out _ ?_ | refine ⟨by kernel_rfl, W.out _ ?_⟩); clear Z W X Y; simp); (try refine .n ?_)
      refine Jt.f hK ?_
      clear hK K
      with_reducible repeat first | refine Jt.i ?_ | refine .g (by decide) ?_
      exact NX.round ⟨l, (rises_cons.1 hr).2, hR⟩ (by show l.length < (y :: l).length; simp) (view_of (vw [(1, 1)] [] [] []) (by simp [rkS]))
    · rw [rises_skip hr hy] at hR
      subst hR
      rw [decide_eq_false hy] at ca
      refine AW.rc 20 fun K hK => ?_
      repeat (with_reducible refine .s fun X Y Z W => ?_; simp [g1]; (first | refine Z.out _ _ ?_ | refine W.out _ ?_ | refine ⟨by kernel_rfl, W.out _ ?_⟩); clear Z W X Y; simp [g1]); (try refine .n ?_)
      refine .s fun K1 K2 hK1 hK2 => ?_
      simp [g1]
      first | refine ⟨0, _, rfl, rfl, ?_⟩ | refine orr_l ⟨0, _, rfl, rfl, ?_⟩
      refine hK1.out _ _ ?_
      clear hK1 hK2 K1 K2
      (try simp [g1])
      repeat (with_reducible refine .s fun X Y Z W => ?_; simp [g1]; (first | refine Z.out _ _ ?_ | refine W.out _ ?_ | refine ⟨by kernel_rfl, W.out _ ?_⟩); clear Z W X Y; simp [g1]); (try refine .n ?_)
      refine .s fun K1 K2 hK1 hK2 => ?_
      simp [g1]
      refine orr_l ⟨by kernel_rfl, .inl ⟨_, ca, ?_⟩⟩
      (try simp [g1])
      refine hK1.out _ _ ?_
      clear hK1 hK2 K1 K2
      (try simp [g1])
      repeat (with_reducible refine .s fun X Y Z W => ?_; simp [g1]; (first | refine Z.out _ _ ?_ | refine W.out _ ?_ | refine ⟨by kernel_rfl, W.out _ ?_⟩); clear Z W X Y; simp [g1]); (try refine .n ?_)
      refine ⟨chk_drawn (by kernel_rfl) (by kernel_rfl), hK.out _ ?_⟩
      clear hK K
      with_reducible repeat first | refine Jt.i ?_ | refine .g (by decide) ?_
      refine AW.cf rfl ?_
      with_reducible repeat first | refine Jt.i ?_ | refine .g (by decide) ?_
      refine AW.rc 40 fun K hK => ?_
      repeat (with_reducible refine .s fun X Y Z W => ?_; simp; (first | refine Z.out _ _ ?_ | refine W.out _ ?_ | refine ⟨by kernel_rfl, W.out _ ?_⟩); clear Z W X Y; simp); (try refine .n ?_)
      refine Jt.f hK ?_
      clear hK K
      with_reducible repeat first | refine Jt.i ?_ | refine .g (by decide) ?_
      exact nx_reta (T := ty) (rs := [.tmp 4]) (zs := [0]) (ds := [.c (RD (y :: l))]) (rr := [(.zn 0, .zn .live)]) (.inr rfl) rfl (by kernel_rfl) (by kernel_rfl) rfl
end Go.Proofs.Ytlkdkhmdmgchbaa
namespace Go.Proofs.Ytlkdkhmdmgchbaa
set_option linter.unusedSimpArgs false
set_option linter.unusedVariables false
open Go.RowKit
set_option maxRecDepth 100000
theorem tcheck_ct (l : List Tr) (hs : ∀ t ∈ l, t.1.length + t.2.length ≤ 1048576) (hl : l.length ≤ 24) : Ct Try.prog 87 [.c (TsD l)] none (.one (dI (if l.all oneL then 0 else 210))) := ct1 fun Z w v h =>
  (tcheck_any v l w (trow_of h) hs hl).mono fun e w' ⟨he, B⟩ => by subst he; exact ctr_raw B
def tsR (l : List Tr) : Bool := decide (l.length ≤ 24) && l.all oneL
/-! ### what is met and what is left -/
section
variable {a b : List Pr} (ha : Rises a) (hb : Rises b)
include ha hb
end
end Go.Proofs.Ytlkdkhmdmgchbaa
namespace Go.Proofs.Ytlkdkhmdmgchbaa
set_option linter.unusedSimpArgs false
set_option linter.unusedVariables false
set_option maxRecDepth 100000
theorem foldT_one : ∀ (l : List Tr) (q : Pr), l.foldl sayT (fun _ => none) q = some 1 → ∃ t ∈ l, q ∈ t.1
  | [], q, h => by cases h
  | t :: l, q, h => by
    rw [List.foldl_cons, foldT_is, sayT_is] at h
    by_cases h2 : q ∈ t.2
    · simp [h2] at h
    · by_cases h3 : q ∈ t.1
      · exact ⟨t, by simp, h3⟩
      · simp [h2, h3] at h
        obtain ⟨x, hx, hq⟩ := foldT_one l q h
        exact ⟨x, List.mem_cons_of_mem _ hx, hq⟩
theorem whichL_adds {l : List Tr} {q : Pr} (h : q ∈ whichL l 1) : ∃ t ∈ l, q ∈ t.1 := by
  rw [whichL_mem] at h
  unfold saidF at h
  obtain ⟨t, ht, hq⟩ := foldT_one _ q h
  exact ⟨t, by simpa using ht, hq⟩
theorem adds_len {c : Nat} : ∀ {l : List Tr}, (∀ t ∈ l, t.1.length ≤ c) → (l.flatMap (·.1)).length ≤ c * l.length
  | [], _ => by simp
  | t :: l, h => by
    have a := h t (by simp)
    have b := adds_len (l := l) fun x hx => h x (List.mem_cons_of_mem _ hx)
    rw [List.flatMap_cons, List.length_append, List.length_cons, Nat.mul_succ]
    omega
theorem whichL_short {l : List Tr} {c : Nat} (h : ∀ t ∈ l, t.1.length ≤ c) : (whichL l 1).length ≤ c * l.length := by
  refine Nat.le_trans (nodup_sub ?_ (m := l.flatMap (·.1)) fun q hq => ?_) (adds_len h)
  · exact (whichL_rises l 1).imp fun {a b} hab e => by subst e; exact lt_irrefl _ hab
  · obtain ⟨t, ht, hq⟩ := whichL_adds hq
    exact List.mem_flatMap.2 ⟨t, ht, hq⟩
end Go.Proofs.Ytlkdkhmdmgchbaa
namespace Go.Proofs.Ytlkdkhmdmgchbaa
set_option linter.unusedSimpArgs false
set_option linter.unusedVariables false
open Go.RowKit
attribute [local simp ↓] raw_wp hdd_wp dst0_wp slc_wp gav_bool gav_undef avpo_ptr avpo_seg avpo_wp avpo_optr avtupw_tup avtupw_wp raw_optr hdd_optr arun_nil ob_some kva_av kfree_free khfree_free khown_own klive_live knm_false chk_true ya_true gsel_tt gsel_ff gsel_tf gsel_ft vb_bool vi_int vstr_string avps_ptr avps_seg avp_ptr avagg_agg avtup_tup avb_bool avown_own shs_struct shsa_struct shsa_arr sharr_arr shl_slice shla_slice shla_arr shls_slice shls_str shi_int bc_true bc_false hd1_cons opc_some opc_none opn_some opn_none unc_not unc_neg gd_none gd_some as_move as_assign as_pick as_bin as_un as_conv as_load as_faddr as_field as_extract as_iaddr as_slice as_alloc as_box as_store as_build as_rows as_call as_append as_invoke as_copy as_nilCheck as_makeIface as_assert as_makeSlice as_lookup as_mapUpdate as_makeMap as_range as_next as_entry as_index as_fn as_len as_min as_max stMove stPick stBin stUn stConv stLoad stFaddr stField stExtract stIaddr stSlice stAlloc stBox stStore stBuild stIndex stRows stCall stAppend stFn stLen stMin stMax opd_tmp opd_const opd_func rawL_nil rawL_cons raw_c raw_st raw_a opr_e zr_nil zr_cons lvd_live hod_own obd_some obd_none kvd_av chd_true vid_int lk_cons lk_nil ins_nil ins_cons cells_zero cells_succ spread1_c spread1_own spread1_ptr spread1_fn spread1_seg spreadL_nil spreadL_cons spread_agg spread_c spread_own spread_seg spread_ptr spread_fn ex_zero ex_succ ops_e opb_none opb_int spreadD_agg spreadD_c spreadD_own spreadD_seg fillO_nil fillO_cons argsOf_nil argsOf_cons dvOf_c dvOf_seg dvOf_own dvOf_agg zrL_nil zrL_cons hdd_c hdd_seg hdd_own clz_e clv_raw clv_f callD_e dst0_n dst0_nil dst0_own goneH_e capc_ptr capc_seg capc_c capN_nil capN_cons capD_nil capD_cons deadZ_nil deadZ_cons
attribute [local simp] dok_some dok_none dflt_tmp dflt_vt dflt_cell dflt_zn dflt_nm dflt_hd dflt_sz dflt_df puts_nil puts_cons wr_some wr_none cst_agg cst_int cst_bool cst_string cst_slice cst_tuple cst_nilFunc cst_pointer cst_func bin_add bin_sub bin_mul bin_quo bin_rem bin_eql bin_neq bin_lss bin_leq bin_gtr bin_geq bin_bool bin_aggs binT_bool binT_aggs shbd_bool eqb_eql eqb_neq bin_slice bin_str_eql bin_str_neq bin_str_lss bin_str_add nz_v nz_n nz_s nz_p nz_f nz_st atz_v atz_n atz_s atz_p atz_f atz_st atz_agg atR_one atR_tup crow_nil crow_cons slc_c slc_n slc_own slc_nil raws setR placesT_nil placesT_cons zc chunk zsAll setD ocD_v ocD_n ocD_s ocD_p ocD_f ocD_st nrm_v nrm_n nrm_s nrm_p nrm_f nrm_st isV_one isV_tup isV_c isV_agg isV_v isV_n isV_s isV_p isV_f isV_st argRows Sh.agg zds_nil zds_e zds_v zds_s vcells_agg vcells_int vcells_bool vcells_string vcells_slice vcells_pointer toList_lit map_nilL map_consL nzr_e rowsOc_nil rowsOc_cons rowsOc_RD nzr_RD foks_nil foks_cons fok_tmp fok_vt fok_cell fok_nm fok_zn fok_hd fok_sz fok_df Fv_c Fv_seg Fv_tup Fv_agg Fv_ptr Fv_ptrs Fv_wp Fv_fn Fv_fnd Fv_own Fv_ownd Fv_nown Fv_vown FvL_nil FvL_cons kvp_av hdp_some subz frz Uz Nm Uh vw_nb vw_zo vw_zf vw_hb tb_nil tb_cons fzc_nil fzc_cons fzcaps_nil fzcaps_cons ty2 ty3 ty4 ty5 ty6 ty7 ty8 ty9 ty10 ty11 ty12 ty13 ty14 ty15 ty16 ty17 ty18 ty19 ty20 ty21 ty22 ty23 ty24 ty25 ty26 ty27 ty30 ty40 ty48 ty50 ty51 ty52 ty55 ty57 ty62 ty63 ty85 ty94 ty101 ty121 ty122 ty123 ty124 ty125 ty126 ty128 ty148 ty149 ty151 ty164 ty165 ty179 ty182 ty196 ty203 ty205 ty209 ty211 ty215 ty216 ty217 ty218 ty219 ty220 ty221 ty223 ty224 ty225 ty226 ty227 Value.oneCell'
attribute [local simp] kzRows oWr deadZ VK.av kzReads kzWrites oRead hdD cst_nilI
set_option maxRecDepth 100000
def rsB (hs : List Hd) (p : Pr) (fin : Bool) (l : List Pr) : Row := [(.nm 1, .nm true), (.sz 1, .sz 4), (.cell 1 0, .av (.own 900)), (.cell 1 1, .av (.c [] (.v (.int .u64 p.1)))), (.cell 1 2, .av (.c [] (.v (.int .u64 p.2)))), (.cell 1 3, .av (.c [] (.v (.bool fin)))),
  (.hd 900, .hd (.own 126 3 900 [0, 51] (hs.map hdD))), (.zn 900, .zn .live), (.zn 0, .zn .live), (.zn 51, .zn .live), (.nm 2, .nm true), (.cell 2 0, .av (.own 910)), (.hd 910, .hd (.own 52 2 910 [] (l.map PD))), (.zn 910, .zn .live)]
def rsL (hs : List Hd) (p : Pr) (fin : Bool) : Row := (.tmp 0, .av (.ptr 1 0)) :: (.tmp 3, .av (.ptr 2 0)) :: rsB hs p fin []
def rsS (hs : List Hd) (p : Pr) (fin : Bool) (l : List Pr) (k : Nat) : Row := (.vt 0 0, .av (.ptr 1 0)) :: (.vt 0 3, .av (.ptr 2 0)) :: rsB hs p fin (l.take k)
set_option maxHeartbeats 16000000 in
theorem rest_kz (V : VO) (Ls : List Pr) (hG : GoodV V) (hS : Stands V Ls) (hn : Ls.length ≤ 1000000) : Kzo Try.prog 53 (.ptr 0) [] (vC V) (vC V) 52 2 (Ls.map PD) := by
  have cc := copy_kz V hG.2.1
  obtain ⟨hs, p, fin⟩ := V
  refine kz_intro Try.func53 rfl Try.ntmps53 (by simp) (fun W0 A B g hN hP => ?_)
  with_reducible repeat first | refine Jt.i ?_ | refine .g (by decide) ?_
  refine AW.at_ (fun L hL => ?_)
  simp at hL
  subst hL
  refine AW.rc 10 fun K hK => ?_
  repeat (with_reducible refine .s fun X Y Z W => ?_; simp; (first | refine Z.out _ _ ?_ | refine W.out _ ?_ | refine ⟨by kernel_rfl, W.out _ ?_⟩); clear Z W X Y; simp); (try refine .n ?_)
  refine Jt.f hK ?_
  clear hK K
  with_reducible repeat first | refine Jt.i ?_ | refine .g (by decide) ?_
  refine AW.rc 20 fun K hK => ?_
  repeat (with_reducible refine .s fun X Y Z W => ?_; simp; (first | refine Z.out _ _ ?_ | refine W.out _ ?_ | refine ⟨by kernel_rfl, W.out _ ?_⟩); clear Z W X Y; simp); (try refine .n ?_)
  refine .s fun K1 K2 hK1 hK2 => ?_
  simp
  refine hatch_eqnil (neqp .eql false ⟨rfl, rfl⟩) rfl ?_
  refine hK1.out _ _ ?_
  clear hK1 hK2 K1 K2
  (try simp)
  repeat (with_reducible refine .s fun X Y Z W => ?_; simp; (first | refine Z.out _ _ ?_ | refine W.out _ ?_ | refine ⟨by kernel_rfl, W.out _ ?_⟩); clear Z W X Y; simp); (try refine .n ?_)
  refine Jt.f hK ?_
  clear hK K
  with_reducible repeat first | refine Jt.i ?_ | refine .g (by decide) ?_
  refine AW.cf rfl ?_
  with_reducible repeat first | refine Jt.i ?_ | refine .g (by decide) ?_
  refine AW.rc 40 fun K hK => ?_
  repeat (with_reducible refine .s fun X Y Z W => ?_; simp; (first | refine Z.out _ _ ?_ | refine W.out _ ?_ | refine ⟨by kernel_rfl, W.out _ ?_⟩); clear Z W X Y; simp); (try refine .n ?_)
  refine Jt.f hK ?_
  clear hK K
  with_reducible repeat first | refine Jt.i ?_ | refine .g (by decide) ?_
  refine AW.rc 50 fun K hK => ?_
  repeat (with_reducible refine .s fun X Y Z W => ?_; simp; (first | refine Z.out _ _ ?_ | refine W.out _ ?_ | refine ⟨by kernel_rfl, W.out _ ?_⟩); clear Z W X Y; simp); (try refine .n ?_)
  refine .s fun K1 K2 hK1 hK2 => ?_
  try simp
  refine orr_r (orr_r (hatch_kzn (κ := .ptr 0) (fun a w g h => run_val h rfl rfl w) cc ⟨rfl, rfl, rfl, rfl, rfl, rfl, rfl, rfl, rfl⟩ rfl rfl ?_))
  refine hK1.out _ _ ?_
  clear hK1 hK2 K1 K2
  (try simp)
  repeat (with_reducible refine .s fun X Y Z W => ?_; simp; (first | refine Z.out _ _ ?_ | refine W.out _ ?_ | refine ⟨by kernel_rfl, W.out _ ?_⟩); clear Z W X Y; simp); (try refine .n ?_)
  refine .s fun K1 K2 hK1 hK2 => ?_
  try simp
  refine orr_r (orr_r (hatch_pairs rfl rfl ?_))
  refine hK1.out _ _ ?_
  clear hK1 hK2 K1 K2
  (try simp)
  repeat (with_reducible refine .s fun X Y Z W => ?_; simp; (first | refine Z.out _ _ ?_ | refine W.out _ ?_ | refine ⟨by kernel_rfl, W.out _ ?_⟩); clear Z W X Y; simp); (try refine .n ?_)
  refine Jt.f hK ?_
  clear hK K
  with_reducible repeat first | refine Jt.i ?_ | refine .g (by decide) ?_
  have hP : (ckz W0 16 A B g).pz = [0] := rfl
  refine AW.rangeU (L0 := rsL hs p fin) (zs := [0, 51]) (l := told1 Ls) (ps := #[10]) rfl (fun z g h => h.2) (by kernel_rfl) (fun z hz => by simp [ckz] at hz; subst hz; rfl) (fun z hz => by simp at hz; rcases hz with rfl | rfl <;> rfl)
    (vpairs_hU (vw [(2, 40)] [(900, [200051]), (910, [])] [] [(900, some 200051), (910, none)]) (n := 51) (m := 52) hS hG (by simp [rsL, rsB]) rfl rfl rfl ⟨rfl, rfl, rfl⟩ hP rfl (by kernel_rfl) (by kernel_rfl) (by kernel_rfl) (by decide) rfl rfl rfl)
    told1_len (by simp) (by simp [ckz]) (fun k => rsS hs p fin Ls k) (fun k => by kernel_rfl) (fun C' hP hN a w h => h) (fun k x hx => ?_) (done_vt (t0 := 0) (n0 := 1) (x := .ptr 1 0) rfl rfl rfl ?_)
  · obtain ⟨y, hy, hxy⟩ : ∃ y, Ls[k]? = some y ∧ x = [PV y] := by
      simp only [told1, List.getElem?_map, Option.map_eq_some_iff] at hx
      obtain ⟨y, h1, h2⟩ := hx
      exact ⟨y, h1, h2.symm⟩
    subst hxy
    obtain ⟨hk, hky⟩ := List.getElem?_eq_some_iff.1 hy
    have TS := List.take_succ_eq_append_getElem hk
    rw [hky] at TS
    have hlk : (Ls.take k).length ≤ 1000000 := by rw [List.length_take]; omega
    clear hS hG cc
    apply Exists.intro
    refine ⟨?_, fun ln C' hP hN => ?_, fun ln C' hP hN => ?_⟩
    rotate_left
    · have hP : C'.pz = [0, 0, 51] := hP
      have hN : C'.N = 16 := hN
      simp only [parRows, rsS, rsB, tmB]
      with_reducible repeat first | refine Jt.i ?_ | refine .g (by decide) ?_
      refine AW.rc 60 fun K hK => ?_
      repeat (with_reducible refine .s fun X Y Z W => ?_; simp; (first | refine Z.out _ _ ?_ | refine W.out _ ?_ | refine ⟨by kernel_rfl, W.out _ ?_⟩); clear Z W X Y; simp); (try refine .n ?_)
      refine Jt.f hK ?_
      clear hK K
      with_reducible repeat first | refine Jt.i ?_ | refine .g (by decide) ?_
      exact fun a w h => ⟨rfl, h⟩
    · have hP : C'.pz = [0, 0, 51] := hP
      have hN : C'.N = 16 := hN
      with_reducible repeat first | refine Jt.i ?_ | refine .g (by decide) ?_
      refine AW.rc 70 fun K hK => ?_
      repeat (with_reducible refine .s fun X Y Z W => ?_; simp; (first | refine Z.out _ _ ?_ | refine W.out _ ?_ | refine ⟨by kernel_rfl, W.out _ ?_⟩); clear Z W X Y; simp); (try refine .n ?_)
      refine .s fun K1 K2 hK1 hK2 => ?_
      simp
      refine ya_mk (by (simp [maxI]; omega)) ?_
      (try simp)
      refine hK1.out _ _ ?_
      clear hK1 hK2 K1 K2
      (try simp)
      repeat (with_reducible refine .s fun X Y Z W => ?_; simp; (first | refine Z.out _ _ ?_ | refine W.out _ ?_ | refine ⟨by kernel_rfl, W.out _ ?_⟩); clear Z W X Y; simp); (try refine .n ?_)
      refine Jt.f hK ?_
      clear hK K
      with_reducible repeat first | refine Jt.i ?_ | refine .g (by decide) ?_
      exact fun a w h => ⟨rfl, (view_of (vw [] [(900, [900]), (910, [73])] [] [(900, some 900), (910, some 73)]) (by simp [rsS, rsB, TS])) a w h⟩
    · kernel_rfl
  · have e : (told1 Ls).length = Ls.length := by simp
    rw [e]
    simp only [rsS, rsB, tmOf, List.take_length]
    with_reducible repeat first | refine Jt.i ?_ | refine .g (by decide) ?_
    refine AW.rc 80 fun K hK => ?_
    repeat (with_reducible refine .s fun X Y Z W => ?_; simp; (first | refine Z.out _ _ ?_ | refine W.out _ ?_ | refine ⟨by kernel_rfl, W.out _ ?_⟩); clear Z W X Y; simp); (try refine .n ?_)
    refine Jt.f hK ?_
    clear hK K
    with_reducible repeat first | refine Jt.i ?_ | refine .g (by decide) ?_
    refine nx_kzo (t := 2) (h := 910) (.inr rfl) rfl rfl rfl rfl rfl rfl ⟨rfl, rfl, rfl⟩ rfl
theorem skipR_drop {p : Pr} {l : List Pr} (h : Rises l) : l.drop (placeL l p) = skipR p l := by
  obtain ⟨h1, h2⟩ := place_split (p := p) h
  conv => rhs; rw [← List.take_append_drop (placeL l p) l]
  unfold skipR
  rw [List.filter_append, List.filter_eq_nil_iff.2 (fun x hx => by simpa using h1 x hx), List.filter_eq_self.2 (fun x hx => by simpa using h2 x hx)]
  rfl
theorem skipL_snoc (p : Pr) (h : Hd) : ∀ hs : List Hd, skipL p (hs ++ [h]) = if skipR p h.2.2 = [] then skipL p hs else skipL p hs ++ [(h.1, h.2.1, skipR p h.2.2)]
  | [] => by unfold skipL; simp [skipL]
  | x :: r => by
    have := skipL_snoc p h r
    rw [List.cons_append]
    unfold skipL
    rw [this]
    split <;> split <;> simp
theorem skipL_s (p : Pr) {hs : List Hd} {k : Nat} {h : Hd} (hk : hs[k]? = some h) : skipL p (hs.take (k + 1)) = if skipR p h.2.2 = [] then skipL p (hs.take k) else skipL p (hs.take k) ++ [(h.1, h.2.1, skipR p h.2.2)] := by
  rw [← skipL_snoc, List.take_add_one, hk]
  rfl
def skS (hs : List Hd) (p at_ : Pr) (fin : Bool) (k : Nat) : Row := [(.cell 3 0, .av (.c [] (.v (.int .u64 p.1)))), (.cell 3 1, .av (.c [] (.v (.int .u64 p.2)))), (.nm 3, .nm true), (.tmp 3, .av (.ptr 3 0)), (.tmp 4, .av (.own 910)), (.zn 910, .zn .live), (.zn 911, .zn .live), (.hd 910, .hd (.own 126 3 910 [900, 0, 901, 911] ((skipL p (hs.take k)).map hdD))), (.tmp 12, .av (.own 900)), (.tmp 13, .av (.c [] (.v (.int .i64 hs.length)))), (.tmp 14, .av (.c [] (.v (.int .i64 k))))] ++ hpR2 (.ptr 1 0) hs at_ fin
set_option maxHeartbeats 16000000 in
theorem skip_kz (hs : List Hd) (p at_ : Pr) (fin : Bool) (hn : hs.length ≤ 500) (hr : ∀ x ∈ hs, Rises x.2.2) (hb : ∀ x ∈ hs, x.2.2.length ≤ 100000000) : Kz Try.prog 111 (.ptr 0) [PV p] (vC ⟨hs, at_, fin⟩) (vC (skipV p ⟨hs, at_, fin⟩)) (.tup []) := by
  have ci := pinit_kz (skipL p hs) at_ fin (Nat.le_trans (skipL_len p hs) hn) (fun x hx => (skipL_mem.1 hx).1)
  refine kz_intro Try.func111 rfl Try.ntmps111 (by simp) (fun W0 A B g hN hP => ?_)
  with_reducible repeat first | refine Jt.i ?_ | refine .g (by decide) ?_
  refine AW.at_ (fun L hL => ?_)
  simp at hL
  subst hL
  refine AW.rc 10 fun K hK => ?_
  repeat (with_reducible refine .s fun X Y Z W => ?_; simp; (first | refine Z.out _ _ ?_ | refine W.out _ ?_ | refine ⟨by kernel_rfl, W.out _ ?_⟩); clear Z W X Y; simp); (try refine .n ?_)
  refine Jt.f hK ?_
  clear hK K
  with_reducible repeat first | refine Jt.i ?_ | refine .g (by decide) ?_
  refine AW.rc 20 fun K hK => ?_
  repeat (with_reducible refine .s fun X Y Z W => ?_; simp; (first | refine Z.out _ _ ?_ | refine W.out _ ?_ | refine ⟨by kernel_rfl, W.out _ ?_⟩); clear Z W X Y; simp); (try refine .n ?_)
  refine Jt.f hK ?_
  clear hK K
  with_reducible repeat first | refine Jt.i ?_ | refine .g (by decide) ?_
  refine AW.rc 30 fun K hK => ?_
  repeat (with_reducible refine .s fun X Y Z W => ?_; simp; (first | refine Z.out _ _ ?_ | refine W.out _ ?_ | refine ⟨by kernel_rfl, W.out _ ?_⟩); clear Z W X Y; simp); (try refine .n ?_)
  refine .s fun K1 K2 hK1 hK2 => ?_
  simp
  refine hatch_nilp rfl ?_
  refine hK1.out _ _ ?_
  clear hK1 hK2 K1 K2
  (try simp)
  repeat (with_reducible refine .s fun X Y Z W => ?_; simp; (first | refine Z.out _ _ ?_ | refine W.out _ ?_ | refine ⟨by kernel_rfl, W.out _ ?_⟩); clear Z W X Y; simp); (try refine .n ?_)
  refine Jt.f hK ?_
  clear hK K
  with_reducible repeat first | refine Jt.i ?_ | refine .g (by decide) ?_
  refine AW.loop (X := { k : Nat // k ≤ hs.length }) (fun x => skS hs p at_ fin x.1) (fun x => hs.length - x.1) ⟨0, Nat.zero_le _⟩ (view_of (vw [(3, 10)] [(900, [200001]), (901, []), (910, []), (911, [])] [] [(900, some 200001), (910, none)]) (by simp [skS, skipL])) (fun x => ?_)
  obtain ⟨k, hk⟩ := x
  refine AW.at_ (fun L hL => ?_)
  simp [skS] at hL
  subst hL
  with_reducible repeat first | refine Jt.i ?_ | refine .g (by decide) ?_
  by_cases hgo : k < hs.length
  · have w5 : IntKind.i64.wrap ((k : Int) + 1) = ((k + 1 : Nat) : Int) := by rw [i64_ok _ (by omega) (by omega)]; omega
    have hgi : (k : Int) < (hs.length : Int) := by omega
    obtain ⟨⟨t, ad, l⟩, hx⟩ := some_of_lt hgo
    have hm := List.mem_of_getElem? hx
    have rx := hs_at hx
    have hrl := hr _ hm
    have hbl := hb _ hm
    simp only at hrl hbl rx
    have cs := search_ct l p hrl hbl
    have hd := skipR_drop (p := p) hrl
    have hs1 := skipL_s p hx
    simp only at hs1
    have hpl := placeL_le l p
    have hSl : (skipL p (hs.take k)).length ≤ hs.length := Nat.le_trans (skipL_len _ _) (by rw [List.length_take]; omega)
    generalize decide (p ∈ l) = bb at cs
    generalize placeL l p = m at *
    generalize skipL p (hs.take k) = S at *
    generalize hlen : hs.length = n at *
    have hdm : (l.map PD).drop m = (skipR p l).map PD := by rw [← hd, List.map_drop]
    generalize skipR p l = l' at *
    refine AW.rc 40 fun K hK => ?_
    repeat (with_reducible refine .s fun X Y Z W => ?_; simp [hgi]; (first | refine Z.out _ _ ?_ | refine W.out _ ?_ | refine ⟨by kernel_rfl, W.out _ ?_⟩); clear Z W X Y; simp [hgi]); (try refine .n ?_)
    refine Jt.f hK ?_
    clear hK K
    with_reducible repeat first | refine Jt.i ?_ | refine .g (by decide) ?_
    refine AW.ct rfl ?_
    with_reducible repeat first | refine Jt.i ?_ | refine .g (by decide) ?_
    refine AW.rc 50 fun K hK => ?_
    repeat (with_reducible refine .s fun X Y Z W => ?_; simp [hgi]; (first | refine Z.out _ _ ?_ | refine W.out _ ?_ | refine ⟨by kernel_rfl, W.out _ ?_⟩); clear Z W X Y; simp [hgi]); (try refine .n ?_)
    refine .s fun K1 K2 hK1 hK2 => ?_
    simp [hgi]
    first | refine ⟨k, _, rfl, rx, ?_⟩ | refine orr_l ⟨k, _, rfl, rx, ?_⟩
    refine hK1.out _ _ ?_
    clear hK1 hK2 K1 K2
    (try simp [hgi])
    repeat (with_reducible refine .s fun X Y Z W => ?_; simp [hgi]; (first | refine Z.out _ _ ?_ | refine W.out _ ?_ | refine ⟨by kernel_rfl, W.out _ ?_⟩); clear Z W X Y; simp [hgi]); (try refine .n ?_)
    refine Jt.f hK ?_
    clear hK K
    with_reducible repeat first | refine Jt.i ?_ | refine .g (by decide) ?_
    refine AW.rc 60 fun K hK => ?_
    repeat (with_reducible refine .s fun X Y Z W => ?_; simp; (first | refine Z.out _ _ ?_ | refine W.out _ ?_ | refine ⟨by kernel_rfl, W.out _ ?_⟩); clear Z W X Y; simp); (try refine .n ?_)
    refine .s fun K1 K2 hK1 hK2 => ?_
    simp
    refine orr_l ⟨by kernel_rfl, .inl ⟨_, cs, ?_⟩⟩
    (try simp)
    refine hK1.out _ _ ?_
    clear hK1 hK2 K1 K2
    (try simp)
    repeat (with_reducible refine .s fun X Y Z W => ?_; simp; (first | refine Z.out _ _ ?_ | refine W.out _ ?_ | refine ⟨by kernel_rfl, W.out _ ?_⟩); clear Z W X Y; simp); (try refine .n ?_)
    refine Jt.f hK ?_
    clear hK K
    with_reducible repeat first | refine Jt.i ?_ | refine .g (by decide) ?_
    refine AW.keep 15 (fun L hL => ?_)
    simp only [keepT_nil, keepT_tmp, keepT_vt, keepT_cell, keepT_zn, keepT_nm, keepT_hd, keepT_sz, keepT_df, if_true, if_false, Nat.reduceLT, reduceIte] at hL
    subst hL
    refine AW.rc 70 fun K hK => ?_
    repeat (with_reducible refine .s fun X Y Z W => ?_; simp; (first | refine Z.out _ _ ?_ | refine W.out _ ?_ | refine ⟨by kernel_rfl, W.out _ ?_⟩); clear Z W X Y; simp); (try refine .n ?_)
    refine .s fun K1 K2 hK1 hK2 => ?_
    simp
    refine slice_from (rows := l.map PD) (k := m) (by simpa using hpl) ?_
    refine hK1.out _ _ ?_
    clear hK1 hK2 K1 K2
    (try simp)
    repeat (with_reducible refine .s fun X Y Z W => ?_; simp; (first | refine Z.out _ _ ?_ | refine W.out _ ?_ | refine ⟨by kernel_rfl, W.out _ ?_⟩); clear Z W X Y; simp); (try refine .n ?_)
    rw [hdm]
    refine Jt.f hK ?_
    clear hK K
    with_reducible repeat first | refine Jt.i ?_ | refine .g (by decide) ?_
    refine AW.keep 15 (fun L hL => ?_)
    simp only [keepT_nil, keepT_tmp, keepT_vt, keepT_cell, keepT_zn, keepT_nm, keepT_hd, keepT_sz, keepT_df, if_true, if_false, Nat.reduceLT, reduceIte] at hL
    subst hL
    by_cases hl0 : l' = []
    · subst hl0
      rw [if_pos rfl] at hs1
      refine AW.rc 80 fun K hK => ?_
      repeat (with_reducible refine .s fun X Y Z W => ?_; simp; (first | refine Z.out _ _ ?_ | refine W.out _ ?_ | refine ⟨by kernel_rfl, W.out _ ?_⟩); clear Z W X Y; simp); (try refine .n ?_)
      refine Jt.f hK ?_
      clear hK K
      with_reducible repeat first | refine Jt.i ?_ | refine .g (by decide) ?_
      refine AW.cf rfl ?_
      with_reducible repeat first | refine Jt.i ?_ | refine .g (by decide) ?_
      refine AW.keep 15 (fun L hL => ?_)
      simp only [keepT_nil, keepT_tmp, keepT_vt, keepT_cell, keepT_zn, keepT_nm, keepT_hd, keepT_sz, keepT_df, if_true, if_false, Nat.reduceLT, reduceIte] at hL
      subst hL
      refine AW.rc 100 fun K hK => ?_
      repeat (with_reducible refine .s fun X Y Z W => ?_; simp [w5]; (first | refine Z.out _ _ ?_ | refine W.out _ ?_ | refine ⟨by kernel_rfl, W.out _ ?_⟩); clear Z W X Y; simp [w5]); (try refine .n ?_)
      refine Jt.f hK ?_
      clear hK K
      with_reducible repeat first | refine Jt.i ?_ | refine .g (by decide) ?_
      exact NX.round ⟨k + 1, hgo⟩ (by show n - (k + 1) < n - k; omega) (view_of (vw [(3, 3)] [(900, [900]), (901, [901]), (910, [910]), (911, [911])] [] [(900, some 900), (910, some 910)]) (by simp [skS, hs1, hlen]))
    · have g2 : 0 < l'.length := List.length_pos_iff.2 hl0
      rw [if_neg hl0] at hs1
      refine AW.rc 80 fun K hK => ?_
      repeat (with_reducible refine .s fun X Y Z W => ?_; simp [g2]; (first | refine Z.out _ _ ?_ | refine W.out _ ?_ | refine ⟨by kernel_rfl, W.out _ ?_⟩); clear Z W X Y; simp [g2]); (try refine .n ?_)
      refine Jt.f hK ?_
      clear hK K
      with_reducible repeat first | refine Jt.i ?_ | refine .g (by decide) ?_
      refine AW.ct rfl ?_
      with_reducible repeat first | refine Jt.i ?_ | refine .g (by decide) ?_
      refine AW.keep 15 (fun L hL => ?_)
      simp only [keepT_nil, keepT_tmp, keepT_vt, keepT_cell, keepT_zn, keepT_nm, keepT_hd, keepT_sz, keepT_df, if_true, if_false, Nat.reduceLT, reduceIte] at hL
      subst hL
      refine AW.rc 90 fun K hK => ?_
      repeat (with_reducible refine .s fun X Y Z W => ?_; simp; (first | refine Z.out _ _ ?_ | refine W.out _ ?_ | refine ⟨by kernel_rfl, W.out _ ?_⟩); clear Z W X Y; simp); (try refine .n ?_)
      refine .s fun K1 K2 hK1 hK2 => ?_
      simp
      refine ya_mk (by (simp [maxI]; omega)) ?_
      (try simp)
      refine hK1.out _ _ ?_
      clear hK1 hK2 K1 K2
      (try simp)
      repeat (with_reducible refine .s fun X Y Z W => ?_; simp; (first | refine Z.out _ _ ?_ | refine W.out _ ?_ | refine ⟨by kernel_rfl, W.out _ ?_⟩); clear Z W X Y; simp); (try refine .n ?_)
      refine Jt.f hK ?_
      clear hK K
      with_reducible repeat first | refine Jt.i ?_ | refine .g (by decide) ?_
      refine AW.rc 100 fun K hK => ?_
      repeat (with_reducible refine .s fun X Y Z W => ?_; simp [w5]; (first | refine Z.out _ _ ?_ | refine W.out _ ?_ | refine ⟨by kernel_rfl, W.out _ ?_⟩); clear Z W X Y; simp [w5]); (try refine .n ?_)
      refine Jt.f hK ?_
      clear hK K
      with_reducible repeat first | refine Jt.i ?_ | refine .g (by decide) ?_
      exact NX.round ⟨k + 1, hgo⟩ (by show n - (k + 1) < n - k; omega) (view_of (vw [(3, 3)] [(900, [900]), (901, [901]), (910, [93]), (911, [911, 92])] [] [(900, some 900), (910, some 93)]) (by simp [skS, hs1, hlen]))
  · obtain rfl : k = hs.length := by omega
    rw [List.take_length]
    generalize hlen : hs.length = n at *
    refine AW.rc 40 fun K hK => ?_
    repeat (with_reducible refine .s fun X Y Z W => ?_; simp; (first | refine Z.out _ _ ?_ | refine W.out _ ?_ | refine ⟨by kernel_rfl, W.out _ ?_⟩); clear Z W X Y; simp); (try refine .n ?_)
    refine Jt.f hK ?_
    clear hK K
    with_reducible repeat first | refine Jt.i ?_ | refine .g (by decide) ?_
    refine AW.cf rfl ?_
    with_reducible repeat first | refine Jt.i ?_ | refine .g (by decide) ?_
    refine AW.rc 110 fun K hK => ?_
    repeat (with_reducible refine .s fun X Y Z W => ?_; simp; (first | refine Z.out _ _ ?_ | refine W.out _ ?_ | refine ⟨by kernel_rfl, W.out _ ?_⟩); clear Z W X Y; simp); (try refine .n ?_)
    refine .s fun K1 K2 hK1 hK2 => ?_
    simp
    refine hatch_nilp rfl ?_
    refine hK1.out _ _ ?_
    clear hK1 hK2 K1 K2
    (try simp)
    repeat (with_reducible refine .s fun X Y Z W => ?_; simp; (first | refine Z.out _ _ ?_ | refine W.out _ ?_ | refine ⟨by kernel_rfl, W.out _ ?_⟩); clear Z W X Y; simp); (try refine .n ?_)
    refine Jt.f hK ?_
    clear hK K
    with_reducible repeat first | refine Jt.i ?_ | refine .g (by decide) ?_
    refine AW.rc 120 fun K hK => ?_
    repeat (with_reducible refine .s fun X Y Z W => ?_; simp; (first | refine Z.out _ _ ?_ | refine W.out _ ?_ | refine ⟨by kernel_rfl, W.out _ ?_⟩); clear Z W X Y; simp); (try refine .n ?_)
    refine .s fun K1 K2 hK1 hK2 => ?_
    simp
    refine hatch_nilp rfl ?_
    refine hK1.out _ _ ?_
    clear hK1 hK2 K1 K2
    (try simp)
    repeat (with_reducible refine .s fun X Y Z W => ?_; simp; (first | refine Z.out _ _ ?_ | refine W.out _ ?_ | refine ⟨by kernel_rfl, W.out _ ?_⟩); clear Z W X Y; simp); (try refine .n ?_)
    refine .s fun K1 K2 hK1 hK2 => ?_
    simp
    refine hatch_mkifc make_hp rfl ?_
    refine hK1.out _ _ ?_
    clear hK1 hK2 K1 K2
    (try simp)
    repeat (with_reducible refine .s fun X Y Z W => ?_; simp; (first | refine Z.out _ _ ?_ | refine W.out _ ?_ | refine ⟨by kernel_rfl, W.out _ ?_⟩); clear Z W X Y; simp); (try refine .n ?_)
    refine .s fun K1 K2 hK1 hK2 => ?_
    try simp
    refine orr_r (orr_r (hatch_kz (κ := .ifc 128) (fun a w g h => run_val h rfl rfl w) ci ⟨rfl, rfl, rfl, rfl, rfl, rfl, rfl, rfl, rfl⟩ ?_))
    refine hK1.out _ _ ?_
    clear hK1 hK2 K1 K2
    (try simp)
    repeat (with_reducible refine .s fun X Y Z W => ?_; simp; (first | refine Z.out _ _ ?_ | refine W.out _ ?_ | refine ⟨by kernel_rfl, W.out _ ?_⟩); clear Z W X Y; simp); (try refine .n ?_)
    refine Jt.f hK ?_
    clear hK K
    with_reducible repeat first | refine Jt.i ?_ | refine .g (by decide) ?_
    refine nx_kz (yo := ?_) (zs := ?_) (r := ?_) ty (by first | exact .inl rfl | exact .inr rfl) rfl rfl rfl rfl rfl rfl ⟨rfl, rfl, ?_⟩ ?_
    rotate_left 3
    · rfl
    · rfl
theorem skipL_pairs (p : Pr) : ∀ hs : List Hd, pairsH (skipL p hs) ≤ pairsH hs
  | [] => Nat.le_refl _
  | h :: r => by
    have := skipL_pairs p r
    have hf : (skipR p h.2.2).length ≤ h.2.2.length := List.length_filter_le _ _
    unfold skipL
    unfold pairsH at *
    split
    · simp; omega
    · simp; omega
theorem row_pairs {h : Hd} : ∀ {hs : List Hd}, h ∈ hs → h.2.2.length ≤ pairsH hs
  | x :: r, m => by
    unfold pairsH
    rw [List.map_cons, List.sum_cons]
    rcases List.mem_cons.1 m with rfl | m
    · exact Nat.le_add_right _ _
    · have := row_pairs m
      unfold pairsH at this
      exact Nat.le_trans this (Nat.le_add_left _ _)
theorem GoodV.skip {V : VO} (h : GoodV V) (p : Pr) : GoodV (skipV p V) := by
  have pm := initL_perm (lt := ltH) (skipL p V.hs) ((skipL p V.hs).length / 2)
  refine ⟨(skipV_good h.1).1, ?_, ?_⟩
  · show (initL ltH (skipL p V.hs) _).length ≤ 500
    rw [pm.length_eq]
    exact Nat.le_trans (skipL_len _ _) h.2.1
  · show pairsH (initL ltH (skipL p V.hs) _) ≤ _
    rw [pairsH_perm pm]
    exact Nat.le_trans (skipL_pairs _ _) h.2.2
theorem GoodV.seek {V : VO} (h : GoodV V) (p : Pr) : GoodV (seekV p V) := by
  unfold seekV
  split
  · exact (h.skip p).step
  · exact h
set_option maxHeartbeats 16000000 in
theorem seek_kz (V : VO) (p : Pr) (h : GoodV V) : Kz Try.prog 50 (.ptr 0) [PV p] (vC V) (vC (seekV p V)) (.one (dI 0)) := by
  obtain ⟨hs, at_, fin⟩ := V
  have c0 := compare_ct at_ p
  have c1 := skip_kz hs p at_ fin h.2.1 h.1.rs (fun x hx => Nat.le_trans (row_pairs hx) h.2.2)
  have c2 := step_kz (skipV p ⟨hs, at_, fin⟩).hs at_ fin (h.skip p).2.1 (h.skip p).1
  have hv : (⟨(skipV p ⟨hs, at_, fin⟩).hs, at_, fin⟩ : VO) = skipV p ⟨hs, at_, fin⟩ := rfl
  rw [hv] at c2
  have e1 : seekV p ⟨hs, at_, fin⟩ = if fin = false ∧ lt at_ p then stepV (skipV p ⟨hs, at_, fin⟩) else ⟨hs, at_, fin⟩ := by unfold seekV; congr
  rw [e1]
  clear e1
  generalize stepV (skipV p ⟨hs, at_, fin⟩) = R at *
  obtain ⟨S, hS⟩ : ∃ S, (skipV p ⟨hs, at_, fin⟩).hs = S := ⟨_, rfl⟩
  have hv2 : skipV p ⟨hs, at_, fin⟩ = ⟨S, at_, fin⟩ := by rw [← hS]; rfl
  rw [hv2] at c1 c2
  refine kz_intro Try.func50 rfl Try.ntmps50 (by simp) (fun W0 A B g hN hP => ?_)
  with_reducible repeat first | refine Jt.i ?_ | refine .g (by decide) ?_
  refine AW.at_ (fun L hL => ?_)
  simp at hL
  subst hL
  refine AW.rc 10 fun K hK => ?_
  repeat (with_reducible refine .s fun X Y Z W => ?_; simp; (first | refine Z.out _ _ ?_ | refine W.out _ ?_ | refine ⟨by kernel_rfl, W.out _ ?_⟩); clear Z W X Y; simp); (try refine .n ?_)
  refine Jt.f hK ?_
  clear hK K
  with_reducible repeat first | refine Jt.i ?_ | refine .g (by decide) ?_
  refine AW.rc 20 fun K hK => ?_
  repeat (with_reducible refine .s fun X Y Z W => ?_; simp; (first | refine Z.out _ _ ?_ | refine W.out _ ?_ | refine ⟨by kernel_rfl, W.out _ ?_⟩); clear Z W X Y; simp); (try refine .n ?_)
  refine .s fun K1 K2 hK1 hK2 => ?_
  simp
  refine hatch_eqnil (neqp .eql false ⟨rfl, rfl⟩) rfl ?_
  refine hK1.out _ _ ?_
  clear hK1 hK2 K1 K2
  (try simp)
  repeat (with_reducible refine .s fun X Y Z W => ?_; simp; (first | refine Z.out _ _ ?_ | refine W.out _ ?_ | refine ⟨by kernel_rfl, W.out _ ?_⟩); clear Z W X Y; simp); (try refine .n ?_)
  refine Jt.f hK ?_
  clear hK K
  with_reducible repeat first | refine Jt.i ?_ | refine .g (by decide) ?_
  refine AW.cf rfl ?_
  with_reducible repeat first | refine Jt.i ?_ | refine .g (by decide) ?_
  cases fin with
  | true =>
    rw [if_neg (fun k => by cases k.1)]
    refine AW.rc 40 fun K hK => ?_
    repeat (with_reducible refine .s fun X Y Z W => ?_; simp; (first | refine Z.out _ _ ?_ | refine W.out _ ?_ | refine ⟨by kernel_rfl, W.out _ ?_⟩); clear Z W X Y; simp); (try refine .n ?_)
    refine .s fun K1 K2 hK1 hK2 => ?_
    simp
    refine hatch_bound rfl ?_
    refine hK1.out _ _ ?_
    clear hK1 hK2 K1 K2
    (try simp)
    repeat (with_reducible refine .s fun X Y Z W => ?_; simp; (first | refine Z.out _ _ ?_ | refine W.out _ ?_ | refine ⟨by kernel_rfl, W.out _ ?_⟩); clear Z W X Y; simp); (try refine .n ?_)
    refine Jt.f hK ?_
    clear hK K
    with_reducible repeat first | refine Jt.i ?_ | refine .g (by decide) ?_
    refine AW.rc 50 fun K hK => ?_
    repeat (with_reducible refine .s fun X Y Z W => ?_; simp; (first | refine Z.out _ _ ?_ | refine W.out _ ?_ | refine ⟨by kernel_rfl, W.out _ ?_⟩); clear Z W X Y; simp); (try refine .n ?_)
    refine .s fun K1 K2 hK1 hK2 => ?_
    simp
    refine hatch_nilp rfl ?_
    refine hK1.out _ _ ?_
    clear hK1 hK2 K1 K2
    (try simp)
    repeat (with_reducible refine .s fun X Y Z W => ?_; simp; (first | refine Z.out _ _ ?_ | refine W.out _ ?_ | refine ⟨by kernel_rfl, W.out _ ?_⟩); clear Z W X Y; simp); (try refine .n ?_)
    refine ⟨chk_drawn (by kernel_rfl) (by kernel_rfl), hK.out _ ?_⟩
    clear hK K
    with_reducible repeat first | refine Jt.i ?_ | refine .g (by decide) ?_
    refine AW.cf rfl ?_
    with_reducible repeat first | refine Jt.i ?_ | refine .g (by decide) ?_
    refine AW.rc 80 fun K hK => ?_
    repeat (with_reducible refine .s fun X Y Z W => ?_; simp; (first | refine Z.out _ _ ?_ | refine W.out _ ?_ | refine ⟨by kernel_rfl, W.out _ ?_⟩); clear Z W X Y; simp); (try refine .n ?_)
    refine Jt.f hK ?_
    clear hK K
    with_reducible repeat first | refine Jt.i ?_ | refine .g (by decide) ?_
    refine nx_kz (yo := ?_) (zs := ?_) (r := ?_) ty (by first | exact .inl rfl | exact .inr rfl) rfl rfl rfl rfl rfl rfl ⟨rfl, rfl, ?_⟩ ?_
    rotate_left 3
    · rfl
    · rfl
  | false =>
    rcases lt_total at_ p with hl | hl | hl
    · have e := (pcmp_lt _ _).2 hl
      rw [if_pos ⟨rfl, hl⟩]
      refine AW.rc 40 fun K hK => ?_
      repeat (with_reducible refine .s fun X Y Z W => ?_; simp [e]; (first | refine Z.out _ _ ?_ | refine W.out _ ?_ | refine ⟨by kernel_rfl, W.out _ ?_⟩); clear Z W X Y; simp [e]); (try refine .n ?_)
      refine .s fun K1 K2 hK1 hK2 => ?_
      simp [e]
      refine hatch_bound rfl ?_
      refine hK1.out _ _ ?_
      clear hK1 hK2 K1 K2
      (try simp [e])
      repeat (with_reducible refine .s fun X Y Z W => ?_; simp [e]; (first | refine Z.out _ _ ?_ | refine W.out _ ?_ | refine ⟨by kernel_rfl, W.out _ ?_⟩); clear Z W X Y; simp [e]); (try refine .n ?_)
      refine Jt.f hK ?_
      clear hK K
      with_reducible repeat first | refine Jt.i ?_ | refine .g (by decide) ?_
      refine AW.rc 50 fun K hK => ?_
      repeat (with_reducible refine .s fun X Y Z W => ?_; simp [e]; (first | refine Z.out _ _ ?_ | refine W.out _ ?_ | refine ⟨by kernel_rfl, W.out _ ?_⟩); clear Z W X Y; simp [e]); (try refine .n ?_)
      refine .s fun K1 K2 hK1 hK2 => ?_
      simp [e]
      refine hatch_nilp rfl ?_
      refine hK1.out _ _ ?_
      clear hK1 hK2 K1 K2
      (try simp [e])
      repeat (with_reducible refine .s fun X Y Z W => ?_; simp [e]; (first | refine Z.out _ _ ?_ | refine W.out _ ?_ | refine ⟨by kernel_rfl, W.out _ ?_⟩); clear Z W X Y; simp [e]); (try refine .n ?_)
      refine .s fun K1 K2 hK1 hK2 => ?_
      simp [e]
      refine hatch_nilp rfl ?_
      refine hK1.out _ _ ?_
      clear hK1 hK2 K1 K2
      (try simp [e])
      repeat (with_reducible refine .s fun X Y Z W => ?_; simp [e]; (first | refine Z.out _ _ ?_ | refine W.out _ ?_ | refine ⟨by kernel_rfl, W.out _ ?_⟩); clear Z W X Y; simp [e]); (try refine .n ?_)
      refine .s fun K1 K2 hK1 hK2 => ?_
      simp [e]
      refine orr_l ⟨by kernel_rfl, .inl ⟨_, c0, ?_⟩⟩
      (try simp [e])
      refine hK1.out _ _ ?_
      clear hK1 hK2 K1 K2
      (try simp [e])
      repeat (with_reducible refine .s fun X Y Z W => ?_; simp [e]; (first | refine Z.out _ _ ?_ | refine W.out _ ?_ | refine ⟨by kernel_rfl, W.out _ ?_⟩); clear Z W X Y; simp [e]); (try refine .n ?_)
      refine ⟨chk_drawn (by kernel_rfl) (by kernel_rfl), hK.out _ ?_⟩
      clear hK K
      with_reducible repeat first | refine Jt.i ?_ | refine .g (by decide) ?_
      refine AW.ct rfl ?_
      with_reducible repeat first | refine Jt.i ?_ | refine .g (by decide) ?_
      refine AW.keep 6 (fun L hL => ?_)
      simp only [keepT_nil, keepT_tmp, keepT_vt, keepT_cell, keepT_zn, keepT_nm, keepT_hd, keepT_sz, keepT_df, if_true, if_false, Nat.reduceLT, reduceIte] at hL
      subst hL
      refine AW.rc 60 fun K hK => ?_
      repeat (with_reducible refine .s fun X Y Z W => ?_; simp [e]; (first | refine Z.out _ _ ?_ | refine W.out _ ?_ | refine ⟨by kernel_rfl, W.out _ ?_⟩); clear Z W X Y; simp [e]); (try refine .n ?_)
      refine .s fun K1 K2 hK1 hK2 => ?_
      try simp [e]
      refine orr_r (orr_r (hatch_kz (κ := .fn 111) (fun a w g h => run_bound h rfl w) c1 ⟨rfl, rfl, rfl, rfl, rfl, rfl, rfl, rfl, rfl⟩ ?_))
      refine hK1.out _ _ ?_
      clear hK1 hK2 K1 K2
      (try simp [e])
      repeat (with_reducible refine .s fun X Y Z W => ?_; simp [e]; (first | refine Z.out _ _ ?_ | refine W.out _ ?_ | refine ⟨by kernel_rfl, W.out _ ?_⟩); clear Z W X Y; simp [e]); (try refine .n ?_)
      refine Jt.f hK ?_
      clear hK K
      with_reducible repeat first | refine Jt.i ?_ | refine .g (by decide) ?_
      refine AW.rc 70 fun K hK => ?_
      repeat (with_reducible refine .s fun X Y Z W => ?_; simp [e]; (first | refine Z.out _ _ ?_ | refine W.out _ ?_ | refine ⟨by kernel_rfl, W.out _ ?_⟩); clear Z W X Y; simp [e]); (try refine .n ?_)
      refine .s fun K1 K2 hK1 hK2 => ?_
      try simp [e]
      refine orr_r (orr_r (hatch_kz (κ := .ptr 0) (fun a w g h => run_val h rfl rfl w) c2 ⟨rfl, rfl, rfl, rfl, rfl, rfl, rfl, rfl, rfl⟩ ?_))
      refine hK1.out _ _ ?_
      clear hK1 hK2 K1 K2
      (try simp [e])
      repeat (with_reducible refine .s fun X Y Z W => ?_; simp [e]; (first | refine Z.out _ _ ?_ | refine W.out _ ?_ | refine ⟨by kernel_rfl, W.out _ ?_⟩); clear Z W X Y; simp [e]); (try refine .n ?_)
      refine Jt.f hK ?_
      clear hK K
      with_reducible repeat first | refine Jt.i ?_ | refine .g (by decide) ?_
      refine AW.rc 80 fun K hK => ?_
      repeat (with_reducible refine .s fun X Y Z W => ?_; simp [e]; (first | refine Z.out _ _ ?_ | refine W.out _ ?_ | refine ⟨by kernel_rfl, W.out _ ?_⟩); clear Z W X Y; simp [e]); (try refine .n ?_)
      refine Jt.f hK ?_
      clear hK K
      with_reducible repeat first | refine Jt.i ?_ | refine .g (by decide) ?_
      refine nx_kz (yo := ?_) (zs := ?_) (r := ?_) ty (by first | exact .inl rfl | exact .inr rfl) rfl rfl rfl rfl rfl rfl ⟨rfl, rfl, ?_⟩ ?_
      rotate_left 3
      · rfl
      · rfl
    · have e : pcmp at_ p = 0 := (pcmp_eq _ _).2 hl
      rw [if_neg (fun k => by rw [hl] at k; exact lt_irrefl _ k.2)]
      refine AW.rc 40 fun K hK => ?_
      repeat (with_reducible refine .s fun X Y Z W => ?_; simp [e]; (first | refine Z.out _ _ ?_ | refine W.out _ ?_ | refine ⟨by kernel_rfl, W.out _ ?_⟩); clear Z W X Y; simp [e]); (try refine .n ?_)
      refine .s fun K1 K2 hK1 hK2 => ?_
      simp [e]
      refine hatch_bound rfl ?_
      refine hK1.out _ _ ?_
      clear hK1 hK2 K1 K2
      (try simp [e])
      repeat (with_reducible refine .s fun X Y Z W => ?_; simp [e]; (first | refine Z.out _ _ ?_ | refine W.out _ ?_ | refine ⟨by kernel_rfl, W.out _ ?_⟩); clear Z W X Y; simp [e]); (try refine .n ?_)
      refine Jt.f hK ?_
      clear hK K
      with_reducible repeat first | refine Jt.i ?_ | refine .g (by decide) ?_
      refine AW.rc 50 fun K hK => ?_
      repeat (with_reducible refine .s fun X Y Z W => ?_; simp [e]; (first | refine Z.out _ _ ?_ | refine W.out _ ?_ | refine ⟨by kernel_rfl, W.out _ ?_⟩); clear Z W X Y; simp [e]); (try refine .n ?_)
      refine .s fun K1 K2 hK1 hK2 => ?_
      simp [e]
      refine hatch_nilp rfl ?_
      refine hK1.out _ _ ?_
      clear hK1 hK2 K1 K2
      (try simp [e])
      repeat (with_reducible refine .s fun X Y Z W => ?_; simp [e]; (first | refine Z.out _ _ ?_ | refine W.out _ ?_ | refine ⟨by kernel_rfl, W.out _ ?_⟩); clear Z W X Y; simp [e]); (try refine .n ?_)
      refine .s fun K1 K2 hK1 hK2 => ?_
      simp [e]
      refine hatch_nilp rfl ?_
      refine hK1.out _ _ ?_
      clear hK1 hK2 K1 K2
      (try simp [e])
      repeat (with_reducible refine .s fun X Y Z W => ?_; simp [e]; (first | refine Z.out _ _ ?_ | refine W.out _ ?_ | refine ⟨by kernel_rfl, W.out _ ?_⟩); clear Z W X Y; simp [e]); (try refine .n ?_)
      refine .s fun K1 K2 hK1 hK2 => ?_
      simp [e]
      refine orr_l ⟨by kernel_rfl, .inl ⟨_, c0, ?_⟩⟩
      (try simp [e])
      refine hK1.out _ _ ?_
      clear hK1 hK2 K1 K2
      (try simp [e])
      repeat (with_reducible refine .s fun X Y Z W => ?_; simp [e]; (first | refine Z.out _ _ ?_ | refine W.out _ ?_ | refine ⟨by kernel_rfl, W.out _ ?_⟩); clear Z W X Y; simp [e]); (try refine .n ?_)
      refine ⟨chk_drawn (by kernel_rfl) (by kernel_rfl), hK.out _ ?_⟩
      clear hK K
      with_reducible repeat first | refine Jt.i ?_ | refine .g (by decide) ?_
      refine AW.cf rfl ?_
      with_reducible repeat first | refine Jt.i ?_ | refine .g (by decide) ?_
      refine AW.rc 80 fun K hK => ?_
      repeat (with_reducible refine .s fun X Y Z W => ?_; simp [e]; (first | refine Z.out _ _ ?_ | refine W.out _ ?_ | refine ⟨by kernel_rfl, W.out _ ?_⟩); clear Z W X Y; simp [e]); (try refine .n ?_)
      refine Jt.f hK ?_
      clear hK K
      with_reducible repeat first | refine Jt.i ?_ | refine .g (by decide) ?_
      refine nx_kz (yo := ?_) (zs := ?_) (r := ?_) ty (by first | exact .inl rfl | exact .inr rfl) rfl rfl rfl rfl rfl rfl ⟨rfl, rfl, ?_⟩ ?_
      rotate_left 3
      · rfl
      · rfl
    · have e := (pcmp_gt _ _).2 hl
      have e1 : ¬ pcmp at_ p < 0 := by omega
      rw [if_neg (fun k => lt_asymm hl k.2)]
      refine AW.rc 40 fun K hK => ?_
      repeat (with_reducible refine .s fun X Y Z W => ?_; simp [e1]; (first | refine Z.out _ _ ?_ | refine W.out _ ?_ | refine ⟨by kernel_rfl, W.out _ ?_⟩); clear Z W X Y; simp [e1]); (try refine .n ?_)
      refine .s fun K1 K2 hK1 hK2 => ?_
      simp [e1]
      refine hatch_bound rfl ?_
      refine hK1.out _ _ ?_
      clear hK1 hK2 K1 K2
      (try simp [e1])
      repeat (with_reducible refine .s fun X Y Z W => ?_; simp [e1]; (first | refine Z.out _ _ ?_ | refine W.out _ ?_ | refine ⟨by kernel_rfl, W.out _ ?_⟩); clear Z W X Y; simp [e1]); (try refine .n ?_)
      refine Jt.f hK ?_
      clear hK K
      with_reducible repeat first | refine Jt.i ?_ | refine .g (by decide) ?_
      refine AW.rc 50 fun K hK => ?_
      repeat (with_reducible refine .s fun X Y Z W => ?_; simp [e1]; (first | refine Z.out _ _ ?_ | refine W.out _ ?_ | refine ⟨by kernel_rfl, W.out _ ?_⟩); clear Z W X Y; simp [e1]); (try refine .n ?_)
      refine .s fun K1 K2 hK1 hK2 => ?_
      simp [e1]
      refine hatch_nilp rfl ?_
      refine hK1.out _ _ ?_
      clear hK1 hK2 K1 K2
      (try simp [e1])
      repeat (with_reducible refine .s fun X Y Z W => ?_; simp [e1]; (first | refine Z.out _ _ ?_ | refine W.out _ ?_ | refine ⟨by kernel_rfl, W.out _ ?_⟩); clear Z W X Y; simp [e1]); (try refine .n ?_)
      refine .s fun K1 K2 hK1 hK2 => ?_
      simp [e1]
      refine hatch_nilp rfl ?_
      refine hK1.out _ _ ?_
      clear hK1 hK2 K1 K2
      (try simp [e1])
      repeat (with_reducible refine .s fun X Y Z W => ?_; simp [e1]; (first | refine Z.out _ _ ?_ | refine W.out _ ?_ | refine ⟨by kernel_rfl, W.out _ ?_⟩); clear Z W X Y; simp [e1]); (try refine .n ?_)
      refine .s fun K1 K2 hK1 hK2 => ?_
      simp [e1]
      refine orr_l ⟨by kernel_rfl, .inl ⟨_, c0, ?_⟩⟩
      (try simp [e1])
      refine hK1.out _ _ ?_
      clear hK1 hK2 K1 K2
      (try simp [e1])
      repeat (with_reducible refine .s fun X Y Z W => ?_; simp [e1]; (first | refine Z.out _ _ ?_ | refine W.out _ ?_ | refine ⟨by kernel_rfl, W.out _ ?_⟩); clear Z W X Y; simp [e1]); (try refine .n ?_)
      refine ⟨chk_drawn (by kernel_rfl) (by kernel_rfl), hK.out _ ?_⟩
      clear hK K
      with_reducible repeat first | refine Jt.i ?_ | refine .g (by decide) ?_
      refine AW.cf rfl ?_
      with_reducible repeat first | refine Jt.i ?_ | refine .g (by decide) ?_
      refine AW.rc 80 fun K hK => ?_
      repeat (with_reducible refine .s fun X Y Z W => ?_; simp [e1]; (first | refine Z.out _ _ ?_ | refine W.out _ ?_ | refine ⟨by kernel_rfl, W.out _ ?_⟩); clear Z W X Y; simp [e1]); (try refine .n ?_)
      refine Jt.f hK ?_
      clear hK K
      with_reducible repeat first | refine Jt.i ?_ | refine .g (by decide) ?_
      refine nx_kz (yo := ?_) (zs := ?_) (r := ?_) ty (by first | exact .inl rfl | exact .inr rfl) rfl rfl rfl rfl rfl rfl ⟨rfl, rfl, ?_⟩ ?_
      rotate_left 3
      · rfl
      · rfl
end Go.Proofs.Ytlkdkhmdmgchbaa
namespace Go.Proofs.Ytlkdkhmdmgchbaa
set_option linter.unusedSimpArgs false
set_option linter.unusedVariables false
open Go.RowKit
attribute [local simp ↓] raw_wp hdd_wp dst0_wp slc_wp gav_bool gav_undef avpo_ptr avpo_seg avpo_wp avpo_optr avtupw_tup avtupw_wp raw_optr hdd_optr arun_nil ob_some kva_av kfree_free khfree_free khown_own klive_live knm_false chk_true ya_true gsel_tt gsel_ff gsel_tf gsel_ft vb_bool vi_int vstr_string avps_ptr avps_seg avp_ptr avagg_agg avtup_tup avb_bool avown_own shs_struct shsa_struct shsa_arr sharr_arr shl_slice shla_slice shla_arr shls_slice shls_str shi_int bc_true bc_false hd1_cons opc_some opc_none opn_some opn_none unc_not unc_neg gd_none gd_some as_move as_assign as_pick as_bin as_un as_conv as_load as_faddr as_field as_extract as_iaddr as_slice as_alloc as_box as_store as_build as_rows as_call as_append as_invoke as_copy as_nilCheck as_makeIface as_assert as_makeSlice as_lookup as_mapUpdate as_makeMap as_range as_next as_entry as_index as_fn as_len as_min as_max stMove stPick stBin stUn stConv stLoad stFaddr stField stExtract stIaddr stSlice stAlloc stBox stStore stBuild stIndex stRows stCall stAppend stFn stLen stMin stMax opd_tmp opd_const opd_func rawL_nil rawL_cons raw_c raw_st raw_a opr_e zr_nil zr_cons lvd_live hod_own obd_some obd_none kvd_av chd_true vid_int lk_cons lk_nil ins_nil ins_cons cells_zero cells_succ spread1_c spread1_own spread1_ptr spread1_fn spread1_seg spreadL_nil spreadL_cons spread_agg spread_c spread_own spread_seg spread_ptr spread_fn ex_zero ex_succ ops_e opb_none opb_int spreadD_agg spreadD_c spreadD_own spreadD_seg fillO_nil fillO_cons argsOf_nil argsOf_cons dvOf_c dvOf_seg dvOf_own dvOf_agg zrL_nil zrL_cons hdd_c hdd_seg hdd_own clz_e clv_raw clv_f callD_e dst0_n dst0_nil dst0_own goneH_e capc_ptr capc_seg capc_c capN_nil capN_cons capD_nil capD_cons deadZ_nil deadZ_cons
attribute [local simp] dok_some dok_none dflt_tmp dflt_vt dflt_cell dflt_zn dflt_nm dflt_hd dflt_sz dflt_df puts_nil puts_cons wr_some wr_none cst_agg cst_int cst_bool cst_string cst_slice cst_tuple cst_nilFunc cst_pointer cst_func bin_add bin_sub bin_mul bin_quo bin_rem bin_eql bin_neq bin_lss bin_leq bin_gtr bin_geq bin_bool bin_aggs binT_bool binT_aggs shbd_bool eqb_eql eqb_neq bin_slice bin_str_eql bin_str_neq bin_str_lss bin_str_add nz_v nz_n nz_s nz_p nz_f nz_st atz_v atz_n atz_s atz_p atz_f atz_st atz_agg atR_one atR_tup crow_nil crow_cons slc_c slc_n slc_own slc_nil raws setR placesT_nil placesT_cons zc chunk zsAll setD ocD_v ocD_n ocD_s ocD_p ocD_f ocD_st nrm_v nrm_n nrm_s nrm_p nrm_f nrm_st isV_one isV_tup isV_c isV_agg isV_v isV_n isV_s isV_p isV_f isV_st argRows Sh.agg zds_nil zds_e zds_v zds_s vcells_agg vcells_int vcells_bool vcells_string vcells_slice vcells_pointer toList_lit map_nilL map_consL nzr_e rowsOc_nil rowsOc_cons rowsOc_RD nzr_RD foks_nil foks_cons fok_tmp fok_vt fok_cell fok_nm fok_zn fok_hd fok_sz fok_df Fv_c Fv_seg Fv_tup Fv_agg Fv_ptr Fv_ptrs Fv_wp Fv_fn Fv_fnd Fv_own Fv_ownd Fv_nown Fv_vown FvL_nil FvL_cons kvp_av hdp_some subz frz Uz Nm Uh vw_nb vw_zo vw_zf vw_hb tb_nil tb_cons fzc_nil fzc_cons fzcaps_nil fzcaps_cons ty2 ty3 ty4 ty5 ty6 ty7 ty8 ty9 ty10 ty11 ty12 ty13 ty14 ty15 ty16 ty17 ty18 ty19 ty20 ty21 ty22 ty23 ty24 ty25 ty26 ty27 ty30 ty40 ty48 ty50 ty51 ty52 ty55 ty57 ty62 ty63 ty85 ty94 ty101 ty121 ty122 ty123 ty124 ty125 ty126 ty128 ty148 ty149 ty151 ty164 ty165 ty179 ty182 ty196 ty203 ty205 ty209 ty211 ty215 ty216 ty217 ty218 ty219 ty220 ty221 ty223 ty224 ty225 ty226 ty227 Value.oneCell'
set_option maxRecDepth 100000
set_option maxHeartbeats 4000000 in
theorem tcheckA_ct (l : List Tr) (hs : ∀ t ∈ l, t.1.length + t.2.length ≤ 1048576) : Ct Try.prog 87 [.c (TsD l)] none (.one (dI (if tsR l then 0 else 210))) := by
  unfold tsR
  by_cases hl : l.length ≤ 24
  · have := tcheck_ct l hs hl
    rw [decide_eq_true hl, Bool.true_and]
    exact this
  · have h1 : (24 : Int) < (l.length : Int) := by omega
    have h2 : 24 < l.length := by omega
    rw [show (if (decide (l.length ≤ 24) && l.all oneL) = true then (0 : Int) else 210) = 210 by simp [hl]]
    refine ct_intro Try.func87 rfl Try.ntmps87 (by simp) (fun W0 Z => ?_)
    with_reducible repeat first | refine Jt.i ?_ | refine .g (by decide) ?_
    refine AW.at_ (fun L hL => ?_)
    simp at hL
    subst hL
    refine AW.rc 1 fun K hK => ?_
    repeat (with_reducible refine .s fun X Y Z W => ?_; simp; (first | refine Z.out _ _ ?_ | refine W.out _ ?_ | refine ⟨by kernel_rfl, W.out _ ?_⟩); clear Z W X Y; simp); (try refine .n ?_)
    refine Jt.f hK ?_
    clear hK K
    with_reducible repeat first | refine Jt.i ?_ | refine .g (by decide) ?_
    refine AW.rc 10 fun K hK => ?_
    repeat (with_reducible refine .s fun X Y Z W => ?_; simp [h1, h2]; (first | refine Z.out _ _ ?_ | refine W.out _ ?_ | refine ⟨by kernel_rfl, W.out _ ?_⟩); clear Z W X Y; simp [h1, h2]); (try refine .n ?_)
    refine Jt.f hK ?_
    clear hK K
    with_reducible repeat first | refine Jt.i ?_ | refine .g (by decide) ?_
    refine AW.ct rfl ?_
    with_reducible repeat first | refine Jt.i ?_ | refine .g (by decide) ?_
    refine AW.rc 20 fun K hK => ?_
    repeat (with_reducible refine .s fun X Y Z W => ?_; simp; (first | refine Z.out _ _ ?_ | refine W.out _ ?_ | refine ⟨by kernel_rfl, W.out _ ?_⟩); clear Z W X Y; simp); (try refine .n ?_)
    refine Jt.f hK ?_
    clear hK K
    with_reducible repeat first | refine Jt.i ?_ | refine .g (by decide) ?_
    refine nx_ret (T := ty) (rs := [.tmp 2]) (zs := []) (ds := [dI 210]) (rr := []) (.inr rfl) rfl (by kernel_rfl) (by kernel_rfl) (by simp) rfl
end Go.Proofs.Ytlkdkhmdmgchbaa
namespace Go.Proofs.Ytlkdkhmdmgchbaa
set_option linter.unusedSimpArgs false
set_option linter.unusedVariables false
open Go.RowKit
set_option maxRecDepth 100000
def pushIf (hs : List Hd) (h : Hd) : List Hd := if h.2.2 = [] then hs else pushL ltH hs h
def headsT (k : Nat) (t : Tr) : List Hd := [((k : Int), true, t.1), ((k : Int), false, t.2)]
def ofN (l : List Tr) : Nat → List Hd
  | 0 => []
  | k + 1 => match l[k]? with
    | some t => (headsT k t).foldl pushIf (ofN l k)
    | none => ofN l k
def stH (hs a : List Hd) (i : Nat) : List Hd := (a.take i).foldl pushIf hs
theorem stH_s {hs a : List Hd} {i : Nat} {x : Hd} (h : a[i]? = some x) : stH hs a (i + 1) = pushIf (stH hs a i) x := by
  unfold stH
  rw [List.take_add_one, h]
  simp
theorem ofN_s {l : List Tr} {k : Nat} {t : Tr} (h : l[k]? = some t) : ofN l (k + 1) = stH (ofN l k) (headsT k t) 2 := by
  show (match l[k]? with | some t => (headsT k t).foldl pushIf (ofN l k) | none => ofN l k) = _
  rw [h]
  rfl
theorem pushIf_len (hs : List Hd) (h : Hd) : (pushIf hs h).length ≤ hs.length + 1 := by
  unfold pushIf
  split
  · omega
  · rw [(pushL_perm (lt := ltH) hs h).length_eq]; simp
theorem pushIf_ne {hs : List Hd} {h : Hd} (H : ∀ x ∈ hs, x.2.2 ≠ []) : ∀ x ∈ pushIf hs h, x.2.2 ≠ [] := by
  intro x hx
  unfold pushIf at hx
  split at hx
  · exact H x hx
  · rename_i hn
    rcases List.mem_cons.1 ((pushL_perm (lt := ltH) hs h).mem_iff.1 hx) with rfl | hx
    · exact hn
    · exact H x hx
theorem foldH_ok : ∀ (a hs : List Hd), (∀ x ∈ hs, x.2.2 ≠ []) → (∀ x ∈ a.foldl pushIf hs, x.2.2 ≠ []) ∧ (a.foldl pushIf hs).length ≤ hs.length + a.length
  | [], hs, H => ⟨H, Nat.le_refl _⟩
  | x :: a, hs, H => by
    obtain ⟨h1, h2⟩ := foldH_ok a (pushIf hs x) (pushIf_ne H)
    have := pushIf_len hs x
    rw [List.foldl_cons]
    refine ⟨h1, ?_⟩
    rw [List.length_cons]
    omega
theorem ofN_ok (l : List Tr) : ∀ k, (∀ x ∈ ofN l k, x.2.2 ≠ []) ∧ (ofN l k).length ≤ 2 * k
  | 0 => ⟨(fun x h => nomatch h), Nat.le_refl _⟩
  | k + 1 => by
    obtain ⟨h1, h2⟩ := ofN_ok l k
    show (∀ x ∈ (match l[k]? with | some t => (headsT k t).foldl pushIf (ofN l k) | none => ofN l k), _) ∧ (match l[k]? with | some t => (headsT k t).foldl pushIf (ofN l k) | none => ofN l k).length ≤ _
    split
    · obtain ⟨q1, q2⟩ := foldH_ok (headsT k _) (ofN l k) h1
      refine ⟨q1, ?_⟩
      simp [headsT] at q2 ⊢
      omega
    · exact ⟨h1, by omega⟩
end Go.Proofs.Ytlkdkhmdmgchbaa
namespace Go.Proofs.Ytlkdkhmdmgchbaa
set_option linter.unusedSimpArgs false
set_option linter.unusedVariables false
set_option maxRecDepth 100000
theorem pushIf_in (hs : List Hd) (h : Hd) (t : Int) (a : Bool) (q : Pr) : inH (pushIf hs h) t a q ↔ inH hs t a q ∨ (h.1 = t ∧ h.2.1 = a ∧ q ∈ h.2.2) := by
  unfold pushIf
  split
  · rename_i e
    rw [e]
    simp
  · rw [inH_perm (pushL_perm (lt := ltH) hs h)]
    unfold inH
    constructor
    · rintro ⟨x, hx, k⟩
      rcases List.mem_cons.1 hx with rfl | hx
      · exact .inr k
      · exact .inl ⟨x, hx, k⟩
    · rintro (⟨x, hx, k⟩ | k)
      · exact ⟨x, List.mem_cons_of_mem _ hx, k⟩
      · exact ⟨h, List.mem_cons_self, k⟩
theorem pushIf_heap {hs : List Hd} (h : Hd) (H : Heap ltH hs) : Heap ltH (pushIf hs h) := by
  unfold pushIf
  split
  · exact H
  · exact pushL_heap ltH_wk H h
theorem pushIf_mem {hs : List Hd} {h x : Hd} (hx : x ∈ pushIf hs h) : x ∈ hs ∨ x = h := by
  unfold pushIf at hx
  split at hx
  · exact .inl hx
  · rcases List.mem_cons.1 ((pushL_perm (lt := ltH) hs h).mem_iff.1 hx) with hx | hx
    · exact .inr hx
    · exact .inl hx
theorem ofN_two {l : List Tr} {k : Nat} {t : Tr} (h : l[k]? = some t) : ofN l (k + 1) = pushIf (pushIf (ofN l k) ((k : Int), true, t.1)) ((k : Int), false, t.2) := by
  rw [ofN_s h]
  rfl
theorem ofN_none {l : List Tr} {k : Nat} (h : l[k]? = none) : ofN l (k + 1) = ofN l k := by
  show (match l[k]? with | some t => (headsT k t).foldl pushIf (ofN l k) | none => ofN l k) = _
  rw [h]
theorem ofN_heap (l : List Tr) : ∀ k, Heap ltH (ofN l k)
  | 0 => fun i j x y hi => by simp [ofN] at *
  | k + 1 => by
    cases h : l[k]? with
    | none => rw [ofN_none h]; exact ofN_heap l k
    | some t => rw [ofN_two h]; exact pushIf_heap _ (pushIf_heap _ (ofN_heap l k))
theorem ofN_rs (l : List Tr) (hr : ∀ t ∈ l, Rises t.1 ∧ Rises t.2) : ∀ k, ∀ x ∈ ofN l k, Rises x.2.2
  | 0, x, hx => by cases hx
  | k + 1, x, hx => by
    cases h : l[k]? with
    | none => rw [ofN_none h] at hx; exact ofN_rs l hr k x hx
    | some t =>
      rw [ofN_two h] at hx
      have := hr t (List.mem_of_getElem? h)
      rcases pushIf_mem hx with hx | rfl
      · rcases pushIf_mem hx with hx | rfl
        · exact ofN_rs l hr k x hx
        · exact this.1
      · exact this.2
theorem ofN_in (l : List Tr) (t : Int) (a : Bool) (q : Pr) : ∀ k, k ≤ l.length → (inH (ofN l k) t a q ↔ ∃ (j : Nat) (x : Tr), j < k ∧ l[j]? = some x ∧ (j : Int) = t ∧ q ∈ (if a then x.1 else x.2))
  | 0, _ => by
    constructor
    · rintro ⟨x, hx, _⟩; cases hx
    · rintro ⟨j, x, hj, _⟩; omega
  | k + 1, hk => by
    obtain ⟨x, hx⟩ := some_of_lt (l := l) (k := k) (by omega)
    rw [ofN_two hx, pushIf_in, pushIf_in, ofN_in l t a q k (by omega)]
    simp only
    constructor
    · rintro ((⟨j, y, h1, h2, h3, h4⟩ | ⟨h1, h2, h3⟩) | ⟨h1, h2, h3⟩)
      · exact ⟨j, y, by omega, h2, h3, h4⟩
      · exact ⟨k, x, by omega, hx, h1, by rw [← h2]; exact h3⟩
      · exact ⟨k, x, by omega, hx, h1, by rw [← h2]; exact h3⟩
    · rintro ⟨j, y, h1, h2, h3, h4⟩
      by_cases e : j = k
      · subst e
        rw [hx] at h2
        simp only [Option.some.injEq] at h2
        subst h2
        cases a with
        | true => exact .inl (.inr ⟨h3, rfl, h4⟩)
        | false => exact .inr ⟨h3, rfl, h4⟩
      · exact .inl (.inl ⟨j, y, by omega, h2, h3, h4⟩)
theorem saidF_in (l : List Tr) (hd : ∀ t ∈ l, ∀ q, q ∈ t.1 → q ∉ t.2) (q : Pr) : ∀ k, k ≤ l.length → ((saidF (l.take k) q = some 1 ↔ tellsH (ofN l k) q))
  | 0, _ => by
    rw [List.take_zero, saidF_nil]
    constructor
    · intro h; cases h
    · rintro ⟨t, ⟨x, hx, _⟩, _⟩; cases hx
  | k + 1, hk => by
    obtain ⟨x, hx⟩ := some_of_lt (l := l) (k := k) (by omega)
    have ih := saidF_in l hd q k (by omega)
    have dx := hd x (List.mem_of_getElem? hx) q
    have e : l.take (k + 1) = l.take k ++ [x] := by rw [List.take_add_one, hx]; rfl
    rw [e, saidF_snoc]
    have inI : ∀ t a, inH (ofN l (k + 1)) t a q ↔ inH (ofN l k) t a q ∨ ((k : Int) = t ∧ q ∈ (if a then x.1 else x.2)) := fun t a => by
      rw [ofN_in l t a q (k + 1) hk, ofN_in l t a q k (by omega)]
      constructor
      · rintro ⟨j, y, h1, h2, h3, h4⟩
        by_cases ej : j = k
        · subst ej
          rw [hx] at h2
          simp only [Option.some.injEq] at h2
          subst h2
          exact .inr ⟨h3, h4⟩
        · exact .inl ⟨j, y, by omega, h2, h3, h4⟩
      · rintro (⟨j, y, h1, h2, h3, h4⟩ | ⟨h1, h2⟩)
        · exact ⟨j, y, by omega, h2, h3, h4⟩
        · exact ⟨k, x, by omega, hx, h1, h2⟩
    have old : ∀ t a, inH (ofN l k) t a q → t < k := fun t a h => by
      obtain ⟨j, y, h1, _, h3, _⟩ := (ofN_in l t a q k (by omega)).1 h
      omega
    by_cases h2 : q ∈ x.2
    · rw [if_pos h2]
      constructor
      · intro h; cases h
      · rintro ⟨t, i, m⟩
        have := m k false ((inI k false).2 (.inr ⟨rfl, h2⟩))
        rcases (inI t true).1 i with h | ⟨h, h'⟩
        · have := old _ _ h; omega
        · exact absurd h2 (dx h')
    · rw [if_neg h2]
      by_cases h1 : q ∈ x.1
      · rw [if_pos h1]
        refine ⟨fun _ => ⟨k, (inI k true).2 (.inr ⟨rfl, h1⟩), fun t a h => ?_⟩, fun _ => rfl⟩
        rcases (inI t a).1 h with h | ⟨h, _⟩
        · have := old _ _ h; omega
        · omega
      · rw [if_neg h1, ih]
        unfold tellsH
        have same : ∀ t a, inH (ofN l (k + 1)) t a q ↔ inH (ofN l k) t a q := fun t a => by
          rw [inI]
          constructor
          · rintro (h | ⟨_, h⟩)
            · exact h
            · cases a with
              | true => exact absurd h h1
              | false => exact absurd h h2
          · exact .inl
        simp only [same]
theorem ofN_good (l : List Tr) (hr : ∀ t ∈ l, Rises t.1 ∧ Rises t.2) (hd : ∀ t ∈ l, ∀ q, q ∈ t.1 → q ∉ t.2) : GoodH (ofN l l.length) := by
  refine ⟨ofN_heap l _, (ofN_ok l _).1, ofN_rs l hr _, fun t a a' q h h' => ?_⟩
  obtain ⟨j, x, _, h2, h3, h4⟩ := (ofN_in l t a q _ (Nat.le_refl _)).1 h
  obtain ⟨j', x', _, k2, k3, k4⟩ := (ofN_in l t a' q _ (Nat.le_refl _)).1 h'
  obtain rfl : j = j' := by omega
  rw [h2] at k2
  simp only [Option.some.injEq] at k2
  subst k2
  have := hd x (List.mem_of_getElem? h2) q
  cases a <;> cases a' <;> simp_all
theorem ofN_tells (l : List Tr) (hd : ∀ t ∈ l, ∀ q, q ∈ t.1 → q ∉ t.2) : Tells (ofN l l.length) (whichL l 1) := by
  refine ⟨whichL_rises l 1, fun q => ?_⟩
  rw [whichL_mem]
  have := saidF_in l hd q l.length (Nat.le_refl _)
  rw [List.take_length] at this
  exact this
theorem oneL_parts {t : Tr} (h : oneL t = true) : Rises t.1 ∧ Rises t.2 ∧ ∀ q, q ∈ t.1 → q ∉ t.2 := by
  unfold oneL rightL at h
  simp only [Bool.and_eq_true, decide_eq_true_eq] at h
  obtain ⟨⟨⟨h1, _⟩, h2, _⟩, h3⟩ := h
  refine ⟨h1, h2, fun q hq hq' => ?_⟩
  have : q ∈ keptL t.1 t.2 true := List.mem_filter.2 ⟨hq, by simp [hq']⟩
  rw [List.length_eq_zero_iff.1 h3] at this
  cases this
theorem tsR_good {l : List Tr} (h : tsR l = true) : GoodH (ofN l l.length) ∧ Tells (ofN l l.length) (whichL l 1) := by
  unfold tsR at h
  simp only [Bool.and_eq_true, List.all_eq_true] at h
  exact ⟨ofN_good l (fun t ht => ⟨(oneL_parts (h.2 t ht)).1, (oneL_parts (h.2 t ht)).2.1⟩) fun t ht => (oneL_parts (h.2 t ht)).2.2, ofN_tells l fun t ht => (oneL_parts (h.2 t ht)).2.2⟩
end Go.Proofs.Ytlkdkhmdmgchbaa
namespace Go.Proofs.Ytlkdkhmdmgchbaa
set_option linter.unusedSimpArgs false
set_option linter.unusedVariables false
open Go.RowKit
attribute [local simp ↓] raw_wp hdd_wp dst0_wp slc_wp gav_bool gav_undef avpo_ptr avpo_seg avpo_wp avpo_optr avtupw_tup avtupw_wp raw_optr hdd_optr arun_nil ob_some kva_av kfree_free khfree_free khown_own klive_live knm_false chk_true ya_true gsel_tt gsel_ff gsel_tf gsel_ft vb_bool vi_int vstr_string avps_ptr avps_seg avp_ptr avagg_agg avtup_tup avb_bool avown_own shs_struct shsa_struct shsa_arr sharr_arr shl_slice shla_slice shla_arr shls_slice shls_str shi_int bc_true bc_false hd1_cons opc_some opc_none opn_some opn_none unc_not unc_neg gd_none gd_some as_move as_assign as_pick as_bin as_un as_conv as_load as_faddr as_field as_extract as_iaddr as_slice as_alloc as_box as_store as_build as_rows as_call as_append as_invoke as_copy as_nilCheck as_makeIface as_assert as_makeSlice as_lookup as_mapUpdate as_makeMap as_range as_next as_entry as_index as_fn as_len as_min as_max stMove stPick stBin stUn stConv stLoad stFaddr stField stExtract stIaddr stSlice stAlloc stBox stStore stBuild stIndex stRows stCall stAppend stFn stLen stMin stMax opd_tmp opd_const opd_func rawL_nil rawL_cons raw_c raw_st raw_a opr_e zr_nil zr_cons lvd_live hod_own obd_some obd_none kvd_av chd_true vid_int lk_cons lk_nil ins_nil ins_cons cells_zero cells_succ spread1_c spread1_own spread1_ptr spread1_fn spread1_seg spreadL_nil spreadL_cons spread_agg spread_c spread_own spread_seg spread_ptr spread_fn ex_zero ex_succ ops_e opb_none opb_int spreadD_agg spreadD_c spreadD_own spreadD_seg fillO_nil fillO_cons argsOf_nil argsOf_cons dvOf_c dvOf_seg dvOf_own dvOf_agg zrL_nil zrL_cons hdd_c hdd_seg hdd_own clz_e clv_raw clv_f callD_e dst0_n dst0_nil dst0_own goneH_e capc_ptr capc_seg capc_c capN_nil capN_cons capD_nil capD_cons deadZ_nil deadZ_cons
attribute [local simp] dok_some dok_none dflt_tmp dflt_vt dflt_cell dflt_zn dflt_nm dflt_hd dflt_sz dflt_df puts_nil puts_cons wr_some wr_none cst_agg cst_int cst_bool cst_string cst_slice cst_tuple cst_nilFunc cst_pointer cst_func bin_add bin_sub bin_mul bin_quo bin_rem bin_eql bin_neq bin_lss bin_leq bin_gtr bin_geq bin_bool bin_aggs binT_bool binT_aggs shbd_bool eqb_eql eqb_neq bin_slice bin_str_eql bin_str_neq bin_str_lss bin_str_add nz_v nz_n nz_s nz_p nz_f nz_st atz_v atz_n atz_s atz_p atz_f atz_st atz_agg atR_one atR_tup crow_nil crow_cons slc_c slc_n slc_own slc_nil raws setR placesT_nil placesT_cons zc chunk zsAll setD ocD_v ocD_n ocD_s ocD_p ocD_f ocD_st nrm_v nrm_n nrm_s nrm_p nrm_f nrm_st isV_one isV_tup isV_c isV_agg isV_v isV_n isV_s isV_p isV_f isV_st argRows Sh.agg zds_nil zds_e zds_v zds_s vcells_agg vcells_int vcells_bool vcells_string vcells_slice vcells_pointer toList_lit map_nilL map_consL nzr_e rowsOc_nil rowsOc_cons rowsOc_RD nzr_RD foks_nil foks_cons fok_tmp fok_vt fok_cell fok_nm fok_zn fok_hd fok_sz fok_df Fv_c Fv_seg Fv_tup Fv_agg Fv_ptr Fv_ptrs Fv_wp Fv_fn Fv_fnd Fv_own Fv_ownd Fv_nown Fv_vown FvL_nil FvL_cons kvp_av hdp_some subz frz Uz Nm Uh vw_nb vw_zo vw_zf vw_hb tb_nil tb_cons fzc_nil fzc_cons fzcaps_nil fzcaps_cons ty2 ty3 ty4 ty5 ty6 ty7 ty8 ty9 ty10 ty11 ty12 ty13 ty14 ty15 ty16 ty17 ty18 ty19 ty20 ty21 ty22 ty23 ty24 ty25 ty26 ty27 ty30 ty40 ty48 ty50 ty51 ty52 ty55 ty57 ty62 ty63 ty85 ty94 ty101 ty121 ty122 ty123 ty124 ty125 ty126 ty128 ty148 ty149 ty151 ty164 ty165 ty179 ty182 ty196 ty203 ty205 ty209 ty211 ty215 ty216 ty217 ty218 ty219 ty220 ty221 ty223 ty224 ty225 ty226 ty227 Value.oneCell'
attribute [local simp] kzRows oWr deadZ VK.av kzReads kzWrites oRead hdD cst_nilI
set_option maxRecDepth 100000
def tvS (l : List Tr) (hs : List Hd) (zz : List Nat) (k : Nat) : Row := [(.tmp 5, .av (.ptr 2 0)), (.nm 2, .nm true), (.sz 2, .sz 4), (.cell 2 0, .av (.own 900)), (.cell 2 1, .av (.c [] (.v (.int .u64 0)))), (.cell 2 2, .av (.c [] (.v (.int .u64 0)))), (.cell 2 3, .av (.c [] (.v (.bool false)))),
  (.hd 900, .hd (.own 126 3 900 zz (hs.map hdD))), (.zn 900, .zn .live), (.zn 901, .zn .live), (.zn 0, .zn .live), (.tmp 17, .av (.c [0] (TsD l))), (.tmp 18, .av (.c [] (.v (.int .i64 l.length)))), (.tmp 19, .av (.c [] (.v (.int .i64 k))))]
def tvU (l : List Tr) (hs : List Hd) (k : Nat) (a : List Hd) (i : Nat) : Row := [(.tmp 34, .av (.own 910)), (.hd 910, .hd (.own 126 3 910 [911] (a.map hdD))), (.zn 910, .zn .live), (.zn 911, .zn .live), (.tmp 35, .av (.c [] (.v (.int .i64 2)))), (.tmp 36, .av (.c [] (.v (.int .i64 i))))] ++ tvS l hs [901, 910, 911] k
set_option maxHeartbeats 16000000 in
theorem of_kn (l : List Tr) (hok : tsR l = true) (hs : ∀ t ∈ l, t.1.length + t.2.length ≤ 1048576) (G : GoodH (ofN l l.length)) : Kn Try.prog 44 [.c (TsD l)] (.tup [.int .i64 0]) (vC (stepV ⟨ofN l l.length, (0, 0), false⟩)) := by
  have ck := tcheckA_ct l hs
  rw [hok] at ck
  have hl : l.length ≤ 24 := by unfold tsR at hok; simp at hok; exact hok.1
  refine kn_intro Try.func44 rfl Try.ntmps44 (by simp) (fun W0 Z => ?_)
  with_reducible repeat first | refine Jt.i ?_ | refine .g (by decide) ?_
  refine AW.at_ (fun L hL => ?_)
  simp at hL
  subst hL
  refine AW.rc 10 fun K hK => ?_
  repeat (with_reducible refine .s fun X Y Z W => ?_; simp; (first | refine Z.out _ _ ?_ | refine W.out _ ?_ | refine ⟨by kernel_rfl, W.out _ ?_⟩); clear Z W X Y; simp); (try refine .n ?_)
  refine Jt.f hK ?_
  clear hK K
  with_reducible repeat first | refine Jt.i ?_ | refine .g (by decide) ?_
  refine AW.rc 20 fun K hK => ?_
  repeat (with_reducible refine .s fun X Y Z W => ?_; simp; (first | refine Z.out _ _ ?_ | refine W.out _ ?_ | refine ⟨by kernel_rfl, W.out _ ?_⟩); clear Z W X Y; simp); (try refine .n ?_)
  refine .s fun K1 K2 hK1 hK2 => ?_
  simp
  refine orr_l ⟨by kernel_rfl, .inl ⟨_, ck, ?_⟩⟩
  (try simp)
  refine hK1.out _ _ ?_
  clear hK1 hK2 K1 K2
  (try simp)
  repeat (with_reducible refine .s fun X Y Z W => ?_; simp; (first | refine Z.out _ _ ?_ | refine W.out _ ?_ | refine ⟨by kernel_rfl, W.out _ ?_⟩); clear Z W X Y; simp); (try refine .n ?_)
  refine Jt.f hK ?_
  clear hK K
  with_reducible repeat first | refine Jt.i ?_ | refine .g (by decide) ?_
  refine AW.rc 30 fun K hK => ?_
  repeat (with_reducible refine .s fun X Y Z W => ?_; simp; (first | refine Z.out _ _ ?_ | refine W.out _ ?_ | refine ⟨by kernel_rfl, W.out _ ?_⟩); clear Z W X Y; simp); (try refine .n ?_)
  refine Jt.f hK ?_
  clear hK K
  with_reducible repeat first | refine Jt.i ?_ | refine .g (by decide) ?_
  refine AW.cf rfl ?_
  with_reducible repeat first | refine Jt.i ?_ | refine .g (by decide) ?_
  refine AW.rc 50 fun K hK => ?_
  repeat (with_reducible refine .s fun X Y Z W => ?_; simp; (first | refine Z.out _ _ ?_ | refine W.out _ ?_ | refine ⟨by kernel_rfl, W.out _ ?_⟩); clear Z W X Y; simp); (try refine .n ?_)
  refine Jt.f hK ?_
  clear hK K
  with_reducible repeat first | refine Jt.i ?_ | refine .g (by decide) ?_
  refine AW.rc 60 fun K hK => ?_
  repeat (with_reducible refine .s fun X Y Z W => ?_; simp; (first | refine Z.out _ _ ?_ | refine W.out _ ?_ | refine ⟨by kernel_rfl, W.out _ ?_⟩); clear Z W X Y; simp); (try refine .n ?_)
  refine Jt.f hK ?_
  clear hK K
  with_reducible repeat first | refine Jt.i ?_ | refine .g (by decide) ?_
  refine AW.loop (X := { k : Nat // k ≤ l.length }) (fun x => tvS l (ofN l x.1) [901] x.1) (fun x => l.length - x.1) ⟨0, Nat.zero_le _⟩ (view_of (vw [(2, 51)] [(900, []), (901, [])] [] [(900, none)]) (by simp [tvS, ofN])) (fun x => ?_)
  clear ck
  obtain ⟨k, hk⟩ := x
  refine AW.at_ (fun L hL => ?_)
  simp [tvS] at hL
  subst hL
  with_reducible repeat first | refine Jt.i ?_ | refine .g (by decide) ?_
  by_cases hgo : k < l.length
  · have w5 : IntKind.i64.wrap ((k : Int) + 1) = ((k + 1 : Nat) : Int) := by rw [i64_ok _ (by omega) (by omega)]; omega
    have hgi : (k : Int) < (l.length : Int) := by omega
    obtain ⟨z, hz⟩ := some_of_lt hgo
    have hzs := hs z (List.mem_of_getElem? hz)
    have ca := clone_ct z.1 (by omega)
    have cd := clone_ct z.2 (by omega)
    have en := ofN_s hz
    have hgs : k + 1 ≤ l.length := hgo
    obtain ⟨o1, o2⟩ := ofN_ok l k
    generalize ofN l k = H0 at *
    refine AW.rc 70 fun K hK => ?_
    repeat (with_reducible refine .s fun X Y Z W => ?_; simp [hgi]; (first | refine Z.out _ _ ?_ | refine W.out _ ?_ | refine ⟨by kernel_rfl, W.out _ ?_⟩); clear Z W X Y; simp [hgi]); (try refine .n ?_)
    refine Jt.f hK ?_
    clear hK K
    with_reducible repeat first | refine Jt.i ?_ | refine .g (by decide) ?_
    refine AW.ct rfl ?_
    with_reducible repeat first | refine Jt.i ?_ | refine .g (by decide) ?_
    refine AW.rc 80 fun K hK => ?_
    repeat (with_reducible refine .s fun X Y Z W => ?_; simp [hgi]; (first | refine Z.out _ _ ?_ | refine W.out _ ?_ | refine ⟨by kernel_rfl, W.out _ ?_⟩); clear Z W X Y; simp [hgi]); (try refine .n ?_)
    refine .s fun K1 K2 hK1 hK2 => ?_
    simp [hgi]
    first | refine ⟨k, [RD z.1, RD z.2], rfl, by simp [hz], ?_⟩ | refine orr_l ⟨k, [RD z.1, RD z.2], rfl, by simp [hz], ?_⟩
    refine hK1.out _ _ ?_
    clear hK1 hK2 K1 K2
    (try simp [hgi])
    repeat (with_reducible refine .s fun X Y Z W => ?_; simp [hgi]; (first | refine Z.out _ _ ?_ | refine W.out _ ?_ | refine ⟨by kernel_rfl, W.out _ ?_⟩); clear Z W X Y; simp [hgi]); (try refine .n ?_)
    refine Jt.f hK ?_
    clear hK K
    with_reducible repeat first | refine Jt.i ?_ | refine .g (by decide) ?_
    refine AW.rc 90 fun K hK => ?_
    repeat (with_reducible refine .s fun X Y Z W => ?_; simp; (first | refine Z.out _ _ ?_ | refine W.out _ ?_ | refine ⟨by kernel_rfl, W.out _ ?_⟩); clear Z W X Y; simp); (try refine .n ?_)
    refine .s fun K1 K2 hK1 hK2 => ?_
    simp
    refine orr_l ⟨by kernel_rfl, .inr (.inl ⟨_, _, _, ca, ?_⟩)⟩
    (try simp)
    refine hK1.out _ _ ?_
    clear hK1 hK2 K1 K2
    (try simp)
    repeat (with_reducible refine .s fun X Y Z W => ?_; simp; (first | refine Z.out _ _ ?_ | refine W.out _ ?_ | refine ⟨by kernel_rfl, W.out _ ?_⟩); clear Z W X Y; simp); (try refine .n ?_)
    refine .s fun K1 K2 hK1 hK2 => ?_
    simp
    refine orr_l ⟨by kernel_rfl, .inr (.inl ⟨_, _, _, cd, ?_⟩)⟩
    (try simp)
    refine hK1.out _ _ ?_
    clear hK1 hK2 K1 K2
    (try simp)
    repeat (with_reducible refine .s fun X Y Z W => ?_; simp; (first | refine Z.out _ _ ?_ | refine W.out _ ?_ | refine ⟨by kernel_rfl, W.out _ ?_⟩); clear Z W X Y; simp); (try refine .n ?_)
    refine ⟨chk_drawn (by kernel_rfl) (by kernel_rfl), hK.out _ ?_⟩
    clear hK K
    with_reducible repeat first | refine Jt.i ?_ | refine .g (by decide) ?_
    refine AW.keep 37 (fun L hL => ?_)
    simp only [keepT_nil, keepT_tmp, keepT_vt, keepT_cell, keepT_zn, keepT_nm, keepT_hd, keepT_sz, keepT_df, if_true, if_false, Nat.reduceLT, reduceIte] at hL
    subst hL
    refine AW.loop (X := { i : Nat // i ≤ 2 }) (fun y => tvU l (stH H0 (headsT k z) y.1) k (headsT k z) y.1) (fun y => 2 - y.1) ⟨0, Nat.zero_le _⟩ (view_of (vw [(2, 2)] [(900, [900]), (901, [901]), (910, [100]), (911, [93, 100093, 98, 100098])] [] [(900, some 900), (910, some 100)]) (by simp [tvU, tvS, stH, headsT])) (fun y => ?_)
    obtain ⟨i, hi⟩ := y
    have hal : (headsT k z).length = 2 := rfl
    have q1 : ∀ i, (∀ x ∈ stH H0 (headsT k z) i, x.2.2 ≠ []) ∧ (stH H0 (headsT k z) i).length ≤ 2 * k + 2 := fun i => by
      obtain ⟨a1, a2⟩ := foldH_ok ((headsT k z).take i) H0 o1
      refine ⟨a1, Nat.le_trans a2 ?_⟩
      rw [List.length_take, hal]
      omega
    refine AW.at_ (fun L hL => ?_)
    simp [tvU, tvS] at hL
    subst hL
    with_reducible repeat first | refine Jt.i ?_ | refine .g (by decide) ?_
    by_cases h2 : i < 2
    · have w6 : IntKind.i64.wrap ((i : Int) + 1) = ((i + 1 : Nat) : Int) := by rw [i64_ok _ (by omega) (by omega)]; omega
      have h2i : (i : Int) < 2 := by omega
      obtain ⟨x, hx⟩ := some_of_lt (l := headsT k z) (k := i) (by omega)
      have es := stH_s (hs := H0) hx
      obtain ⟨p1, p2⟩ := q1 i
      clear q1
      generalize headsT k z = ab at *
      generalize stH H0 ab i = S at *
      have rx := hs_at hx
      refine AW.rc 100 fun K hK => ?_
      repeat (with_reducible refine .s fun X Y Z W => ?_; simp [h2i]; (first | refine Z.out _ _ ?_ | refine W.out _ ?_ | refine ⟨by kernel_rfl, W.out _ ?_⟩); clear Z W X Y; simp [h2i]); (try refine .n ?_)
      refine Jt.f hK ?_
      clear hK K
      with_reducible repeat first | refine Jt.i ?_ | refine .g (by decide) ?_
      refine AW.ct rfl ?_
      with_reducible repeat first | refine Jt.i ?_ | refine .g (by decide) ?_
      refine AW.rc 110 fun K hK => ?_
      repeat (with_reducible refine .s fun X Y Z W => ?_; simp [h2i]; (first | refine Z.out _ _ ?_ | refine W.out _ ?_ | refine ⟨by kernel_rfl, W.out _ ?_⟩); clear Z W X Y; simp [h2i]); (try refine .n ?_)
      refine .s fun K1 K2 hK1 hK2 => ?_
      simp [h2i]
      first | refine ⟨i, _, rfl, rx, ?_⟩ | refine orr_l ⟨i, _, rfl, rx, ?_⟩
      refine hK1.out _ _ ?_
      clear hK1 hK2 K1 K2
      (try simp [h2i])
      repeat (with_reducible refine .s fun X Y Z W => ?_; simp [h2i]; (first | refine Z.out _ _ ?_ | refine W.out _ ?_ | refine ⟨by kernel_rfl, W.out _ ?_⟩); clear Z W X Y; simp [h2i]); (try refine .n ?_)
      refine Jt.f hK ?_
      clear hK K
      with_reducible repeat first | refine Jt.i ?_ | refine .g (by decide) ?_
      obtain ⟨t, ad, rs⟩ := x
      simp only at rx
      by_cases hrs : rs = []
      · subst hrs
        have es' : stH H0 ab (i + 1) = S := by rw [es]; unfold pushIf; rw [if_pos rfl]
        refine AW.rc 120 fun K hK => ?_
        repeat (with_reducible refine .s fun X Y Z W => ?_; simp; (first | refine Z.out _ _ ?_ | refine W.out _ ?_ | refine ⟨by kernel_rfl, W.out _ ?_⟩); clear Z W X Y; simp); (try refine .n ?_)
        refine Jt.f hK ?_
        clear hK K
        with_reducible repeat first | refine Jt.i ?_ | refine .g (by decide) ?_
        refine AW.cf rfl ?_
        with_reducible repeat first | refine Jt.i ?_ | refine .g (by decide) ?_
        refine AW.rc 140 fun K hK => ?_
        repeat (with_reducible refine .s fun X Y Z W => ?_; simp [w6]; (first | refine Z.out _ _ ?_ | refine W.out _ ?_ | refine ⟨by kernel_rfl, W.out _ ?_⟩); clear Z W X Y; simp [w6]); (try refine .n ?_)
        refine Jt.f hK ?_
        clear hK K
        with_reducible repeat first | refine Jt.i ?_ | refine .g (by decide) ?_
        exact NX.round ⟨i + 1, by omega⟩ (by show 2 - (i + 1) < 2 - i; omega) (view_of (vw [(2, 2)] [(900, [900]), (901, [901]), (910, [910]), (911, [911])] [] [(900, some 900), (910, some 910)]) (by simp [tvU, tvS, es']))
      · have g2 : 0 < rs.length := List.length_pos_iff.2 hrs
        have es' : stH H0 ab (i + 1) = pushL ltH S (t, ad, rs) := by rw [es]; unfold pushIf; rw [if_neg hrs]
        have cp := ppush_kz ⟨S, (0, 0), false⟩ (t, ad, rs) (by simp only; omega) p1 hrs
        simp only at cp
        generalize pushL ltH S (t, ad, rs) = S' at *
        refine AW.rc 120 fun K hK => ?_
        repeat (with_reducible refine .s fun X Y Z W => ?_; simp [g2]; (first | refine Z.out _ _ ?_ | refine W.out _ ?_ | refine ⟨by kernel_rfl, W.out _ ?_⟩); clear Z W X Y; simp [g2]); (try refine .n ?_)
        refine Jt.f hK ?_
        clear hK K
        with_reducible repeat first | refine Jt.i ?_ | refine .g (by decide) ?_
        refine AW.ct rfl ?_
        with_reducible repeat first | refine Jt.i ?_ | refine .g (by decide) ?_
        refine AW.keep 37 (fun L hL => ?_)
        simp only [keepT_nil, keepT_tmp, keepT_vt, keepT_cell, keepT_zn, keepT_nm, keepT_hd, keepT_sz, keepT_df, if_true, if_false, Nat.reduceLT, reduceIte] at hL
        subst hL
        refine AW.rc 130 fun K hK => ?_
        repeat (with_reducible refine .s fun X Y Z W => ?_; simp; (first | refine Z.out _ _ ?_ | refine W.out _ ?_ | refine ⟨by kernel_rfl, W.out _ ?_⟩); clear Z W X Y; simp); (try refine .n ?_)
        refine .s fun K1 K2 hK1 hK2 => ?_
        simp
        refine hatch_nilp rfl ?_
        refine hK1.out _ _ ?_
        clear hK1 hK2 K1 K2
        (try simp)
        repeat (with_reducible refine .s fun X Y Z W => ?_; simp; (first | refine Z.out _ _ ?_ | refine W.out _ ?_ | refine ⟨by kernel_rfl, W.out _ ?_⟩); clear Z W X Y; simp); (try refine .n ?_)
        refine .s fun K1 K2 hK1 hK2 => ?_
        simp
        refine hatch_mkifc make_hp rfl ?_
        refine hK1.out _ _ ?_
        clear hK1 hK2 K1 K2
        (try simp)
        repeat (with_reducible refine .s fun X Y Z W => ?_; simp; (first | refine Z.out _ _ ?_ | refine W.out _ ?_ | refine ⟨by kernel_rfl, W.out _ ?_⟩); clear Z W X Y; simp); (try refine .n ?_)
        refine .s fun K1 K2 hK1 hK2 => ?_
        simp
        refine hatch_z (hatch_ifa [910, 911] make_hd rfl rfl rfl rfl ?_)
        refine hK1.out _ _ ?_
        clear hK1 hK2 K1 K2
        (try simp)
        repeat (with_reducible refine .s fun X Y Z W => ?_; simp; (first | refine Z.out _ _ ?_ | refine W.out _ ?_ | refine ⟨by kernel_rfl, W.out _ ?_⟩); clear Z W X Y; simp); (try refine .n ?_)
        refine .s fun K1 K2 hK1 hK2 => ?_
        try simp
        refine orr_r (orr_r (hatch_kz (κ := .ifc 128) (fun a w g h => run_val h rfl rfl w) cp ⟨rfl, rfl, rfl, rfl, rfl, rfl, rfl, rfl, rfl⟩ ?_))
        refine hK1.out _ _ ?_
        clear hK1 hK2 K1 K2
        (try simp)
        repeat (with_reducible refine .s fun X Y Z W => ?_; simp; (first | refine Z.out _ _ ?_ | refine W.out _ ?_ | refine ⟨by kernel_rfl, W.out _ ?_⟩); clear Z W X Y; simp); (try refine .n ?_)
        refine ⟨chk_drawn (by kernel_rfl) (by kernel_rfl), hK.out _ ?_⟩
        clear hK K
        with_reducible repeat first | refine Jt.i ?_ | refine .g (by decide) ?_
        refine AW.keep 37 (fun L hL => ?_)
        simp only [keepT_nil, keepT_tmp, keepT_vt, keepT_cell, keepT_zn, keepT_nm, keepT_hd, keepT_sz, keepT_df, if_true, if_false, Nat.reduceLT, reduceIte] at hL
        subst hL
        refine AW.rc 140 fun K hK => ?_
        repeat (with_reducible refine .s fun X Y Z W => ?_; simp [w6]; (first | refine Z.out _ _ ?_ | refine W.out _ ?_ | refine ⟨by kernel_rfl, W.out _ ?_⟩); clear Z W X Y; simp [w6]); (try refine .n ?_)
        refine Jt.f hK ?_
        clear hK K
        with_reducible repeat first | refine Jt.i ?_ | refine .g (by decide) ?_
        exact NX.round ⟨i + 1, by omega⟩ (by show 2 - (i + 1) < 2 - i; omega) (view_of (vw [(2, 2)] [(900, [200136]), (901, [901, 136]), (910, [910]), (911, [911])] [] [(900, some 200136), (910, some 910)]) (by simp [tvU, tvS, es']))
    · obtain rfl : i = 2 := by omega
      rw [← en]
      clear q1
      generalize hS' : ofN l (k + 1) = S' at *
      refine AW.rc 100 fun K hK => ?_
      repeat (with_reducible refine .s fun X Y Z W => ?_; simp; (first | refine Z.out _ _ ?_ | refine W.out _ ?_ | refine ⟨by kernel_rfl, W.out _ ?_⟩); clear Z W X Y; simp); (try refine .n ?_)
      refine Jt.f hK ?_
      clear hK K
      with_reducible repeat first | refine Jt.i ?_ | refine .g (by decide) ?_
      refine AW.cf rfl ?_
      with_reducible repeat first | refine Jt.i ?_ | refine .g (by decide) ?_
      refine AW.rc 150 fun K hK => ?_
      repeat (with_reducible refine .s fun X Y Z W => ?_; simp [w5]; (first | refine Z.out _ _ ?_ | refine W.out _ ?_ | refine ⟨by kernel_rfl, W.out _ ?_⟩); clear Z W X Y; simp [w5]); (try refine .n ?_)
      refine Jt.f hK ?_
      clear hK K
      with_reducible repeat first | refine Jt.i ?_ | refine .g (by decide) ?_
      exact NX.round ⟨k + 1, hgo⟩ (by show l.length - (k + 1) < l.length - k; omega) (view_of (vw [(2, 2)] [(900, [900]), (901, [901, 910, 911])] [] [(900, some 900)]) (by simp [tvS, hS']))
  · obtain rfl : k = l.length := by omega
    obtain ⟨o1, o2⟩ := ofN_ok l l.length
    have c1 := step_kz (ofN l l.length) (0, 0) false (by omega) G
    generalize stepV ⟨ofN l l.length, (0, 0), false⟩ = R at *
    generalize ofN l l.length = H0 at *
    refine AW.rc 70 fun K hK => ?_
    repeat (with_reducible refine .s fun X Y Z W => ?_; simp; (first | refine Z.out _ _ ?_ | refine W.out _ ?_ | refine ⟨by kernel_rfl, W.out _ ?_⟩); clear Z W X Y; simp); (try refine .n ?_)
    refine Jt.f hK ?_
    clear hK K
    with_reducible repeat first | refine Jt.i ?_ | refine .g (by decide) ?_
    refine AW.cf rfl ?_
    with_reducible repeat first | refine Jt.i ?_ | refine .g (by decide) ?_
    refine AW.rc 160 fun K hK => ?_
    repeat (with_reducible refine .s fun X Y Z W => ?_; simp; (first | refine Z.out _ _ ?_ | refine W.out _ ?_ | refine ⟨by kernel_rfl, W.out _ ?_⟩); clear Z W X Y; simp); (try refine .n ?_)
    refine .s fun K1 K2 hK1 hK2 => ?_
    try simp
    refine orr_r (orr_r (hatch_kz (κ := .ptr 0) (fun a w g h => run_val h rfl rfl w) c1 ⟨rfl, rfl, rfl, rfl, rfl, rfl, rfl, rfl, rfl⟩ ?_))
    refine hK1.out _ _ ?_
    clear hK1 hK2 K1 K2
    (try simp)
    repeat (with_reducible refine .s fun X Y Z W => ?_; simp; (first | refine Z.out _ _ ?_ | refine W.out _ ?_ | refine ⟨by kernel_rfl, W.out _ ?_⟩); clear Z W X Y; simp); (try refine .n ?_)
    refine Jt.f hK ?_
    clear hK K
    with_reducible repeat first | refine Jt.i ?_ | refine .g (by decide) ?_
    refine AW.rc 170 fun K hK => ?_
    repeat (with_reducible refine .s fun X Y Z W => ?_; simp; (first | refine Z.out _ _ ?_ | refine W.out _ ?_ | refine ⟨by kernel_rfl, W.out _ ?_⟩); clear Z W X Y; simp); (try refine .n ?_)
    refine Jt.f hK ?_
    clear hK K
    with_reducible repeat first | refine Jt.i ?_ | refine .g (by decide) ?_
    refine nx_kn (n := 2) (.inr rfl) rfl rfl rfl ⟨rfl, rfl, rfl⟩ rfl (by simp)
set_option maxHeartbeats 4000000 in
theorem of_bad (l : List Tr) (hok : tsR l = false) (hs : ∀ t ∈ l, t.1.length + t.2.length ≤ 1048576) : Ct Try.prog 44 [.c (TsD l)] none (.tup [.c (.v (.pointer none)), dI 210]) := by
  have ck := tcheckA_ct l hs
  rw [hok] at ck
  refine ct_intro Try.func44 rfl Try.ntmps44 (by simp) (fun W0 Z => ?_)
  with_reducible repeat first | refine Jt.i ?_ | refine .g (by decide) ?_
  refine AW.at_ (fun L hL => ?_)
  simp at hL
  subst hL
  refine AW.rc 10 fun K hK => ?_
  repeat (with_reducible refine .s fun X Y Z W => ?_; simp; (first | refine Z.out _ _ ?_ | refine W.out _ ?_ | refine ⟨by kernel_rfl, W.out _ ?_⟩); clear Z W X Y; simp); (try refine .n ?_)
  refine Jt.f hK ?_
  clear hK K
  with_reducible repeat first | refine Jt.i ?_ | refine .g (by decide) ?_
  refine AW.rc 20 fun K hK => ?_
  repeat (with_reducible refine .s fun X Y Z W => ?_; simp; (first | refine Z.out _ _ ?_ | refine W.out _ ?_ | refine ⟨by kernel_rfl, W.out _ ?_⟩); clear Z W X Y; simp); (try refine .n ?_)
  refine .s fun K1 K2 hK1 hK2 => ?_
  simp
  refine orr_l ⟨by kernel_rfl, .inl ⟨_, ck, ?_⟩⟩
  (try simp)
  refine hK1.out _ _ ?_
  clear hK1 hK2 K1 K2
  (try simp)
  repeat (with_reducible refine .s fun X Y Z W => ?_; simp; (first | refine Z.out _ _ ?_ | refine W.out _ ?_ | refine ⟨by kernel_rfl, W.out _ ?_⟩); clear Z W X Y; simp); (try refine .n ?_)
  refine Jt.f hK ?_
  clear hK K
  with_reducible repeat first | refine Jt.i ?_ | refine .g (by decide) ?_
  refine AW.rc 30 fun K hK => ?_
  repeat (with_reducible refine .s fun X Y Z W => ?_; simp; (first | refine Z.out _ _ ?_ | refine W.out _ ?_ | refine ⟨by kernel_rfl, W.out _ ?_⟩); clear Z W X Y; simp); (try refine .n ?_)
  refine Jt.f hK ?_
  clear hK K
  with_reducible repeat first | refine Jt.i ?_ | refine .g (by decide) ?_
  refine AW.ct rfl ?_
  with_reducible repeat first | refine Jt.i ?_ | refine .g (by decide) ?_
  refine AW.rc 40 fun K hK => ?_
  repeat (with_reducible refine .s fun X Y Z W => ?_; simp; (first | refine Z.out _ _ ?_ | refine W.out _ ?_ | refine ⟨by kernel_rfl, W.out _ ?_⟩); clear Z W X Y; simp); (try refine .n ?_)
  refine Jt.f hK ?_
  clear hK K
  with_reducible repeat first | refine Jt.i ?_ | refine .g (by decide) ?_
  refine nx_ret (T := ty) (rs := [.tmp 2, .tmp 3]) (zs := []) (ds := [.c (.v (.pointer none)), dI 210]) (rr := []) (.inr rfl) rfl (by kernel_rfl) (by kernel_rfl) (by simp) rfl
def view0 (l : List Tr) : VO := stepV ⟨ofN l l.length, (0, 0), false⟩
theorem view0_stands {l : List Tr} (h : tsR l = true) : Stands (view0 l) (whichL l 1) := stepV_stands (tsR_good h).1 (tsR_good h).2
theorem pushIf_pairs (hs : List Hd) (h : Hd) : pairsH (pushIf hs h) ≤ pairsH hs + h.2.2.length := by
  unfold pushIf
  split
  · omega
  · rw [pairsH_perm (pushL_perm (lt := ltH) hs h)]
    unfold pairsH
    simp
    omega
theorem ofN_pairs {l : List Tr} {c : Nat} (h : ∀ t ∈ l, t.1.length + t.2.length ≤ c) : ∀ k, pairsH (ofN l k) ≤ c * k
  | 0 => Nat.le_refl _
  | k + 1 => by
    have ih := ofN_pairs h k
    have e : c * (k + 1) = c * k + c := Nat.mul_succ c k
    cases hk : l[k]? with
    | none => rw [ofN_none hk]; omega
    | some t =>
      rw [ofN_two hk]
      have a1 := pushIf_pairs (pushIf (ofN l k) ((k : Int), true, t.1)) ((k : Int), false, t.2)
      have a2 := pushIf_pairs (ofN l k) ((k : Int), true, t.1)
      have a3 := h t (List.mem_of_getElem? hk)
      simp only at a1 a2
      omega
theorem view0_good {l : List Tr} (h : tsR l = true) {c : Nat} (hc : ∀ t ∈ l, t.1.length + t.2.length ≤ c) (hcc : c ≤ 4000000) : GoodV (view0 l) := by
  have hl : l.length ≤ 24 := by unfold tsR at h; simp at h; exact h.1
  have a1 := ofN_pairs hc l.length
  have a2 : c * l.length ≤ c * 24 := Nat.mul_le_mul_left _ hl
  exact GoodV.step (V := ⟨ofN l l.length, (0, 0), false⟩) ⟨(tsR_good h).1, by have := (ofN_ok l l.length).2; show (ofN l l.length).length ≤ 500; omega, by show pairsH (ofN l l.length) ≤ _; omega⟩
theorem Stands.head {V : VO} {p : Pr} {L : List Pr} (h : Stands V (p :: L)) : ∃ hs, V = ⟨hs, p, false⟩ := by
  cases h with
  | «at» hs p L G hr ht => exact ⟨hs, rfl⟩
theorem Stands.nil {V : VO} (h : Stands V []) : V = ⟨[], (0, 0), true⟩ := by
  cases h
  rfl
theorem smallT_ok : tsR smallT = true := by decide
set_option maxHeartbeats 16000000 in
theorem wakes13_ct : Ct Try.prog 42 [] none (.one (dB true)) := by
  have c0 := small13_ct
  have c1 := of_kn smallT smallT_ok (by decide) (tsR_good smallT_ok).1
  change Kn _ _ _ _ (vC (view0 smallT)) at c1
  have st0 := view0_stands smallT_ok
  have G0 := view0_good smallT_ok (c := 4) (by decide) (by decide)
  have ew : whichL smallT 1 = [(2, 2), (3, 3)] := rises_ext (whichL_rises _ _) (by simp [Rises, lt]) fun q => by
    rw [whichL_mem, show smallT = ([] ++ [([(1, 1), (2, 2)], [])]) ++ [([(3, 3)], [(1, 1)])] from rfl, saidF_snoc, saidF_snoc, saidF_nil]
    by_cases h1 : q = (1, 1)
    · subst h1; simp
    · by_cases h2 : q = (2, 2)
      · subst h2; simp
      · by_cases h3 : q = (3, 3)
        · subst h3; simp
        · simp [h1, h2, h3]
  rw [ew] at st0
  generalize view0 smallT = V0 at *
  obtain ⟨hs0, rfl⟩ := st0.head
  have ca := at_kz ⟨hs0, (2, 2), false⟩
  have cr := rest_kz _ _ G0 st0 (by decide)
  have cs := seek_kz ⟨hs0, (2, 2), false⟩ (2, 9) G0
  have st1 := st0.seek (2, 9)
  have G1 := G0.seek (2, 9)
  have e1 : skipR (2, 9) [(2, 2), (3, 3)] = [(3, 3)] := by simp [skipR, lt]
  rw [e1] at st1
  generalize seekV (2, 9) ⟨hs0, (2, 2), false⟩ = V1 at *
  obtain ⟨hs1, rfl⟩ := st1.head
  have cb := at_kz ⟨hs1, (3, 3), false⟩
  have cn := next_kz _ G1
  have st2 := st1.next
  have G2 := G1.next
  rw [show nextV ⟨hs1, (3, 3), false⟩ = stepV ⟨hs1, (3, 3), false⟩ from rfl] at cn G2
  generalize stepV ⟨hs1, (3, 3), false⟩ = V2 at *
  obtain rfl := st2.nil
  have cm := next_kz _ G2
  rw [show nextV ⟨[], (0, 0), true⟩ = ⟨[], (0, 0), true⟩ from rfl] at cm
  clear st0 st1 st2 G0 G1 G2
  refine ct_intro Try.func42 rfl Try.ntmps42 (by simp) (fun W0 Z => ?_)
  with_reducible repeat first | refine Jt.i ?_ | refine .g (by decide) ?_
  refine AW.at_ (fun L hL => ?_)
  simp at hL
  subst hL
  refine AW.rc 10 fun K hK => ?_
  repeat (with_reducible refine .s fun X Y Z W => ?_; simp; (first | refine Z.out _ _ ?_ | refine W.out _ ?_ | refine ⟨by kernel_rfl, W.out _ ?_⟩); clear Z W X Y; simp); (try refine .n ?_)
  refine Jt.f hK ?_
  clear hK K
  with_reducible repeat first | refine Jt.i ?_ | refine .g (by decide) ?_
  refine AW.rc 20 fun K hK => ?_
  repeat (with_reducible refine .s fun X Y Z W => ?_; simp; (first | refine Z.out _ _ ?_ | refine W.out _ ?_ | refine ⟨by kernel_rfl, W.out _ ?_⟩); clear Z W X Y; simp); (try refine .n ?_)
  refine .s fun K1 K2 hK1 hK2 => ?_
  simp
  refine orr_l ⟨by kernel_rfl, .inr (.inl ⟨_, _, _, c0, ?_⟩)⟩
  (try simp)
  refine hK1.out _ _ ?_
  clear hK1 hK2 K1 K2
  (try simp)
  repeat (with_reducible refine .s fun X Y Z W => ?_; simp; (first | refine Z.out _ _ ?_ | refine W.out _ ?_ | refine ⟨by kernel_rfl, W.out _ ?_⟩); clear Z W X Y; simp); (try refine .n ?_)
  refine .s fun K1 K2 hK1 hK2 => ?_
  try simp
  refine orr_r (orr_r (hatch_kn rfl c1 rfl rfl rfl rfl ?_))
  refine hK1.out _ _ ?_
  clear hK1 hK2 K1 K2
  (try simp)
  repeat (with_reducible refine .s fun X Y Z W => ?_; simp; (first | refine Z.out _ _ ?_ | refine W.out _ ?_ | refine ⟨by kernel_rfl, W.out _ ?_⟩); clear Z W X Y; simp); (try refine .n ?_)
  refine .s fun K1 K2 hK1 hK2 => ?_
  simp
  refine hatch_ex0 rfl ?_
  refine hK1.out _ _ ?_
  clear hK1 hK2 K1 K2
  (try simp)
  repeat (with_reducible refine .s fun X Y Z W => ?_; simp; (first | refine Z.out _ _ ?_ | refine W.out _ ?_ | refine ⟨by kernel_rfl, W.out _ ?_⟩); clear Z W X Y; simp); (try refine .n ?_)
  refine .s fun K1 K2 hK1 hK2 => ?_
  simp
  refine hatch_exs rfl rfl ?_
  refine hK1.out _ _ ?_
  clear hK1 hK2 K1 K2
  (try simp)
  repeat (with_reducible refine .s fun X Y Z W => ?_; simp; (first | refine Z.out _ _ ?_ | refine W.out _ ?_ | refine ⟨by kernel_rfl, W.out _ ?_⟩); clear Z W X Y; simp); (try refine .n ?_)
  refine Jt.f hK ?_
  clear hK K
  with_reducible repeat first | refine Jt.i ?_ | refine .g (by decide) ?_
  refine AW.rc 30 fun K hK => ?_
  repeat (with_reducible refine .s fun X Y Z W => ?_; simp; (first | refine Z.out _ _ ?_ | refine W.out _ ?_ | refine ⟨by kernel_rfl, W.out _ ?_⟩); clear Z W X Y; simp); (try refine .n ?_)
  refine .s fun K1 K2 hK1 hK2 => ?_
  simp
  refine hatch_eqnil (neqp .eql false ⟨rfl, rfl⟩) rfl ?_
  refine hK1.out _ _ ?_
  clear hK1 hK2 K1 K2
  (try simp)
  repeat (with_reducible refine .s fun X Y Z W => ?_; simp; (first | refine Z.out _ _ ?_ | refine W.out _ ?_ | refine ⟨by kernel_rfl, W.out _ ?_⟩); clear Z W X Y; simp); (try refine .n ?_)
  refine Jt.f hK ?_
  clear hK K
  with_reducible repeat first | refine Jt.i ?_ | refine .g (by decide) ?_
  refine AW.cf rfl ?_
  with_reducible repeat first | refine Jt.i ?_ | refine .g (by decide) ?_
  refine AW.rc 50 fun K hK => ?_
  repeat (with_reducible refine .s fun X Y Z W => ?_; simp; (first | refine Z.out _ _ ?_ | refine W.out _ ?_ | refine ⟨by kernel_rfl, W.out _ ?_⟩); clear Z W X Y; simp); (try refine .n ?_)
  refine .s fun K1 K2 hK1 hK2 => ?_
  try simp
  refine orr_r (orr_r (hatch_kz (κ := .ptr 0) (fun a w g h => run_val h rfl rfl w) ca ⟨rfl, rfl, rfl, rfl, rfl, rfl, rfl, rfl, rfl⟩ ?_))
  refine hK1.out _ _ ?_
  clear hK1 hK2 K1 K2
  (try simp)
  repeat (with_reducible refine .s fun X Y Z W => ?_; simp; (first | refine Z.out _ _ ?_ | refine W.out _ ?_ | refine ⟨by kernel_rfl, W.out _ ?_⟩); clear Z W X Y; simp); (try refine .n ?_)
  refine Jt.f hK ?_
  clear hK K
  with_reducible repeat first | refine Jt.i ?_ | refine .g (by decide) ?_
  refine AW.rc 60 fun K hK => ?_
  repeat (with_reducible refine .s fun X Y Z W => ?_; simp; (first | refine Z.out _ _ ?_ | refine W.out _ ?_ | refine ⟨by kernel_rfl, W.out _ ?_⟩); clear Z W X Y; simp); (try refine .n ?_)
  refine .s fun K1 K2 hK1 hK2 => ?_
  try simp
  refine orr_r (orr_r (hatch_kzo (κ := .ptr 0) (fun a w g h => run_val h rfl rfl w) cr ⟨rfl, rfl, rfl, rfl, rfl, rfl, rfl, rfl, rfl⟩ rfl rfl ?_))
  refine hK1.out _ _ ?_
  clear hK1 hK2 K1 K2
  (try simp)
  repeat (with_reducible refine .s fun X Y Z W => ?_; simp; (first | refine Z.out _ _ ?_ | refine W.out _ ?_ | refine ⟨by kernel_rfl, W.out _ ?_⟩); clear Z W X Y; simp); (try refine .n ?_)
  refine Jt.f hK ?_
  clear hK K
  with_reducible repeat first | refine Jt.i ?_ | refine .g (by decide) ?_
  refine AW.rc 80 fun K hK => ?_
  repeat (with_reducible refine .s fun X Y Z W => ?_; simp; (first | refine Z.out _ _ ?_ | refine W.out _ ?_ | refine ⟨by kernel_rfl, W.out _ ?_⟩); clear Z W X Y; simp); (try refine .n ?_)
  refine .s fun K1 K2 hK1 hK2 => ?_
  try simp
  refine orr_r (orr_r (hatch_kz (κ := .ptr 0) (fun a w g h => run_val h rfl rfl w) cs ⟨rfl, rfl, rfl, rfl, rfl, rfl, rfl, rfl, rfl⟩ ?_))
  refine hK1.out _ _ ?_
  clear hK1 hK2 K1 K2
  (try simp)
  repeat (with_reducible refine .s fun X Y Z W => ?_; simp; (first | refine Z.out _ _ ?_ | refine W.out _ ?_ | refine ⟨by kernel_rfl, W.out _ ?_⟩); clear Z W X Y; simp); (try refine .n ?_)
  refine Jt.f hK ?_
  clear hK K
  with_reducible repeat first | refine Jt.i ?_ | refine .g (by decide) ?_
  refine AW.rc 90 fun K hK => ?_
  repeat (with_reducible refine .s fun X Y Z W => ?_; simp; (first | refine Z.out _ _ ?_ | refine W.out _ ?_ | refine ⟨by kernel_rfl, W.out _ ?_⟩); clear Z W X Y; simp); (try refine .n ?_)
  refine .s fun K1 K2 hK1 hK2 => ?_
  try simp
  refine orr_r (orr_r (hatch_kz (κ := .ptr 0) (fun a w g h => run_val h rfl rfl w) cb ⟨rfl, rfl, rfl, rfl, rfl, rfl, rfl, rfl, rfl⟩ ?_))
  refine hK1.out _ _ ?_
  clear hK1 hK2 K1 K2
  (try simp)
  repeat (with_reducible refine .s fun X Y Z W => ?_; simp; (first | refine Z.out _ _ ?_ | refine W.out _ ?_ | refine ⟨by kernel_rfl, W.out _ ?_⟩); clear Z W X Y; simp); (try refine .n ?_)
  refine Jt.f hK ?_
  clear hK K
  with_reducible repeat first | refine Jt.i ?_ | refine .g (by decide) ?_
  refine AW.rc 100 fun K hK => ?_
  repeat (with_reducible refine .s fun X Y Z W => ?_; simp; (first | refine Z.out _ _ ?_ | refine W.out _ ?_ | refine ⟨by kernel_rfl, W.out _ ?_⟩); clear Z W X Y; simp); (try refine .n ?_)
  refine .s fun K1 K2 hK1 hK2 => ?_
  try simp
  refine orr_r (orr_r (hatch_kz (κ := .ptr 0) (fun a w g h => run_val h rfl rfl w) cn ⟨rfl, rfl, rfl, rfl, rfl, rfl, rfl, rfl, rfl⟩ ?_))
  refine hK1.out _ _ ?_
  clear hK1 hK2 K1 K2
  (try simp)
  repeat (with_reducible refine .s fun X Y Z W => ?_; simp; (first | refine Z.out _ _ ?_ | refine W.out _ ?_ | refine ⟨by kernel_rfl, W.out _ ?_⟩); clear Z W X Y; simp); (try refine .n ?_)
  refine .s fun K1 K2 hK1 hK2 => ?_
  try simp
  refine orr_r (orr_r (hatch_kz (κ := .ptr 0) (fun a w g h => run_val h rfl rfl w) cm ⟨rfl, rfl, rfl, rfl, rfl, rfl, rfl, rfl, rfl⟩ ?_))
  refine hK1.out _ _ ?_
  clear hK1 hK2 K1 K2
  (try simp)
  repeat (with_reducible refine .s fun X Y Z W => ?_; simp; (first | refine Z.out _ _ ?_ | refine W.out _ ?_ | refine ⟨by kernel_rfl, W.out _ ?_⟩); clear Z W X Y; simp); (try refine .n ?_)
  refine Jt.f hK ?_
  clear hK K
  with_reducible repeat first | refine Jt.i ?_ | refine .g (by decide) ?_
  refine AW.keep 11 (fun L hL => ?_)
  simp only [keepT_nil, keepT_tmp, keepT_vt, keepT_cell, keepT_zn, keepT_nm, keepT_hd, keepT_sz, keepT_df, if_true, if_false, Nat.reduceLT, reduceIte] at hL
  subst hL
  have p2 := pair13_ct 2
  have p3 := pair13_ct 3
  have eq := equal_ct [(2, 2), (3, 3)] [(2, 2), (3, 3)]
  rw [decide_eq_true rfl] at eq
  refine AW.rc 110 fun K hK => ?_
  repeat (with_reducible refine .s fun X Y Z W => ?_; simp; (first | refine Z.out _ _ ?_ | refine W.out _ ?_ | refine ⟨by kernel_rfl, W.out _ ?_⟩); clear Z W X Y; simp); (try refine .n ?_)
  refine .s fun K1 K2 hK1 hK2 => ?_
  simp
  refine orr_l ⟨by kernel_rfl, .inl ⟨_, p2, ?_⟩⟩
  (try simp)
  refine hK1.out _ _ ?_
  clear hK1 hK2 K1 K2
  (try simp)
  repeat (with_reducible refine .s fun X Y Z W => ?_; simp; (first | refine Z.out _ _ ?_ | refine W.out _ ?_ | refine ⟨by kernel_rfl, W.out _ ?_⟩); clear Z W X Y; simp); (try refine .n ?_)
  refine .s fun K1 K2 hK1 hK2 => ?_
  simp
  refine sba_eql (2, 2) (2, 2) (decide_eq_true rfl) ?_
  refine hK1.out _ _ ?_
  clear hK1 hK2 K1 K2
  (try simp)
  repeat (with_reducible refine .s fun X Y Z W => ?_; simp; (first | refine Z.out _ _ ?_ | refine W.out _ ?_ | refine ⟨by kernel_rfl, W.out _ ?_⟩); clear Z W X Y; simp); (try refine .n ?_)
  refine .s fun K1 K2 hK1 hK2 => ?_
  simp
  refine orr_l ⟨by kernel_rfl, .inl ⟨_, p3, ?_⟩⟩
  (try simp)
  refine hK1.out _ _ ?_
  clear hK1 hK2 K1 K2
  (try simp)
  repeat (with_reducible refine .s fun X Y Z W => ?_; simp; (first | refine Z.out _ _ ?_ | refine W.out _ ?_ | refine ⟨by kernel_rfl, W.out _ ?_⟩); clear Z W X Y; simp); (try refine .n ?_)
  refine .s fun K1 K2 hK1 hK2 => ?_
  simp
  refine sba_eql (3, 3) (3, 3) (decide_eq_true rfl) ?_
  refine hK1.out _ _ ?_
  clear hK1 hK2 K1 K2
  (try simp)
  repeat (with_reducible refine .s fun X Y Z W => ?_; simp; (first | refine Z.out _ _ ?_ | refine W.out _ ?_ | refine ⟨by kernel_rfl, W.out _ ?_⟩); clear Z W X Y; simp); (try refine .n ?_)
  refine .s fun K1 K2 hK1 hK2 => ?_
  simp
  refine orr_l ⟨by kernel_rfl, .inl ⟨_, p2, ?_⟩⟩
  (try simp)
  refine hK1.out _ _ ?_
  clear hK1 hK2 K1 K2
  (try simp)
  repeat (with_reducible refine .s fun X Y Z W => ?_; simp; (first | refine Z.out _ _ ?_ | refine W.out _ ?_ | refine ⟨by kernel_rfl, W.out _ ?_⟩); clear Z W X Y; simp); (try refine .n ?_)
  refine .s fun K1 K2 hK1 hK2 => ?_
  simp
  refine orr_l ⟨by kernel_rfl, .inl ⟨_, p3, ?_⟩⟩
  (try simp)
  refine hK1.out _ _ ?_
  clear hK1 hK2 K1 K2
  (try simp)
  repeat (with_reducible refine .s fun X Y Z W => ?_; simp; (first | refine Z.out _ _ ?_ | refine W.out _ ?_ | refine ⟨by kernel_rfl, W.out _ ?_⟩); clear Z W X Y; simp); (try refine .n ?_)
  refine .s fun K1 K2 hK1 hK2 => ?_
  simp
  refine orr_l ⟨by kernel_rfl, .inl ⟨_, eq, ?_⟩⟩
  (try simp)
  refine hK1.out _ _ ?_
  clear hK1 hK2 K1 K2
  (try simp)
  repeat (with_reducible refine .s fun X Y Z W => ?_; simp; (first | refine Z.out _ _ ?_ | refine W.out _ ?_ | refine ⟨by kernel_rfl, W.out _ ?_⟩); clear Z W X Y; simp); (try refine .n ?_)
  refine ⟨chk_drawn (by kernel_rfl) (by kernel_rfl), hK.out _ ?_⟩
  clear hK K
  with_reducible repeat first | refine Jt.i ?_ | refine .g (by decide) ?_
  refine nx_ret (T := ty) (rs := [.tmp 0]) (zs := []) (ds := [dB true]) (rr := []) (.inr rfl) rfl (by kernel_rfl) (by kernel_rfl) (by simp) rfl
end Go.Proofs.Ytlkdkhmdmgchbaa
namespace Go.Proofs.Ytlkdkhmdmgchbaa
set_option linter.unusedSimpArgs false
set_option linter.unusedVariables false
open Go.RowKit
attribute [local simp ↓] raw_wp hdd_wp dst0_wp slc_wp gav_bool gav_undef avpo_ptr avpo_seg avpo_wp avpo_optr avtupw_tup avtupw_wp raw_optr hdd_optr arun_nil ob_some kva_av kfree_free khfree_free khown_own klive_live knm_false chk_true ya_true gsel_tt gsel_ff gsel_tf gsel_ft vb_bool vi_int vstr_string avps_ptr avps_seg avp_ptr avagg_agg avtup_tup avb_bool avown_own shs_struct shsa_struct shsa_arr sharr_arr shl_slice shla_slice shla_arr shls_slice shls_str shi_int bc_true bc_false hd1_cons opc_some opc_none opn_some opn_none unc_not unc_neg gd_none gd_some as_move as_assign as_pick as_bin as_un as_conv as_load as_faddr as_field as_extract as_iaddr as_slice as_alloc as_box as_store as_build as_rows as_call as_append as_invoke as_copy as_nilCheck as_makeIface as_assert as_makeSlice as_lookup as_mapUpdate as_makeMap as_range as_next as_entry as_index as_fn as_len as_min as_max stMove stPick stBin stUn stConv stLoad stFaddr stField stExtract stIaddr stSlice stAlloc stBox stStore stBuild stIndex stRows stCall stAppend stFn stLen stMin stMax opd_tmp opd_const opd_func rawL_nil rawL_cons raw_c raw_st raw_a opr_e zr_nil zr_cons lvd_live hod_own obd_some obd_none kvd_av chd_true vid_int lk_cons lk_nil ins_nil ins_cons cells_zero cells_succ spread1_c spread1_own spread1_ptr spread1_fn spread1_seg spreadL_nil spreadL_cons spread_agg spread_c spread_own spread_seg spread_ptr spread_fn ex_zero ex_succ ops_e opb_none opb_int spreadD_agg spreadD_c spreadD_own spreadD_seg fillO_nil fillO_cons argsOf_nil argsOf_cons dvOf_c dvOf_seg dvOf_own dvOf_agg zrL_nil zrL_cons hdd_c hdd_seg hdd_own clz_e clv_raw clv_f callD_e dst0_n dst0_nil dst0_own goneH_e capc_ptr capc_seg capc_c capN_nil capN_cons capD_nil capD_cons deadZ_nil deadZ_cons
attribute [local simp] dok_some dok_none dflt_tmp dflt_vt dflt_cell dflt_zn dflt_nm dflt_hd dflt_sz dflt_df puts_nil puts_cons wr_some wr_none cst_agg cst_int cst_bool cst_string cst_slice cst_tuple cst_nilFunc cst_pointer cst_func bin_add bin_sub bin_mul bin_quo bin_rem bin_eql bin_neq bin_lss bin_leq bin_gtr bin_geq bin_bool bin_aggs binT_bool binT_aggs shbd_bool eqb_eql eqb_neq bin_slice bin_str_eql bin_str_neq bin_str_lss bin_str_add nz_v nz_n nz_s nz_p nz_f nz_st atz_v atz_n atz_s atz_p atz_f atz_st atz_agg atR_one atR_tup crow_nil crow_cons slc_c slc_n slc_own slc_nil raws setR placesT_nil placesT_cons zc chunk zsAll setD ocD_v ocD_n ocD_s ocD_p ocD_f ocD_st nrm_v nrm_n nrm_s nrm_p nrm_f nrm_st isV_one isV_tup isV_c isV_agg isV_v isV_n isV_s isV_p isV_f isV_st argRows Sh.agg zds_nil zds_e zds_v zds_s vcells_agg vcells_int vcells_bool vcells_string vcells_slice vcells_pointer toList_lit map_nilL map_consL nzr_e rowsOc_nil rowsOc_cons rowsOc_RD nzr_RD foks_nil foks_cons fok_tmp fok_vt fok_cell fok_nm fok_zn fok_hd fok_sz fok_df Fv_c Fv_seg Fv_tup Fv_agg Fv_ptr Fv_ptrs Fv_wp Fv_fn Fv_fnd Fv_own Fv_ownd Fv_nown Fv_vown FvL_nil FvL_cons kvp_av hdp_some subz frz Uz Nm Uh vw_nb vw_zo vw_zf vw_hb tb_nil tb_cons fzc_nil fzc_cons fzcaps_nil fzcaps_cons ty2 ty3 ty4 ty5 ty6 ty7 ty8 ty9 ty10 ty11 ty12 ty13 ty14 ty15 ty16 ty17 ty18 ty19 ty20 ty21 ty22 ty23 ty24 ty25 ty26 ty27 ty30 ty40 ty48 ty50 ty51 ty52 ty55 ty57 ty62 ty63 ty85 ty94 ty101 ty121 ty122 ty123 ty124 ty125 ty126 ty128 ty148 ty149 ty151 ty164 ty165 ty179 ty182 ty196 ty203 ty205 ty209 ty211 ty215 ty216 ty217 ty218 ty219 ty220 ty221 ty223 ty224 ty225 ty226 ty227 Value.oneCell'
set_option maxRecDepth 100000
end Go.Proofs.Ytlkdkhmdmgchbaa
namespace Go.Proofs.Ytlkdkhmdmgchbaa
set_option linter.unusedSimpArgs false
set_option linter.unusedVariables false
open Go.RowKit
set_option maxRecDepth 100000
end Go.Proofs.Ytlkdkhmdmgchbaa
