/- The second logic: chapter 11: the law TiersStay. -/
import Derived.Test.YtlkdkhmdmgchbaaTC
namespace Go.Proofs.Ytlkdkhmdmgchbaa
set_option linter.unusedSimpArgs false
set_option linter.unusedVariables false
open Go.RowKit
theorem saidF_app (A B : List Tr) (p : Pr) : saidF (A ++ B) p = if saidF B p = none then saidF A p else saidF B p := by
  unfold saidF
  rw [List.reverse_append, List.foldl_append, foldT_is]
theorem saidF_one (t : Tr) (p : Pr) : saidF [t] p = if p ∈ t.2 then some 0 else if p ∈ t.1 then some 1 else none := by
  have := saidF_snoc [] t p
  simpa [saidF_nil] using this
/-- tiers as one. -/
def jnL (M : List Tr) (ob : Bool) : Tr := (whichL M 1, if ob then [] else whichL M 0)
theorem jnL_said (M : List Tr) (p : Pr) : saidF [jnL M false] p = saidF M p := by
  rw [saidF_one]
  have h1 := whichL_mem M 1 p
  have h0 := whichL_mem M 0 p
  show (if p ∈ whichL M 0 then some 0 else if p ∈ whichL M 1 then some 1 else none) = _
  cases h : saidF M p with
  | none =>
    rw [h] at h1 h0
    simp at h1 h0
    simp [h1, h0]
  | some x =>
    rw [h] at h1 h0
    rcases (saidF_mem M p x h).1 with rfl | rfl
    · simp at h1 h0
      simp [h1, h0]
    · simp at h1 h0
      simp [h1, h0]
theorem jnL_one (M : List Tr) (p : Pr) : saidF [jnL M true] p = some 1 ↔ saidF M p = some 1 := by
  rw [saidF_one]
  have h1 := whichL_mem M 1 p
  show (if p ∈ ([] : List Pr) then some 0 else if p ∈ whichL M 1 then some 1 else none) = some 1 ↔ _
  rw [← h1]
  simp
theorem sqL_cut (l : List Tr) {i j : Nat} (hij : i < j) : l = l.take i ++ ((l.take j).drop i ++ l.drop j) := by
  have e1 : l.take i = (l.take j).take i := by rw [List.take_take]; congr 1; omega
  rw [← List.append_assoc, e1, List.take_append_drop, List.take_append_drop]
theorem sqL_is (l : List Tr) (i j : Nat) : sqL l i j = l.take i ++ ([jnL ((l.take j).drop i) (decide (i = 0))] ++ l.drop j) := rfl
theorem sq_said (l : List Tr) {i j : Nat} (hij : i < j) (p : Pr) : saidF (sqL l i j) p = some 1 ↔ saidF l p = some 1 := by
  rw [sqL_is]
  conv => rhs; rw [sqL_cut l hij]
  rw [saidF_app, saidF_app, saidF_app (l.take i), saidF_app ((l.take j).drop i)]
  by_cases hx : saidF (l.drop j) p = none
  · simp only [hx, if_true]
    by_cases h0 : i = 0
    · subst h0
      rw [decide_eq_true rfl]
      have := jnL_one ((l.take j).drop 0) p
      generalize (l.take j).drop 0 = M at *
      simp only [List.take_zero, saidF_nil]
      by_cases h1 : saidF M p = some 1
      · have h2 := this.2 h1
        simp [h1, h2]
      · have h2 := fun h => h1 (this.1 h)
        have g1 : ¬ (if saidF [jnL M true] p = none then none else saidF [jnL M true] p) = some 1 := by
          intro h; split at h
          · cases h
          · exact h2 h
        have g2 : ¬ (if saidF M p = none then none else saidF M p) = some 1 := by
          intro h; split at h
          · cases h
          · exact h1 h
        exact ⟨fun h => absurd h g1, fun h => absurd h g2⟩
    · rw [decide_eq_false h0, jnL_said]
  · simp only [hx, if_false]
theorem sq_content (l : List Tr) {i j : Nat} (hij : i < j) : whichL (sqL l i j) 1 = whichL l 1 :=
  rises_ext (whichL_rises _ _) (whichL_rises _ _) fun p => by rw [whichL_mem, whichL_mem, sq_said l hij]
theorem sq_len (l : List Tr) {i j : Nat} (hij : i < j) (hj : j ≤ l.length) : (sqL l i j).length = l.length - (j - i) + 1 := by
  rw [sqL_is]
  simp [List.length_take, List.length_drop]
  omega
theorem sub_pairs (l : List Tr) (i j : Nat) : pairsN ((l.take j).drop i) ≤ pairsN l := by
  have h1 : pairsN (l.take j) = pairsN ((l.take j).take i) + pairsN ((l.take j).drop i) := by rw [← pairsN_app, List.take_append_drop]
  have := pairsN_le l j
  omega
theorem sq_mem (l : List Tr) {i j : Nat} {K : Tr → Prop} (h : ∀ t ∈ l, K t) (hJ : K (jnL ((l.take j).drop i) (decide (i = 0)))) : ∀ t ∈ sqL l i j, K t := fun t ht => by
  rw [sqL_is, List.mem_append, List.mem_append, List.mem_singleton] at ht
  rcases ht with ht | rfl | ht
  · exact h t (List.mem_of_mem_take ht)
  · exact hJ
  · exact h t (List.mem_of_mem_drop ht)
theorem sq_right (l : List Tr) {i j : Nat} (hij : i < j) (hj : j ≤ l.length) (h : tsR l = true) (hn : pairsN l ≤ 1000000) : tsR (sqL l i j) = true := by
  unfold tsR at h ⊢
  simp only [Bool.and_eq_true, decide_eq_true_eq, List.all_eq_true] at h ⊢
  refine ⟨by rw [sq_len l hij hj]; omega, sq_mem l h.2 ?_⟩
  exact which_one (by have := sub_pairs l i j; omega)
theorem jnL_len (M : List Tr) (ob : Bool) : (jnL M ob).1.length ≤ pairsN M ∧ (jnL M ob).2.length ≤ pairsN M := by
  refine ⟨whichL_len M 1, ?_⟩
  cases ob
  · exact whichL_len M 0
  · simp [jnL]
theorem jnL_wf {M : List Tr} (h : ∀ t ∈ M, wfT t) (ob : Bool) : wfT (jnL M ob) := by
  refine ⟨which_wf h 1, ?_⟩
  cases ob
  · exact which_wf h 0
  · exact fun p hp => by simp [jnL] at hp
theorem mid_mem {l : List Tr} {i j : Nat} {t : Tr} (h : t ∈ (l.take j).drop i) : t ∈ l := List.mem_of_mem_take (List.mem_of_mem_drop h)
theorem pairsN_split (l : List Tr) {i j : Nat} (hij : i < j) : pairsN l = pairsN (l.take i) + (pairsN ((l.take j).drop i) + pairsN (l.drop j)) := by
  conv => lhs; rw [sqL_cut l hij]
  rw [pairsN_app, pairsN_app]
theorem sq_pairs (l : List Tr) {i j : Nat} (hij : i < j) : pairsN (sqL l i j) ≤ 2 * pairsN l := by
  rw [sqL_is, pairsN_app, pairsN_app]
  have e : pairsN [jnL ((l.take j).drop i) (decide (i = 0))] = pairsT (jnL ((l.take j).drop i) (decide (i = 0))) := by simp [pairsN]
  rw [e]
  have := jnL_len ((l.take j).drop i) (decide (i = 0))
  have := pairsN_split l hij
  unfold pairsT
  omega
theorem which_self {c : List Pr} (h : Rises c) : whichL [(c, [])] 1 = c := rises_ext (whichL_rises _ _) h fun p => by
  rw [whichL_mem, saidF_one]
  by_cases h : p ∈ c <;> simp [h]
end Go.Proofs.Ytlkdkhmdmgchbaa
namespace Go.Proofs.Ytlkdkhmdmgchbaa
set_option linter.unusedSimpArgs false
set_option linter.unusedVariables false
open Go.RowKit
attribute [local simp ↓] gav_bool gav_undef arun_nil ob_some kva_av kfree_free khfree_free khown_own klive_live knm_false chk_true ya_true gsel_tt gsel_ff gsel_tf gsel_ft vb_bool vi_int vstr_string avps_ptr avps_seg avp_ptr avagg_agg avtup_tup avb_bool avown_own shs_struct shsa_struct shsa_arr sharr_arr shl_slice shla_slice shla_arr shls_slice shls_str shi_int bc_true bc_false hd1_cons opc_some opc_none opn_some opn_none unc_not unc_neg gd_none gd_some as_move as_assign as_pick as_bin as_un as_conv as_load as_faddr as_field as_extract as_iaddr as_slice as_alloc as_box as_store as_build as_rows as_call as_append as_lookup as_mapUpdate as_makeMap as_range as_next as_entry as_index as_fn as_len as_min as_max stMove stPick stBin stUn stConv stLoad stFaddr stField stExtract stIaddr stSlice stAlloc stBox stStore stBuild stIndex stRows stCall stAppend stFn stLen stMin stMax opd_tmp opd_const opd_func rawL_nil rawL_cons raw_c raw_st raw_a opr_e zr_nil zr_cons lvd_live hod_own obd_some obd_none kvd_av chd_true vid_int lk_cons lk_nil ins_nil ins_cons cells_zero cells_succ spread1_c spread1_own spread1_ptr spread1_fn spread1_seg spreadL_nil spreadL_cons spread_agg spread_c spread_own spread_seg spread_ptr spread_fn ex_zero ex_succ ops_e opb_none opb_int spreadD_agg spreadD_c spreadD_own spreadD_seg fillO_nil fillO_cons argsOf_nil argsOf_cons dvOf_c dvOf_seg dvOf_own dvOf_agg zrL_nil zrL_cons hdd_c hdd_seg hdd_own clz_e clv_raw clv_f callD_e dst0_n dst0_nil dst0_own goneH_e capc_ptr capc_seg capc_c capN_nil capN_cons capD_nil capD_cons deadZ_nil deadZ_cons
attribute [local simp] dok_some dok_none dflt_tmp dflt_vt dflt_cell dflt_zn dflt_nm dflt_hd dflt_df puts_nil puts_cons wr_some wr_none cst_agg cst_int cst_bool cst_string cst_slice cst_tuple cst_nilFunc cst_pointer cst_func bin_add bin_sub bin_mul bin_quo bin_rem bin_eql bin_neq bin_lss bin_leq bin_gtr bin_geq bin_bool bin_aggs binT_bool binT_aggs shbd_bool eqb_eql eqb_neq bin_slice bin_str_eql bin_str_neq bin_str_lss bin_str_add nz_v nz_n nz_s nz_p nz_f nz_st atz_v atz_n atz_s atz_p atz_f atz_st atz_agg atR_one atR_tup crow_nil crow_cons slc_c slc_n slc_own slc_nil raws setR placesT_nil placesT_cons zc chunk zsAll ocD_v ocD_n ocD_s ocD_p ocD_f ocD_st nrm_v nrm_n nrm_s nrm_p nrm_f nrm_st isV_one isV_tup isV_c isV_agg isV_v isV_n isV_s isV_p isV_f isV_st argRows Sh.agg zds_nil zds_e zds_v zds_s vcells_agg vcells_int vcells_bool vcells_string vcells_slice vcells_pointer toList_lit map_nilL map_consL nzr_e rowsOc_nil rowsOc_cons rowsOc_RD nzr_RD foks_nil foks_cons fok_tmp fok_vt fok_cell fok_nm fok_zn fok_hd fok_df Fv_c Fv_seg Fv_tup Fv_agg Fv_ptr Fv_ptrs Fv_fn Fv_fnd Fv_own Fv_ownd Fv_nown Fv_vown FvL_nil FvL_cons kvp_av hdp_some subz frz Uz Nm Uh vw_nb vw_zo vw_zf vw_hb tb_nil tb_cons fzc_nil fzc_cons fzcaps_nil fzcaps_cons ty2 ty3 ty4 ty5 ty6 ty7 ty8 ty9 ty10 ty11 ty12 ty13 ty14 ty15 ty16 ty17 ty18 ty19 ty20 ty21 ty22 ty23 ty24 ty25 ty26 ty27 ty30 ty40 ty48 ty50 ty51 ty52 ty55 ty57 ty62 ty63 ty85 ty94 ty101 ty121 ty122 ty123 ty124 ty125 ty126 ty128 ty148 ty149 ty151 ty164 ty165 ty179 ty182 ty196 ty203 ty205 ty209 ty211 ty215 ty216 ty217 ty218 ty219 ty220 ty221 ty223 ty224 ty225 ty226 ty227 Value.oneCell'
set_option maxRecDepth 100000
theorem tsR_nil : tsR [] = true := by decide
theorem which_nil : whichL [] 1 = [] := by decide
theorem least0_ct : Ct Try.prog 94 [.c (.v (.slice none 0 0))] none (.tup [.c (.v (.slice none 0 0)), dI 0]) :=
  Ct.niln (least_nil [] (fun t ht => by simp at ht) (fun t ht => by simp at ht) (by decide) tsR_nil which_nil)
theorem content0_ct : Ct Try.prog 86 [.c (.v (.slice none 0 0))] (some 52) (.one (.c (RD []))) := by
  have := content_ct [] tsR_nil (fun t ht => by simp at ht) (fun t ht => by simp at ht) (by decide)
  rw [which_nil] at this
  exact Ct.niln this
theorem psame0_ct : Ct Try.prog 93 [.c (.v (.slice none 0 0)), .c (.v (.slice none 0 0))] none (.one (dB true)) := by
  have := psame_ct [] [] (by simp)
  rw [decide_eq_true rfl] at this
  exact Ct.nilat (pre := [.c (.v (.slice none 0 0))]) (rest := []) (Ct.niln this)
def stS (L : List Tr) (C : List Pr) (k : Nat) : Row := [(.zn 21, .zn .live), (.zn 100021, .zn .live), (.hd 21, .hd (.own 24 2 21 [100021] (L.map fun t => [RD t.1, RD t.2]))), (.tmp 5, .av (.own 21)),
  (.zn 61, .zn .live), (.zn 100061, .zn .live), (.hd 61, .hd (.own 52 2 61 [100061] (C.map PD))), (.tmp 6, .av (.own 61)), (.tmp 93, .av (.own 61)), (.tmp 94, .av (.c [] (.v (.int .i64 C.length)))), (.tmp 95, .av (.c [] (.v (.int .i64 k))))]
set_option maxHeartbeats 16000000 in
theorem stay11_ct (l : List Tr) (a b : Int) (hN : l.length ≤ maxI) (hw : ∀ t ∈ l, wfT t) : Ct Try.prog 21 [.c (TsD l), .agg [.v (.int .i64 a), .v (.int .i64 b)]] none (.one (dB true)) := by
  have cw := wakes11_ct
  have co := own26_ct l hN
  obtain ⟨hL, hF⟩ := own26_fact hw
  generalize own26 l = L at *
  have hs : ∀ t ∈ L, t.1.length + t.2.length ≤ 1048576 := fun t ht => by have := hF t ht; omega
  have ck := tcheckA_ct L hs
  cases hts : tsR L with
  | false =>
    rw [hts] at ck
    have cn := content_ct' L hts hs
    refine ct_intro Try.func21 rfl Try.ntmps21 (by simp) (fun W0 Z => ?_)
    with_reducible repeat first | refine .a ?_ | refine .b ?_ | refine .c ?_ | refine .d ?_ | refine .e ?_ | refine .f ?_ | refine .g (by decide) ?_
    refine AW.at_ (fun L hL => ?_)
    simp at hL
    subst hL
    refine AW.rc 1 fun K hK => ?_
    repeat (with_reducible refine .s fun ι κ μ ν => ?_; simp; (first | refine μ.out _ _ ?_ | refine ν.out _ ?_ | refine ⟨by kernel_rfl, ν.out _ ?_⟩); clear μ ν ι κ; simp); (try with_reducible refine .n ?_)
    refine ⟨chk_text _ _, hK.out _ ?_⟩
    clear hK K
    with_reducible repeat first | refine .a ?_ | refine .b ?_ | refine .c ?_ | refine .d ?_ | refine .e ?_ | refine .f ?_ | refine .g (by decide) ?_
    refine AW.rc 10 fun K hK => ?_
    repeat (with_reducible refine .s fun ι κ μ ν => ?_; simp; (first | refine μ.out _ _ ?_ | refine ν.out _ ?_ | refine ⟨by kernel_rfl, ν.out _ ?_⟩); clear μ ν ι κ; simp); (try with_reducible refine .n ?_)
    refine .s fun K1 K2 hK1 hK2 => ?_
    simp
    refine orr_l ⟨by kernel_rfl, .inl ⟨_, cw, ?_⟩⟩
    (try simp)
    refine hK1.out _ _ ?_
    clear hK1 hK2 K1 K2
    (try simp)
    repeat (with_reducible refine .s fun ι κ μ ν => ?_; simp; (first | refine μ.out _ _ ?_ | refine ν.out _ ?_ | refine ⟨by kernel_rfl, ν.out _ ?_⟩); clear μ ν ι κ; simp); (try with_reducible refine .n ?_)
    refine ⟨chk_text _ _, hK.out _ ?_⟩
    clear hK K
    with_reducible repeat first | refine .a ?_ | refine .b ?_ | refine .c ?_ | refine .d ?_ | refine .e ?_ | refine .f ?_ | refine .g (by decide) ?_
    refine AW.cf rfl ?_
    with_reducible repeat first | refine .a ?_ | refine .b ?_ | refine .c ?_ | refine .d ?_ | refine .e ?_ | refine .f ?_ | refine .g (by decide) ?_
    refine AW.rc 20 fun K hK => ?_
    repeat (with_reducible refine .s fun ι κ μ ν => ?_; simp; (first | refine μ.out _ _ ?_ | refine ν.out _ ?_ | refine ⟨by kernel_rfl, ν.out _ ?_⟩); clear μ ν ι κ; simp); (try with_reducible refine .n ?_)
    refine .s fun K1 K2 hK1 hK2 => ?_
    simp
    refine orr_l ⟨by kernel_rfl, .inr (.inl ⟨_, _, _, co, ?_⟩)⟩
    (try simp)
    refine hK1.out _ _ ?_
    clear hK1 hK2 K1 K2
    (try simp)
    repeat (with_reducible refine .s fun ι κ μ ν => ?_; simp; (first | refine μ.out _ _ ?_ | refine ν.out _ ?_ | refine ⟨by kernel_rfl, ν.out _ ?_⟩); clear μ ν ι κ; simp); (try with_reducible refine .n ?_)
    refine ⟨chk_text _ _, hK.out _ ?_⟩
    clear hK K
    with_reducible repeat first | refine .a ?_ | refine .b ?_ | refine .c ?_ | refine .d ?_ | refine .e ?_ | refine .f ?_ | refine .g (by decide) ?_
    refine AW.rc 40 fun K hK => ?_
    repeat (with_reducible refine .s fun ι κ μ ν => ?_; simp; (first | refine μ.out _ _ ?_ | refine ν.out _ ?_ | refine ⟨by kernel_rfl, ν.out _ ?_⟩); clear μ ν ι κ; simp); (try with_reducible refine .n ?_)
    refine .s fun K1 K2 hK1 hK2 => ?_
    simp
    refine orr_l ⟨by kernel_rfl, .inl ⟨_, ck, ?_⟩⟩
    (try simp)
    refine hK1.out _ _ ?_
    clear hK1 hK2 K1 K2
    (try simp)
    repeat (with_reducible refine .s fun ι κ μ ν => ?_; simp; (first | refine μ.out _ _ ?_ | refine ν.out _ ?_ | refine ⟨by kernel_rfl, ν.out _ ?_⟩); clear μ ν ι κ; simp); (try with_reducible refine .n ?_)
    refine ⟨chk_text _ _, hK.out _ ?_⟩
    clear hK K
    with_reducible repeat first | refine .a ?_ | refine .b ?_ | refine .c ?_ | refine .d ?_ | refine .e ?_ | refine .f ?_ | refine .g (by decide) ?_
    refine AW.ct rfl ?_
    with_reducible repeat first | refine .a ?_ | refine .b ?_ | refine .c ?_ | refine .d ?_ | refine .e ?_ | refine .f ?_ | refine .g (by decide) ?_
    refine AW.rc 60 fun K hK => ?_
    repeat (with_reducible refine .s fun ι κ μ ν => ?_; simp; (first | refine μ.out _ _ ?_ | refine ν.out _ ?_ | refine ⟨by kernel_rfl, ν.out _ ?_⟩); clear μ ν ι κ; simp); (try with_reducible refine .n ?_)
    refine .s fun K1 K2 hK1 hK2 => ?_
    simp
    refine orr_l ⟨by kernel_rfl, .inl ⟨_, cn, ?_⟩⟩
    (try simp)
    refine hK1.out _ _ ?_
    clear hK1 hK2 K1 K2
    (try simp)
    repeat (with_reducible refine .s fun ι κ μ ν => ?_; simp; (first | refine μ.out _ _ ?_ | refine ν.out _ ?_ | refine ⟨by kernel_rfl, ν.out _ ?_⟩); clear μ ν ι κ; simp); (try with_reducible refine .n ?_)
    refine ⟨chk_text _ _, hK.out _ ?_⟩
    clear hK K
    with_reducible repeat first | refine .a ?_ | refine .b ?_ | refine .c ?_ | refine .d ?_ | refine .e ?_ | refine .f ?_ | refine .g (by decide) ?_
    refine nx_ret (T := ty) (rs := [.tmp 4]) (zs := []) (ds := [dB true]) (rr := []) (.inr rfl) rfl (by kernel_rfl) (by kernel_rfl) (by simp) rfl
  | true =>
    rw [hts] at ck
    have hwL : ∀ t ∈ L, wfT t := fun t ht => (hF t ht).2.2
    have pL : pairsN L ≤ 832 := by
      have := pairsN_bound (l := L) (c := 32) (fun t ht => by have := hF t ht; unfold pairsT; omega)
      omega
    have cn := content_ct L hts hs hwL (by omega)
    obtain ⟨C, hC⟩ : ∃ C, C = whichL L 1 := ⟨_, rfl⟩
    have hCl : C.length ≤ 832 := by rw [hC]; exact Nat.le_trans (whichL_len L 1) pL
    have hCr : Rises C := by rw [hC]; exact whichL_rises _ _
    have hCw : wfR C := by rw [hC]; exact which_wf hwL 1
    have hhas : ∀ p ∈ C, Ct Try.prog 95 [.c (TsD L), PV p] none (.one (dB true)) := fun p hp => by
      have := thas_ok L p (fun t ht => by have := hF t ht; omega) hts
      rw [hC, whichL_mem] at hp
      rw [decide_eq_true hp] at this
      exact this
    have crc := check_ct C
    rw [right_of hCr (by omega)] at crc
    have cln : C = [] → Ct Try.prog 94 [.c (TsD L)] none (.tup [.c (.v (.slice none 0 0)), dI 0]) := fun h => least_nil L hs hwL (by omega) hts (by rw [← hC]; exact h)
    have cl1 : C ≠ [] → Ct Try.prog 94 [.c (TsD L)] none (.tup [.c (TsD [(C, [])]), dI 0]) := fun h => by
      have := least_one L hs hwL (by omega) hts (by rw [← hC]; exact h)
      rw [← hC] at this
      exact this
    have hT : ∀ t ∈ [((C, []) : Tr)], t.1.length + t.2.length ≤ 1048576 ∧ wfT t := fun t ht => by
      simp at ht
      subst ht
      exact ⟨by simp only [List.length_nil]; omega, hCw, fun p hp => by simp at hp⟩
    have oneC : oneL ((C, []) : Tr) = true := oneL_of hCr Rises.nil (by show C.length ≤ _; omega) (by simp) (fun p hp => by simp)
    have tsC : tsR [((C, []) : Tr)] = true := by unfold tsR; simp [oneC]
    have pC : pairsN [((C, []) : Tr)] ≤ 1000000 := by simp [pairsN, pairsT]; omega
    have cl1' : C ≠ [] → Ct Try.prog 94 [.c (TsD [(C, [])])] none (.tup [.c (TsD [(C, [])]), dI 0]) := fun h => by
      have := least_one [(C, [])] (fun t ht => (hT t ht).1) (fun t ht => (hT t ht).2) pC tsC (by rw [which_self hCr]; exact h)
      rw [which_self hCr] at this
      exact this
    have n1 := content_ct [(C, [])] tsC (fun t ht => (hT t ht).1) (fun t ht => (hT t ht).2) pC
    rw [which_self hCr] at n1
    have s1 := psame_ct [(C, [])] [(C, [])] (by simp)
    rw [decide_eq_true rfl] at s1
    have e1 := equal_ct C C
    rw [decide_eq_true rfl] at e1
    have l0 := least0_ct
    have s0 := psame0_ct
    have n0 := content0_ct
    have e0 : C = [] → Ct Try.prog 40 [.c (RD []), .c (RD C)] none (.one (dB true)) := fun h => by
      have := equal_ct [] C
      rw [h, decide_eq_true rfl] at this
      rw [h]; exact this
    rw [← hC] at cn
    by_cases hab : a < 0 ∨ (L.length : Int) < b ∨ b ≤ a
    · have cq := squash_arg L a b hs hts hab
      clear hT oneC tsC pC hCw hCr hC hwL pL hs hF hts
      refine ct_intro Try.func21 rfl Try.ntmps21 (by simp) (fun W0 Z => ?_)
      with_reducible repeat first | refine .a ?_ | refine .b ?_ | refine .c ?_ | refine .d ?_ | refine .e ?_ | refine .f ?_ | refine .g (by decide) ?_
      refine AW.at_ (fun L hL => ?_)
      simp at hL
      subst hL
      refine AW.rc 1 fun K hK => ?_
      repeat (with_reducible refine .s fun ι κ μ ν => ?_; simp; (first | refine μ.out _ _ ?_ | refine ν.out _ ?_ | refine ⟨by kernel_rfl, ν.out _ ?_⟩); clear μ ν ι κ; simp); (try with_reducible refine .n ?_)
      refine ⟨chk_text _ _, hK.out _ ?_⟩
      clear hK K
      with_reducible repeat first | refine .a ?_ | refine .b ?_ | refine .c ?_ | refine .d ?_ | refine .e ?_ | refine .f ?_ | refine .g (by decide) ?_
      refine AW.rc 10 fun K hK => ?_
      repeat (with_reducible refine .s fun ι κ μ ν => ?_; simp; (first | refine μ.out _ _ ?_ | refine ν.out _ ?_ | refine ⟨by kernel_rfl, ν.out _ ?_⟩); clear μ ν ι κ; simp); (try with_reducible refine .n ?_)
      refine .s fun K1 K2 hK1 hK2 => ?_
      simp
      refine orr_l ⟨by kernel_rfl, .inl ⟨_, cw, ?_⟩⟩
      (try simp)
      refine hK1.out _ _ ?_
      clear hK1 hK2 K1 K2
      (try simp)
      repeat (with_reducible refine .s fun ι κ μ ν => ?_; simp; (first | refine μ.out _ _ ?_ | refine ν.out _ ?_ | refine ⟨by kernel_rfl, ν.out _ ?_⟩); clear μ ν ι κ; simp); (try with_reducible refine .n ?_)
      refine ⟨chk_text _ _, hK.out _ ?_⟩
      clear hK K
      with_reducible repeat first | refine .a ?_ | refine .b ?_ | refine .c ?_ | refine .d ?_ | refine .e ?_ | refine .f ?_ | refine .g (by decide) ?_
      refine AW.cf rfl ?_
      with_reducible repeat first | refine .a ?_ | refine .b ?_ | refine .c ?_ | refine .d ?_ | refine .e ?_ | refine .f ?_ | refine .g (by decide) ?_
      refine AW.rc 20 fun K hK => ?_
      repeat (with_reducible refine .s fun ι κ μ ν => ?_; simp; (first | refine μ.out _ _ ?_ | refine ν.out _ ?_ | refine ⟨by kernel_rfl, ν.out _ ?_⟩); clear μ ν ι κ; simp); (try with_reducible refine .n ?_)
      refine .s fun K1 K2 hK1 hK2 => ?_
      simp
      refine orr_l ⟨by kernel_rfl, .inr (.inl ⟨_, _, _, co, ?_⟩)⟩
      (try simp)
      refine hK1.out _ _ ?_
      clear hK1 hK2 K1 K2
      (try simp)
      repeat (with_reducible refine .s fun ι κ μ ν => ?_; simp; (first | refine μ.out _ _ ?_ | refine ν.out _ ?_ | refine ⟨by kernel_rfl, ν.out _ ?_⟩); clear μ ν ι κ; simp); (try with_reducible refine .n ?_)
      refine ⟨chk_text _ _, hK.out _ ?_⟩
      clear hK K
      with_reducible repeat first | refine .a ?_ | refine .b ?_ | refine .c ?_ | refine .d ?_ | refine .e ?_ | refine .f ?_ | refine .g (by decide) ?_
      refine AW.rc 40 fun K hK => ?_
      repeat (with_reducible refine .s fun ι κ μ ν => ?_; simp; (first | refine μ.out _ _ ?_ | refine ν.out _ ?_ | refine ⟨by kernel_rfl, ν.out _ ?_⟩); clear μ ν ι κ; simp); (try with_reducible refine .n ?_)
      refine .s fun K1 K2 hK1 hK2 => ?_
      simp
      refine orr_l ⟨by kernel_rfl, .inl ⟨_, ck, ?_⟩⟩
      (try simp)
      refine hK1.out _ _ ?_
      clear hK1 hK2 K1 K2
      (try simp)
      repeat (with_reducible refine .s fun ι κ μ ν => ?_; simp; (first | refine μ.out _ _ ?_ | refine ν.out _ ?_ | refine ⟨by kernel_rfl, ν.out _ ?_⟩); clear μ ν ι κ; simp); (try with_reducible refine .n ?_)
      refine ⟨chk_text _ _, hK.out _ ?_⟩
      clear hK K
      with_reducible repeat first | refine .a ?_ | refine .b ?_ | refine .c ?_ | refine .d ?_ | refine .e ?_ | refine .f ?_ | refine .g (by decide) ?_
      refine AW.cf rfl ?_
      with_reducible repeat first | refine .a ?_ | refine .b ?_ | refine .c ?_ | refine .d ?_ | refine .e ?_ | refine .f ?_ | refine .g (by decide) ?_
      refine AW.rc 60 fun K hK => ?_
      repeat (with_reducible refine .s fun ι κ μ ν => ?_; simp; (first | refine μ.out _ _ ?_ | refine ν.out _ ?_ | refine ⟨by kernel_rfl, ν.out _ ?_⟩); clear μ ν ι κ; simp); (try with_reducible refine .n ?_)
      refine .s fun K1 K2 hK1 hK2 => ?_
      simp
      refine orr_l ⟨by kernel_rfl, .inr (.inl ⟨_, _, _, cn, ?_⟩)⟩
      (try simp)
      refine hK1.out _ _ ?_
      clear hK1 hK2 K1 K2
      (try simp)
      repeat (with_reducible refine .s fun ι κ μ ν => ?_; simp; (first | refine μ.out _ _ ?_ | refine ν.out _ ?_ | refine ⟨by kernel_rfl, ν.out _ ?_⟩); clear μ ν ι κ; simp); (try with_reducible refine .n ?_)
      refine ⟨chk_text _ _, hK.out _ ?_⟩
      clear hK K
      with_reducible repeat first | refine .a ?_ | refine .b ?_ | refine .c ?_ | refine .d ?_ | refine .e ?_ | refine .f ?_ | refine .g (by decide) ?_
      refine AW.rc 80 fun K hK => ?_
      repeat (with_reducible refine .s fun ι κ μ ν => ?_; simp; (first | refine μ.out _ _ ?_ | refine ν.out _ ?_ | refine ⟨by kernel_rfl, ν.out _ ?_⟩); clear μ ν ι κ; simp); (try with_reducible refine .n ?_)
      refine .s fun K1 K2 hK1 hK2 => ?_
      simp
      refine ⟨0, rfl, by decide, ?_⟩
      refine hK1.out _ _ ?_
      clear hK1 hK2 K1 K2
      (try simp)
      repeat (with_reducible refine .s fun ι κ μ ν => ?_; simp; (first | refine μ.out _ _ ?_ | refine ν.out _ ?_ | refine ⟨by kernel_rfl, ν.out _ ?_⟩); clear μ ν ι κ; simp); (try with_reducible refine .n ?_)
      refine .s fun K1 K2 hK1 hK2 => ?_
      simp
      refine ⟨1, rfl, by decide, ?_⟩
      refine hK1.out _ _ ?_
      clear hK1 hK2 K1 K2
      (try simp)
      repeat (with_reducible refine .s fun ι κ μ ν => ?_; simp; (first | refine μ.out _ _ ?_ | refine ν.out _ ?_ | refine ⟨by kernel_rfl, ν.out _ ?_⟩); clear μ ν ι κ; simp); (try with_reducible refine .n ?_)
      refine .s fun K1 K2 hK1 hK2 => ?_
      simp
      refine orr_l ⟨by kernel_rfl, .inl ⟨_, cq, ?_⟩⟩
      (try simp)
      refine hK1.out _ _ ?_
      clear hK1 hK2 K1 K2
      (try simp)
      repeat (with_reducible refine .s fun ι κ μ ν => ?_; simp; (first | refine μ.out _ _ ?_ | refine ν.out _ ?_ | refine ⟨by kernel_rfl, ν.out _ ?_⟩); clear μ ν ι κ; simp); (try with_reducible refine .n ?_)
      refine ⟨chk_text _ _, hK.out _ ?_⟩
      clear hK K
      with_reducible repeat first | refine .a ?_ | refine .b ?_ | refine .c ?_ | refine .d ?_ | refine .e ?_ | refine .f ?_ | refine .g (by decide) ?_
      refine AW.rc 100 fun K hK => ?_
      repeat (with_reducible refine .s fun ι κ μ ν => ?_; simp; (first | refine μ.out _ _ ?_ | refine ν.out _ ?_ | refine ⟨by kernel_rfl, ν.out _ ?_⟩); clear μ ν ι κ; simp); (try with_reducible refine .n ?_)
      refine ⟨chk_text _ _, hK.out _ ?_⟩
      clear hK K
      with_reducible repeat first | refine .a ?_ | refine .b ?_ | refine .c ?_ | refine .d ?_ | refine .e ?_ | refine .f ?_ | refine .g (by decide) ?_
      refine AW.cf rfl ?_
      with_reducible repeat first | refine .a ?_ | refine .b ?_ | refine .c ?_ | refine .d ?_ | refine .e ?_ | refine .f ?_ | refine .g (by decide) ?_
      by_cases h0 : C = []
      · have cl := cln h0
        clear cl1 cln
        refine AW.rc 120 fun K hK => ?_
        repeat (with_reducible refine .s fun ι κ μ ν => ?_; simp; (first | refine μ.out _ _ ?_ | refine ν.out _ ?_ | refine ⟨by kernel_rfl, ν.out _ ?_⟩); clear μ ν ι κ; simp); (try with_reducible refine .n ?_)
        refine .s fun K1 K2 hK1 hK2 => ?_
        simp
        refine orr_l ⟨by kernel_rfl, .inl ⟨_, cl, ?_⟩⟩
        (try simp)
        refine hK1.out _ _ ?_
        clear hK1 hK2 K1 K2
        (try simp)
        repeat (with_reducible refine .s fun ι κ μ ν => ?_; simp; (first | refine μ.out _ _ ?_ | refine ν.out _ ?_ | refine ⟨by kernel_rfl, ν.out _ ?_⟩); clear μ ν ι κ; simp); (try with_reducible refine .n ?_)
        refine ⟨chk_text _ _, hK.out _ ?_⟩
        clear hK K
        with_reducible repeat first | refine .a ?_ | refine .b ?_ | refine .c ?_ | refine .d ?_ | refine .e ?_ | refine .f ?_ | refine .g (by decide) ?_
        refine AW.rc 150 fun K hK => ?_
        repeat (with_reducible refine .s fun ι κ μ ν => ?_; simp; (first | refine μ.out _ _ ?_ | refine ν.out _ ?_ | refine ⟨by kernel_rfl, ν.out _ ?_⟩); clear μ ν ι κ; simp); (try with_reducible refine .n ?_)
        refine .s fun K1 K2 hK1 hK2 => ?_
        simp
        refine orr_l ⟨by kernel_rfl, .inl ⟨_, l0, ?_⟩⟩
        (try simp)
        refine hK1.out _ _ ?_
        clear hK1 hK2 K1 K2
        (try simp)
        repeat (with_reducible refine .s fun ι κ μ ν => ?_; simp; (first | refine μ.out _ _ ?_ | refine ν.out _ ?_ | refine ⟨by kernel_rfl, ν.out _ ?_⟩); clear μ ν ι κ; simp); (try with_reducible refine .n ?_)
        refine ⟨chk_text _ _, hK.out _ ?_⟩
        clear hK K
        with_reducible repeat first | refine .a ?_ | refine .b ?_ | refine .c ?_ | refine .d ?_ | refine .e ?_ | refine .f ?_ | refine .g (by decide) ?_
        refine AW.rc 170 fun K hK => ?_
        repeat (with_reducible refine .s fun ι κ μ ν => ?_; simp; (first | refine μ.out _ _ ?_ | refine ν.out _ ?_ | refine ⟨by kernel_rfl, ν.out _ ?_⟩); clear μ ν ι κ; simp); (try with_reducible refine .n ?_)
        refine .s fun K1 K2 hK1 hK2 => ?_
        simp
        refine orr_l ⟨by kernel_rfl, .inl ⟨_, s0, ?_⟩⟩
        (try simp)
        refine hK1.out _ _ ?_
        clear hK1 hK2 K1 K2
        (try simp)
        repeat (with_reducible refine .s fun ι κ μ ν => ?_; simp; (first | refine μ.out _ _ ?_ | refine ν.out _ ?_ | refine ⟨by kernel_rfl, ν.out _ ?_⟩); clear μ ν ι κ; simp); (try with_reducible refine .n ?_)
        refine .s fun K1 K2 hK1 hK2 => ?_
        simp
        refine orr_l ⟨by kernel_rfl, .inr (.inl ⟨_, _, _, n0, ?_⟩)⟩
        (try simp)
        refine hK1.out _ _ ?_
        clear hK1 hK2 K1 K2
        (try simp)
        repeat (with_reducible refine .s fun ι κ μ ν => ?_; simp; (first | refine μ.out _ _ ?_ | refine ν.out _ ?_ | refine ⟨by kernel_rfl, ν.out _ ?_⟩); clear μ ν ι κ; simp); (try with_reducible refine .n ?_)
        refine .s fun K1 K2 hK1 hK2 => ?_
        simp
        refine orr_l ⟨by kernel_rfl, .inl ⟨_, (e0 h0), ?_⟩⟩
        (try simp)
        refine hK1.out _ _ ?_
        clear hK1 hK2 K1 K2
        (try simp)
        repeat (with_reducible refine .s fun ι κ μ ν => ?_; simp; (first | refine μ.out _ _ ?_ | refine ν.out _ ?_ | refine ⟨by kernel_rfl, ν.out _ ?_⟩); clear μ ν ι κ; simp); (try with_reducible refine .n ?_)
        refine ⟨chk_text _ _, hK.out _ ?_⟩
        clear hK K
        with_reducible repeat first | refine .a ?_ | refine .b ?_ | refine .c ?_ | refine .d ?_ | refine .e ?_ | refine .f ?_ | refine .g (by decide) ?_
        refine AW.cf rfl ?_
        with_reducible repeat first | refine .a ?_ | refine .b ?_ | refine .c ?_ | refine .d ?_ | refine .e ?_ | refine .f ?_ | refine .g (by decide) ?_
        refine AW.rc 250 fun K hK => ?_
        repeat (with_reducible refine .s fun ι κ μ ν => ?_; simp; (first | refine μ.out _ _ ?_ | refine ν.out _ ?_ | refine ⟨by kernel_rfl, ν.out _ ?_⟩); clear μ ν ι κ; simp); (try with_reducible refine .n ?_)
        refine ⟨chk_text _ _, hK.out _ ?_⟩
        clear hK K
        with_reducible repeat first | refine .a ?_ | refine .b ?_ | refine .c ?_ | refine .d ?_ | refine .e ?_ | refine .f ?_ | refine .g (by decide) ?_
        refine AW.loop (X := { k : Nat // k ≤ C.length }) (fun x => stS L C x.1) (fun x => C.length - x.1) ⟨0, by simp⟩ (view_of (vw [] [] [] []) (by simp [stS])) (fun x => ?_)
        obtain ⟨k, hk⟩ := x
        refine AW.at_ (fun L hL => ?_)
        simp [stS] at hL
        subst hL
        with_reducible repeat first | refine .a ?_ | refine .b ?_ | refine .c ?_ | refine .d ?_ | refine .e ?_ | refine .f ?_ | refine .g (by decide) ?_
        by_cases hgo : k < C.length
        · have w5 : IntKind.i64.wrap ((k : Int) + 1) = ((k + 1 : Nat) : Int) := by rw [i64_ok _ (by omega) (by omega)]; omega
          obtain ⟨p, hpk⟩ : ∃ p, C[k] = p := ⟨_, rfl⟩
          have ch := hhas p (by rw [← hpk]; exact List.getElem_mem hgo)
          refine AW.rc 300 fun K hK => ?_
          repeat (with_reducible refine .s fun ι κ μ ν => ?_; simp [hgo]; (first | refine μ.out _ _ ?_ | refine ν.out _ ?_ | refine ⟨by kernel_rfl, ν.out _ ?_⟩); clear μ ν ι κ; simp [hgo]); (try with_reducible refine .n ?_)
          refine ⟨chk_text _ _, hK.out _ ?_⟩
          clear hK K
          with_reducible repeat first | refine .a ?_ | refine .b ?_ | refine .c ?_ | refine .d ?_ | refine .e ?_ | refine .f ?_ | refine .g (by decide) ?_
          refine AW.ct rfl ?_
          with_reducible repeat first | refine .a ?_ | refine .b ?_ | refine .c ?_ | refine .d ?_ | refine .e ?_ | refine .f ?_ | refine .g (by decide) ?_
          refine AW.rc 310 fun K hK => ?_
          repeat (with_reducible refine .s fun ι κ μ ν => ?_; simp [hgo]; (first | refine μ.out _ _ ?_ | refine ν.out _ ?_ | refine ⟨by kernel_rfl, ν.out _ ?_⟩); clear μ ν ι κ; simp [hgo]); (try with_reducible refine .n ?_)
          refine .s fun K1 K2 hK1 hK2 => ?_
          simp [hgo]
          refine ⟨k, PD p, rfl, by simp [hgo, hpk], ?_⟩
          refine hK1.out _ _ ?_
          clear hK1 hK2 K1 K2
          (try simp [hgo])
          repeat (with_reducible refine .s fun ι κ μ ν => ?_; simp [hgo]; (first | refine μ.out _ _ ?_ | refine ν.out _ ?_ | refine ⟨by kernel_rfl, ν.out _ ?_⟩); clear μ ν ι κ; simp [hgo]); (try with_reducible refine .n ?_)
          refine ⟨chk_text _ _, hK.out _ ?_⟩
          clear hK K
          with_reducible repeat first | refine .a ?_ | refine .b ?_ | refine .c ?_ | refine .d ?_ | refine .e ?_ | refine .f ?_ | refine .g (by decide) ?_
          refine AW.rc 330 fun K hK => ?_
          repeat (with_reducible refine .s fun ι κ μ ν => ?_; simp; (first | refine μ.out _ _ ?_ | refine ν.out _ ?_ | refine ⟨by kernel_rfl, ν.out _ ?_⟩); clear μ ν ι κ; simp); (try with_reducible refine .n ?_)
          refine .s fun K1 K2 hK1 hK2 => ?_
          simp
          refine orr_l ⟨by kernel_rfl, .inl ⟨_, ch, ?_⟩⟩
          (try simp)
          refine hK1.out _ _ ?_
          clear hK1 hK2 K1 K2
          (try simp)
          repeat (with_reducible refine .s fun ι κ μ ν => ?_; simp; (first | refine μ.out _ _ ?_ | refine ν.out _ ?_ | refine ⟨by kernel_rfl, ν.out _ ?_⟩); clear μ ν ι κ; simp); (try with_reducible refine .n ?_)
          refine ⟨chk_text _ _, hK.out _ ?_⟩
          clear hK K
          with_reducible repeat first | refine .a ?_ | refine .b ?_ | refine .c ?_ | refine .d ?_ | refine .e ?_ | refine .f ?_ | refine .g (by decide) ?_
          refine AW.cf rfl ?_
          with_reducible repeat first | refine .a ?_ | refine .b ?_ | refine .c ?_ | refine .d ?_ | refine .e ?_ | refine .f ?_ | refine .g (by decide) ?_
          refine AW.rc 350 fun K hK => ?_
          repeat (with_reducible refine .s fun ι κ μ ν => ?_; simp [w5]; (first | refine μ.out _ _ ?_ | refine ν.out _ ?_ | refine ⟨by kernel_rfl, ν.out _ ?_⟩); clear μ ν ι κ; simp [w5]); (try with_reducible refine .n ?_)
          refine ⟨chk_text _ _, hK.out _ ?_⟩
          clear hK K
          with_reducible repeat first | refine .a ?_ | refine .b ?_ | refine .c ?_ | refine .d ?_ | refine .e ?_ | refine .f ?_ | refine .g (by decide) ?_
          exact NX.round ⟨k + 1, hgo⟩ (by show C.length - (k + 1) < C.length - k; omega) (view_of (vw [] [] [] []) (by simp [stS]))
        · obtain rfl : k = C.length := by omega
          refine AW.rc 400 fun K hK => ?_
          repeat (with_reducible refine .s fun ι κ μ ν => ?_; simp; (first | refine μ.out _ _ ?_ | refine ν.out _ ?_ | refine ⟨by kernel_rfl, ν.out _ ?_⟩); clear μ ν ι κ; simp); (try with_reducible refine .n ?_)
          refine ⟨chk_text _ _, hK.out _ ?_⟩
          clear hK K
          with_reducible repeat first | refine .a ?_ | refine .b ?_ | refine .c ?_ | refine .d ?_ | refine .e ?_ | refine .f ?_ | refine .g (by decide) ?_
          refine AW.cf rfl ?_
          with_reducible repeat first | refine .a ?_ | refine .b ?_ | refine .c ?_ | refine .d ?_ | refine .e ?_ | refine .f ?_ | refine .g (by decide) ?_
          refine AW.rc 410 fun K hK => ?_
          repeat (with_reducible refine .s fun ι κ μ ν => ?_; simp; (first | refine μ.out _ _ ?_ | refine ν.out _ ?_ | refine ⟨by kernel_rfl, ν.out _ ?_⟩); clear μ ν ι κ; simp); (try with_reducible refine .n ?_)
          refine .s fun K1 K2 hK1 hK2 => ?_
          simp
          refine orr_l ⟨by kernel_rfl, .inl ⟨_, crc, ?_⟩⟩
          (try simp)
          refine hK1.out _ _ ?_
          clear hK1 hK2 K1 K2
          (try simp)
          repeat (with_reducible refine .s fun ι κ μ ν => ?_; simp; (first | refine μ.out _ _ ?_ | refine ν.out _ ?_ | refine ⟨by kernel_rfl, ν.out _ ?_⟩); clear μ ν ι κ; simp); (try with_reducible refine .n ?_)
          refine ⟨chk_text _ _, hK.out _ ?_⟩
          clear hK K
          with_reducible repeat first | refine .a ?_ | refine .b ?_ | refine .c ?_ | refine .d ?_ | refine .e ?_ | refine .f ?_ | refine .g (by decide) ?_
          refine nx_ret (T := ty) (rs := [.tmp 4]) (zs := []) (ds := [dB true]) (rr := []) (.inr rfl) rfl (by kernel_rfl) (by kernel_rfl) (by simp) rfl
      · have cl := cl1 h0
        have cl2 := cl1' h0
        clear cl1 cln
        refine AW.rc 120 fun K hK => ?_
        repeat (with_reducible refine .s fun ι κ μ ν => ?_; simp; (first | refine μ.out _ _ ?_ | refine ν.out _ ?_ | refine ⟨by kernel_rfl, ν.out _ ?_⟩); clear μ ν ι κ; simp); (try with_reducible refine .n ?_)
        refine .s fun K1 K2 hK1 hK2 => ?_
        simp
        refine orr_l ⟨by kernel_rfl, .inl ⟨_, cl, ?_⟩⟩
        (try simp)
        refine hK1.out _ _ ?_
        clear hK1 hK2 K1 K2
        (try simp)
        repeat (with_reducible refine .s fun ι κ μ ν => ?_; simp; (first | refine μ.out _ _ ?_ | refine ν.out _ ?_ | refine ⟨by kernel_rfl, ν.out _ ?_⟩); clear μ ν ι κ; simp); (try with_reducible refine .n ?_)
        refine ⟨chk_text _ _, hK.out _ ?_⟩
        clear hK K
        with_reducible repeat first | refine .a ?_ | refine .b ?_ | refine .c ?_ | refine .d ?_ | refine .e ?_ | refine .f ?_ | refine .g (by decide) ?_
        refine AW.rc 150 fun K hK => ?_
        repeat (with_reducible refine .s fun ι κ μ ν => ?_; simp; (first | refine μ.out _ _ ?_ | refine ν.out _ ?_ | refine ⟨by kernel_rfl, ν.out _ ?_⟩); clear μ ν ι κ; simp); (try with_reducible refine .n ?_)
        refine .s fun K1 K2 hK1 hK2 => ?_
        simp
        refine orr_l ⟨by kernel_rfl, .inl ⟨_, cl2, ?_⟩⟩
        (try simp)
        refine hK1.out _ _ ?_
        clear hK1 hK2 K1 K2
        (try simp)
        repeat (with_reducible refine .s fun ι κ μ ν => ?_; simp; (first | refine μ.out _ _ ?_ | refine ν.out _ ?_ | refine ⟨by kernel_rfl, ν.out _ ?_⟩); clear μ ν ι κ; simp); (try with_reducible refine .n ?_)
        refine ⟨chk_text _ _, hK.out _ ?_⟩
        clear hK K
        with_reducible repeat first | refine .a ?_ | refine .b ?_ | refine .c ?_ | refine .d ?_ | refine .e ?_ | refine .f ?_ | refine .g (by decide) ?_
        refine AW.rc 170 fun K hK => ?_
        repeat (with_reducible refine .s fun ι κ μ ν => ?_; simp; (first | refine μ.out _ _ ?_ | refine ν.out _ ?_ | refine ⟨by kernel_rfl, ν.out _ ?_⟩); clear μ ν ι κ; simp); (try with_reducible refine .n ?_)
        refine .s fun K1 K2 hK1 hK2 => ?_
        simp
        refine orr_l ⟨by kernel_rfl, .inl ⟨_, s1, ?_⟩⟩
        (try simp)
        refine hK1.out _ _ ?_
        clear hK1 hK2 K1 K2
        (try simp)
        repeat (with_reducible refine .s fun ι κ μ ν => ?_; simp; (first | refine μ.out _ _ ?_ | refine ν.out _ ?_ | refine ⟨by kernel_rfl, ν.out _ ?_⟩); clear μ ν ι κ; simp); (try with_reducible refine .n ?_)
        refine .s fun K1 K2 hK1 hK2 => ?_
        simp
        refine orr_l ⟨by kernel_rfl, .inr (.inl ⟨_, _, _, n1, ?_⟩)⟩
        (try simp)
        refine hK1.out _ _ ?_
        clear hK1 hK2 K1 K2
        (try simp)
        repeat (with_reducible refine .s fun ι κ μ ν => ?_; simp; (first | refine μ.out _ _ ?_ | refine ν.out _ ?_ | refine ⟨by kernel_rfl, ν.out _ ?_⟩); clear μ ν ι κ; simp); (try with_reducible refine .n ?_)
        refine .s fun K1 K2 hK1 hK2 => ?_
        simp
        refine orr_l ⟨by kernel_rfl, .inl ⟨_, e1, ?_⟩⟩
        (try simp)
        refine hK1.out _ _ ?_
        clear hK1 hK2 K1 K2
        (try simp)
        repeat (with_reducible refine .s fun ι κ μ ν => ?_; simp; (first | refine μ.out _ _ ?_ | refine ν.out _ ?_ | refine ⟨by kernel_rfl, ν.out _ ?_⟩); clear μ ν ι κ; simp); (try with_reducible refine .n ?_)
        refine ⟨chk_text _ _, hK.out _ ?_⟩
        clear hK K
        with_reducible repeat first | refine .a ?_ | refine .b ?_ | refine .c ?_ | refine .d ?_ | refine .e ?_ | refine .f ?_ | refine .g (by decide) ?_
        refine AW.cf rfl ?_
        with_reducible repeat first | refine .a ?_ | refine .b ?_ | refine .c ?_ | refine .d ?_ | refine .e ?_ | refine .f ?_ | refine .g (by decide) ?_
        refine AW.rc 250 fun K hK => ?_
        repeat (with_reducible refine .s fun ι κ μ ν => ?_; simp; (first | refine μ.out _ _ ?_ | refine ν.out _ ?_ | refine ⟨by kernel_rfl, ν.out _ ?_⟩); clear μ ν ι κ; simp); (try with_reducible refine .n ?_)
        refine ⟨chk_text _ _, hK.out _ ?_⟩
        clear hK K
        with_reducible repeat first | refine .a ?_ | refine .b ?_ | refine .c ?_ | refine .d ?_ | refine .e ?_ | refine .f ?_ | refine .g (by decide) ?_
        refine AW.loop (X := { k : Nat // k ≤ C.length }) (fun x => stS L C x.1) (fun x => C.length - x.1) ⟨0, by simp⟩ (view_of (vw [] [] [] []) (by simp [stS])) (fun x => ?_)
        obtain ⟨k, hk⟩ := x
        refine AW.at_ (fun L hL => ?_)
        simp [stS] at hL
        subst hL
        with_reducible repeat first | refine .a ?_ | refine .b ?_ | refine .c ?_ | refine .d ?_ | refine .e ?_ | refine .f ?_ | refine .g (by decide) ?_
        by_cases hgo : k < C.length
        · have w5 : IntKind.i64.wrap ((k : Int) + 1) = ((k + 1 : Nat) : Int) := by rw [i64_ok _ (by omega) (by omega)]; omega
          obtain ⟨p, hpk⟩ : ∃ p, C[k] = p := ⟨_, rfl⟩
          have ch := hhas p (by rw [← hpk]; exact List.getElem_mem hgo)
          refine AW.rc 300 fun K hK => ?_
          repeat (with_reducible refine .s fun ι κ μ ν => ?_; simp [hgo]; (first | refine μ.out _ _ ?_ | refine ν.out _ ?_ | refine ⟨by kernel_rfl, ν.out _ ?_⟩); clear μ ν ι κ; simp [hgo]); (try with_reducible refine .n ?_)
          refine ⟨chk_text _ _, hK.out _ ?_⟩
          clear hK K
          with_reducible repeat first | refine .a ?_ | refine .b ?_ | refine .c ?_ | refine .d ?_ | refine .e ?_ | refine .f ?_ | refine .g (by decide) ?_
          refine AW.ct rfl ?_
          with_reducible repeat first | refine .a ?_ | refine .b ?_ | refine .c ?_ | refine .d ?_ | refine .e ?_ | refine .f ?_ | refine .g (by decide) ?_
          refine AW.rc 310 fun K hK => ?_
          repeat (with_reducible refine .s fun ι κ μ ν => ?_; simp [hgo]; (first | refine μ.out _ _ ?_ | refine ν.out _ ?_ | refine ⟨by kernel_rfl, ν.out _ ?_⟩); clear μ ν ι κ; simp [hgo]); (try with_reducible refine .n ?_)
          refine .s fun K1 K2 hK1 hK2 => ?_
          simp [hgo]
          refine ⟨k, PD p, rfl, by simp [hgo, hpk], ?_⟩
          refine hK1.out _ _ ?_
          clear hK1 hK2 K1 K2
          (try simp [hgo])
          repeat (with_reducible refine .s fun ι κ μ ν => ?_; simp [hgo]; (first | refine μ.out _ _ ?_ | refine ν.out _ ?_ | refine ⟨by kernel_rfl, ν.out _ ?_⟩); clear μ ν ι κ; simp [hgo]); (try with_reducible refine .n ?_)
          refine ⟨chk_text _ _, hK.out _ ?_⟩
          clear hK K
          with_reducible repeat first | refine .a ?_ | refine .b ?_ | refine .c ?_ | refine .d ?_ | refine .e ?_ | refine .f ?_ | refine .g (by decide) ?_
          refine AW.rc 330 fun K hK => ?_
          repeat (with_reducible refine .s fun ι κ μ ν => ?_; simp; (first | refine μ.out _ _ ?_ | refine ν.out _ ?_ | refine ⟨by kernel_rfl, ν.out _ ?_⟩); clear μ ν ι κ; simp); (try with_reducible refine .n ?_)
          refine .s fun K1 K2 hK1 hK2 => ?_
          simp
          refine orr_l ⟨by kernel_rfl, .inl ⟨_, ch, ?_⟩⟩
          (try simp)
          refine hK1.out _ _ ?_
          clear hK1 hK2 K1 K2
          (try simp)
          repeat (with_reducible refine .s fun ι κ μ ν => ?_; simp; (first | refine μ.out _ _ ?_ | refine ν.out _ ?_ | refine ⟨by kernel_rfl, ν.out _ ?_⟩); clear μ ν ι κ; simp); (try with_reducible refine .n ?_)
          refine ⟨chk_text _ _, hK.out _ ?_⟩
          clear hK K
          with_reducible repeat first | refine .a ?_ | refine .b ?_ | refine .c ?_ | refine .d ?_ | refine .e ?_ | refine .f ?_ | refine .g (by decide) ?_
          refine AW.cf rfl ?_
          with_reducible repeat first | refine .a ?_ | refine .b ?_ | refine .c ?_ | refine .d ?_ | refine .e ?_ | refine .f ?_ | refine .g (by decide) ?_
          refine AW.rc 350 fun K hK => ?_
          repeat (with_reducible refine .s fun ι κ μ ν => ?_; simp [w5]; (first | refine μ.out _ _ ?_ | refine ν.out _ ?_ | refine ⟨by kernel_rfl, ν.out _ ?_⟩); clear μ ν ι κ; simp [w5]); (try with_reducible refine .n ?_)
          refine ⟨chk_text _ _, hK.out _ ?_⟩
          clear hK K
          with_reducible repeat first | refine .a ?_ | refine .b ?_ | refine .c ?_ | refine .d ?_ | refine .e ?_ | refine .f ?_ | refine .g (by decide) ?_
          exact NX.round ⟨k + 1, hgo⟩ (by show C.length - (k + 1) < C.length - k; omega) (view_of (vw [] [] [] []) (by simp [stS]))
        · obtain rfl : k = C.length := by omega
          refine AW.rc 400 fun K hK => ?_
          repeat (with_reducible refine .s fun ι κ μ ν => ?_; simp; (first | refine μ.out _ _ ?_ | refine ν.out _ ?_ | refine ⟨by kernel_rfl, ν.out _ ?_⟩); clear μ ν ι κ; simp); (try with_reducible refine .n ?_)
          refine ⟨chk_text _ _, hK.out _ ?_⟩
          clear hK K
          with_reducible repeat first | refine .a ?_ | refine .b ?_ | refine .c ?_ | refine .d ?_ | refine .e ?_ | refine .f ?_ | refine .g (by decide) ?_
          refine AW.cf rfl ?_
          with_reducible repeat first | refine .a ?_ | refine .b ?_ | refine .c ?_ | refine .d ?_ | refine .e ?_ | refine .f ?_ | refine .g (by decide) ?_
          refine AW.rc 410 fun K hK => ?_
          repeat (with_reducible refine .s fun ι κ μ ν => ?_; simp; (first | refine μ.out _ _ ?_ | refine ν.out _ ?_ | refine ⟨by kernel_rfl, ν.out _ ?_⟩); clear μ ν ι κ; simp); (try with_reducible refine .n ?_)
          refine .s fun K1 K2 hK1 hK2 => ?_
          simp
          refine orr_l ⟨by kernel_rfl, .inl ⟨_, crc, ?_⟩⟩
          (try simp)
          refine hK1.out _ _ ?_
          clear hK1 hK2 K1 K2
          (try simp)
          repeat (with_reducible refine .s fun ι κ μ ν => ?_; simp; (first | refine μ.out _ _ ?_ | refine ν.out _ ?_ | refine ⟨by kernel_rfl, ν.out _ ?_⟩); clear μ ν ι κ; simp); (try with_reducible refine .n ?_)
          refine ⟨chk_text _ _, hK.out _ ?_⟩
          clear hK K
          with_reducible repeat first | refine .a ?_ | refine .b ?_ | refine .c ?_ | refine .d ?_ | refine .e ?_ | refine .f ?_ | refine .g (by decide) ?_
          refine nx_ret (T := ty) (rs := [.tmp 4]) (zs := []) (ds := [dB true]) (rr := []) (.inr rfl) rfl (by kernel_rfl) (by kernel_rfl) (by simp) rfl
    · obtain ⟨i, rfl⟩ : ∃ i : Nat, a = (i : Int) := ⟨a.toNat, by omega⟩
      obtain ⟨j, rfl⟩ : ∃ j : Nat, b = (j : Int) := ⟨b.toNat, by omega⟩
      have hij : i < j := by omega
      have hj : j ≤ L.length := by omega
      have cq := squash_ok L i j hs hwL (by omega) hts hij hj
      have tsS := sq_right L hij hj hts (by omega)
      have hJ := jnL_len ((L.take j).drop i) (decide (i = 0))
      have hsp := sub_pairs L i j
      have hsS := sq_mem L (K := fun t => t.1.length + t.2.length ≤ 1048576) hs (i := i) (j := j) (by omega)
      have hwS := sq_mem L (K := wfT) hwL (i := i) (j := j) (jnL_wf (fun t ht => hwL t (mid_mem ht)) _)
      have pS := sq_pairs L hij
      have nS := content_ct (sqL L i j) tsS hsS hwS (by omega)
      rw [sq_content L hij, ← hC] at nS
      have kS := tcheckA_ct (sqL L i j) hsS
      rw [tsS] at kS
      have lS := sq_len L hij hj
      have w1 : IntKind.i64.wrap ((j : Int) - (i : Int)) = ((j - i : Nat) : Int) := by rw [i64_ok _ (by omega) (by omega)]; omega
      obtain ⟨m, hm⟩ : ∃ m, j - i = m := ⟨_, rfl⟩
      rw [hm] at w1 lS
      have w2 : IntKind.i64.wrap ((L.length : Int) - (m : Int)) = ((L.length - m : Nat) : Int) := by rw [i64_ok _ (by omega) (by omega)]; omega
      have w3 : IntKind.i64.wrap (((L.length - m : Nat) : Int) + 1) = ((L.length - m : Nat) : Int) + 1 := by rw [i64_ok _ (by omega) (by omega)]
      generalize L.length - m = q at *
      clear hT oneC tsC pC hCw hCr hC hwL pL hs hF hts pS hwS hsS hsp hJ tsS
      generalize sqL L i j = S at *
      refine ct_intro Try.func21 rfl Try.ntmps21 (by simp) (fun W0 Z => ?_)
      with_reducible repeat first | refine .a ?_ | refine .b ?_ | refine .c ?_ | refine .d ?_ | refine .e ?_ | refine .f ?_ | refine .g (by decide) ?_
      refine AW.at_ (fun L hL => ?_)
      simp at hL
      subst hL
      refine AW.rc 1 fun K hK => ?_
      repeat (with_reducible refine .s fun ι κ μ ν => ?_; simp; (first | refine μ.out _ _ ?_ | refine ν.out _ ?_ | refine ⟨by kernel_rfl, ν.out _ ?_⟩); clear μ ν ι κ; simp); (try with_reducible refine .n ?_)
      refine ⟨chk_text _ _, hK.out _ ?_⟩
      clear hK K
      with_reducible repeat first | refine .a ?_ | refine .b ?_ | refine .c ?_ | refine .d ?_ | refine .e ?_ | refine .f ?_ | refine .g (by decide) ?_
      refine AW.rc 10 fun K hK => ?_
      repeat (with_reducible refine .s fun ι κ μ ν => ?_; simp; (first | refine μ.out _ _ ?_ | refine ν.out _ ?_ | refine ⟨by kernel_rfl, ν.out _ ?_⟩); clear μ ν ι κ; simp); (try with_reducible refine .n ?_)
      refine .s fun K1 K2 hK1 hK2 => ?_
      simp
      refine orr_l ⟨by kernel_rfl, .inl ⟨_, cw, ?_⟩⟩
      (try simp)
      refine hK1.out _ _ ?_
      clear hK1 hK2 K1 K2
      (try simp)
      repeat (with_reducible refine .s fun ι κ μ ν => ?_; simp; (first | refine μ.out _ _ ?_ | refine ν.out _ ?_ | refine ⟨by kernel_rfl, ν.out _ ?_⟩); clear μ ν ι κ; simp); (try with_reducible refine .n ?_)
      refine ⟨chk_text _ _, hK.out _ ?_⟩
      clear hK K
      with_reducible repeat first | refine .a ?_ | refine .b ?_ | refine .c ?_ | refine .d ?_ | refine .e ?_ | refine .f ?_ | refine .g (by decide) ?_
      refine AW.cf rfl ?_
      with_reducible repeat first | refine .a ?_ | refine .b ?_ | refine .c ?_ | refine .d ?_ | refine .e ?_ | refine .f ?_ | refine .g (by decide) ?_
      refine AW.rc 20 fun K hK => ?_
      repeat (with_reducible refine .s fun ι κ μ ν => ?_; simp; (first | refine μ.out _ _ ?_ | refine ν.out _ ?_ | refine ⟨by kernel_rfl, ν.out _ ?_⟩); clear μ ν ι κ; simp); (try with_reducible refine .n ?_)
      refine .s fun K1 K2 hK1 hK2 => ?_
      simp
      refine orr_l ⟨by kernel_rfl, .inr (.inl ⟨_, _, _, co, ?_⟩)⟩
      (try simp)
      refine hK1.out _ _ ?_
      clear hK1 hK2 K1 K2
      (try simp)
      repeat (with_reducible refine .s fun ι κ μ ν => ?_; simp; (first | refine μ.out _ _ ?_ | refine ν.out _ ?_ | refine ⟨by kernel_rfl, ν.out _ ?_⟩); clear μ ν ι κ; simp); (try with_reducible refine .n ?_)
      refine ⟨chk_text _ _, hK.out _ ?_⟩
      clear hK K
      with_reducible repeat first | refine .a ?_ | refine .b ?_ | refine .c ?_ | refine .d ?_ | refine .e ?_ | refine .f ?_ | refine .g (by decide) ?_
      refine AW.rc 40 fun K hK => ?_
      repeat (with_reducible refine .s fun ι κ μ ν => ?_; simp; (first | refine μ.out _ _ ?_ | refine ν.out _ ?_ | refine ⟨by kernel_rfl, ν.out _ ?_⟩); clear μ ν ι κ; simp); (try with_reducible refine .n ?_)
      refine .s fun K1 K2 hK1 hK2 => ?_
      simp
      refine orr_l ⟨by kernel_rfl, .inl ⟨_, ck, ?_⟩⟩
      (try simp)
      refine hK1.out _ _ ?_
      clear hK1 hK2 K1 K2
      (try simp)
      repeat (with_reducible refine .s fun ι κ μ ν => ?_; simp; (first | refine μ.out _ _ ?_ | refine ν.out _ ?_ | refine ⟨by kernel_rfl, ν.out _ ?_⟩); clear μ ν ι κ; simp); (try with_reducible refine .n ?_)
      refine ⟨chk_text _ _, hK.out _ ?_⟩
      clear hK K
      with_reducible repeat first | refine .a ?_ | refine .b ?_ | refine .c ?_ | refine .d ?_ | refine .e ?_ | refine .f ?_ | refine .g (by decide) ?_
      refine AW.cf rfl ?_
      with_reducible repeat first | refine .a ?_ | refine .b ?_ | refine .c ?_ | refine .d ?_ | refine .e ?_ | refine .f ?_ | refine .g (by decide) ?_
      refine AW.rc 60 fun K hK => ?_
      repeat (with_reducible refine .s fun ι κ μ ν => ?_; simp; (first | refine μ.out _ _ ?_ | refine ν.out _ ?_ | refine ⟨by kernel_rfl, ν.out _ ?_⟩); clear μ ν ι κ; simp); (try with_reducible refine .n ?_)
      refine .s fun K1 K2 hK1 hK2 => ?_
      simp
      refine orr_l ⟨by kernel_rfl, .inr (.inl ⟨_, _, _, cn, ?_⟩)⟩
      (try simp)
      refine hK1.out _ _ ?_
      clear hK1 hK2 K1 K2
      (try simp)
      repeat (with_reducible refine .s fun ι κ μ ν => ?_; simp; (first | refine μ.out _ _ ?_ | refine ν.out _ ?_ | refine ⟨by kernel_rfl, ν.out _ ?_⟩); clear μ ν ι κ; simp); (try with_reducible refine .n ?_)
      refine ⟨chk_text _ _, hK.out _ ?_⟩
      clear hK K
      with_reducible repeat first | refine .a ?_ | refine .b ?_ | refine .c ?_ | refine .d ?_ | refine .e ?_ | refine .f ?_ | refine .g (by decide) ?_
      refine AW.rc 80 fun K hK => ?_
      repeat (with_reducible refine .s fun ι κ μ ν => ?_; simp; (first | refine μ.out _ _ ?_ | refine ν.out _ ?_ | refine ⟨by kernel_rfl, ν.out _ ?_⟩); clear μ ν ι κ; simp); (try with_reducible refine .n ?_)
      refine .s fun K1 K2 hK1 hK2 => ?_
      simp
      refine ⟨0, rfl, by decide, ?_⟩
      refine hK1.out _ _ ?_
      clear hK1 hK2 K1 K2
      (try simp)
      repeat (with_reducible refine .s fun ι κ μ ν => ?_; simp; (first | refine μ.out _ _ ?_ | refine ν.out _ ?_ | refine ⟨by kernel_rfl, ν.out _ ?_⟩); clear μ ν ι κ; simp); (try with_reducible refine .n ?_)
      refine .s fun K1 K2 hK1 hK2 => ?_
      simp
      refine ⟨1, rfl, by decide, ?_⟩
      refine hK1.out _ _ ?_
      clear hK1 hK2 K1 K2
      (try simp)
      repeat (with_reducible refine .s fun ι κ μ ν => ?_; simp; (first | refine μ.out _ _ ?_ | refine ν.out _ ?_ | refine ⟨by kernel_rfl, ν.out _ ?_⟩); clear μ ν ι κ; simp); (try with_reducible refine .n ?_)
      refine .s fun K1 K2 hK1 hK2 => ?_
      simp
      refine orr_l ⟨by kernel_rfl, .inl ⟨_, cq, ?_⟩⟩
      (try simp)
      refine hK1.out _ _ ?_
      clear hK1 hK2 K1 K2
      (try simp)
      repeat (with_reducible refine .s fun ι κ μ ν => ?_; simp; (first | refine μ.out _ _ ?_ | refine ν.out _ ?_ | refine ⟨by kernel_rfl, ν.out _ ?_⟩); clear μ ν ι κ; simp); (try with_reducible refine .n ?_)
      refine ⟨chk_text _ _, hK.out _ ?_⟩
      clear hK K
      with_reducible repeat first | refine .a ?_ | refine .b ?_ | refine .c ?_ | refine .d ?_ | refine .e ?_ | refine .f ?_ | refine .g (by decide) ?_
      refine AW.rc 100 fun K hK => ?_
      repeat (with_reducible refine .s fun ι κ μ ν => ?_; simp [w1, w2, w3, lS]; (first | refine μ.out _ _ ?_ | refine ν.out _ ?_ | refine ⟨by kernel_rfl, ν.out _ ?_⟩); clear μ ν ι κ; simp [w1, w2, w3, lS]); (try with_reducible refine .n ?_)
      refine .s fun K1 K2 hK1 hK2 => ?_
      simp [w1, w2, w3, lS]
      refine orr_l ⟨by kernel_rfl, .inr (.inl ⟨_, _, _, nS, ?_⟩)⟩
      (try simp [w1, w2, w3, lS])
      refine hK1.out _ _ ?_
      clear hK1 hK2 K1 K2
      (try simp [w1, w2, w3, lS])
      repeat (with_reducible refine .s fun ι κ μ ν => ?_; simp [w1, w2, w3, lS]; (first | refine μ.out _ _ ?_ | refine ν.out _ ?_ | refine ⟨by kernel_rfl, ν.out _ ?_⟩); clear μ ν ι κ; simp [w1, w2, w3, lS]); (try with_reducible refine .n ?_)
      refine .s fun K1 K2 hK1 hK2 => ?_
      simp [w1, w2, w3, lS]
      refine orr_l ⟨by kernel_rfl, .inl ⟨_, e1, ?_⟩⟩
      (try simp [w1, w2, w3, lS])
      refine hK1.out _ _ ?_
      clear hK1 hK2 K1 K2
      (try simp [w1, w2, w3, lS])
      repeat (with_reducible refine .s fun ι κ μ ν => ?_; simp [w1, w2, w3, lS]; (first | refine μ.out _ _ ?_ | refine ν.out _ ?_ | refine ⟨by kernel_rfl, ν.out _ ?_⟩); clear μ ν ι κ; simp [w1, w2, w3, lS]); (try with_reducible refine .n ?_)
      refine .s fun K1 K2 hK1 hK2 => ?_
      simp [w1, w2, w3, lS]
      refine orr_l ⟨by kernel_rfl, .inl ⟨_, kS, ?_⟩⟩
      (try simp [w1, w2, w3, lS])
      refine hK1.out _ _ ?_
      clear hK1 hK2 K1 K2
      (try simp [w1, w2, w3, lS])
      repeat (with_reducible refine .s fun ι κ μ ν => ?_; simp [w1, w2, w3, lS]; (first | refine μ.out _ _ ?_ | refine ν.out _ ?_ | refine ⟨by kernel_rfl, ν.out _ ?_⟩); clear μ ν ι κ; simp [w1, w2, w3, lS]); (try with_reducible refine .n ?_)
      refine .s fun K1 K2 hK1 hK2 => ?_
      simp [w1, w2, w3, lS]
      refine ⟨1, rfl, by decide, ?_⟩
      refine hK1.out _ _ ?_
      clear hK1 hK2 K1 K2
      (try simp [w1, w2, w3, lS])
      repeat (with_reducible refine .s fun ι κ μ ν => ?_; simp [w1, w2, w3, lS]; (first | refine μ.out _ _ ?_ | refine ν.out _ ?_ | refine ⟨by kernel_rfl, ν.out _ ?_⟩); clear μ ν ι κ; simp [w1, w2, w3, lS]); (try with_reducible refine .n ?_)
      refine .s fun K1 K2 hK1 hK2 => ?_
      simp [w1, w2, w3, lS]
      refine ⟨0, rfl, by decide, ?_⟩
      refine hK1.out _ _ ?_
      clear hK1 hK2 K1 K2
      (try simp [w1, w2, w3, lS])
      repeat (with_reducible refine .s fun ι κ μ ν => ?_; simp [w1, w2, w3, lS]; (first | refine μ.out _ _ ?_ | refine ν.out _ ?_ | refine ⟨by kernel_rfl, ν.out _ ?_⟩); clear μ ν ι κ; simp [w1, w2, w3, lS]); (try with_reducible refine .n ?_)
      refine ⟨chk_text _ _, hK.out _ ?_⟩
      clear hK K
      with_reducible repeat first | refine .a ?_ | refine .b ?_ | refine .c ?_ | refine .d ?_ | refine .e ?_ | refine .f ?_ | refine .g (by decide) ?_
      refine AW.cf rfl ?_
      with_reducible repeat first | refine .a ?_ | refine .b ?_ | refine .c ?_ | refine .d ?_ | refine .e ?_ | refine .f ?_ | refine .g (by decide) ?_
      by_cases h0 : C = []
      · have cl := cln h0
        clear cl1 cln
        refine AW.rc 120 fun K hK => ?_
        repeat (with_reducible refine .s fun ι κ μ ν => ?_; simp; (first | refine μ.out _ _ ?_ | refine ν.out _ ?_ | refine ⟨by kernel_rfl, ν.out _ ?_⟩); clear μ ν ι κ; simp); (try with_reducible refine .n ?_)
        refine .s fun K1 K2 hK1 hK2 => ?_
        simp
        refine orr_l ⟨by kernel_rfl, .inl ⟨_, cl, ?_⟩⟩
        (try simp)
        refine hK1.out _ _ ?_
        clear hK1 hK2 K1 K2
        (try simp)
        repeat (with_reducible refine .s fun ι κ μ ν => ?_; simp; (first | refine μ.out _ _ ?_ | refine ν.out _ ?_ | refine ⟨by kernel_rfl, ν.out _ ?_⟩); clear μ ν ι κ; simp); (try with_reducible refine .n ?_)
        refine ⟨chk_text _ _, hK.out _ ?_⟩
        clear hK K
        with_reducible repeat first | refine .a ?_ | refine .b ?_ | refine .c ?_ | refine .d ?_ | refine .e ?_ | refine .f ?_ | refine .g (by decide) ?_
        refine AW.rc 150 fun K hK => ?_
        repeat (with_reducible refine .s fun ι κ μ ν => ?_; simp; (first | refine μ.out _ _ ?_ | refine ν.out _ ?_ | refine ⟨by kernel_rfl, ν.out _ ?_⟩); clear μ ν ι κ; simp); (try with_reducible refine .n ?_)
        refine .s fun K1 K2 hK1 hK2 => ?_
        simp
        refine orr_l ⟨by kernel_rfl, .inl ⟨_, l0, ?_⟩⟩
        (try simp)
        refine hK1.out _ _ ?_
        clear hK1 hK2 K1 K2
        (try simp)
        repeat (with_reducible refine .s fun ι κ μ ν => ?_; simp; (first | refine μ.out _ _ ?_ | refine ν.out _ ?_ | refine ⟨by kernel_rfl, ν.out _ ?_⟩); clear μ ν ι κ; simp); (try with_reducible refine .n ?_)
        refine ⟨chk_text _ _, hK.out _ ?_⟩
        clear hK K
        with_reducible repeat first | refine .a ?_ | refine .b ?_ | refine .c ?_ | refine .d ?_ | refine .e ?_ | refine .f ?_ | refine .g (by decide) ?_
        refine AW.rc 170 fun K hK => ?_
        repeat (with_reducible refine .s fun ι κ μ ν => ?_; simp; (first | refine μ.out _ _ ?_ | refine ν.out _ ?_ | refine ⟨by kernel_rfl, ν.out _ ?_⟩); clear μ ν ι κ; simp); (try with_reducible refine .n ?_)
        refine .s fun K1 K2 hK1 hK2 => ?_
        simp
        refine orr_l ⟨by kernel_rfl, .inl ⟨_, s0, ?_⟩⟩
        (try simp)
        refine hK1.out _ _ ?_
        clear hK1 hK2 K1 K2
        (try simp)
        repeat (with_reducible refine .s fun ι κ μ ν => ?_; simp; (first | refine μ.out _ _ ?_ | refine ν.out _ ?_ | refine ⟨by kernel_rfl, ν.out _ ?_⟩); clear μ ν ι κ; simp); (try with_reducible refine .n ?_)
        refine .s fun K1 K2 hK1 hK2 => ?_
        simp
        refine orr_l ⟨by kernel_rfl, .inr (.inl ⟨_, _, _, n0, ?_⟩)⟩
        (try simp)
        refine hK1.out _ _ ?_
        clear hK1 hK2 K1 K2
        (try simp)
        repeat (with_reducible refine .s fun ι κ μ ν => ?_; simp; (first | refine μ.out _ _ ?_ | refine ν.out _ ?_ | refine ⟨by kernel_rfl, ν.out _ ?_⟩); clear μ ν ι κ; simp); (try with_reducible refine .n ?_)
        refine .s fun K1 K2 hK1 hK2 => ?_
        simp
        refine orr_l ⟨by kernel_rfl, .inl ⟨_, (e0 h0), ?_⟩⟩
        (try simp)
        refine hK1.out _ _ ?_
        clear hK1 hK2 K1 K2
        (try simp)
        repeat (with_reducible refine .s fun ι κ μ ν => ?_; simp; (first | refine μ.out _ _ ?_ | refine ν.out _ ?_ | refine ⟨by kernel_rfl, ν.out _ ?_⟩); clear μ ν ι κ; simp); (try with_reducible refine .n ?_)
        refine ⟨chk_text _ _, hK.out _ ?_⟩
        clear hK K
        with_reducible repeat first | refine .a ?_ | refine .b ?_ | refine .c ?_ | refine .d ?_ | refine .e ?_ | refine .f ?_ | refine .g (by decide) ?_
        refine AW.cf rfl ?_
        with_reducible repeat first | refine .a ?_ | refine .b ?_ | refine .c ?_ | refine .d ?_ | refine .e ?_ | refine .f ?_ | refine .g (by decide) ?_
        refine AW.rc 250 fun K hK => ?_
        repeat (with_reducible refine .s fun ι κ μ ν => ?_; simp; (first | refine μ.out _ _ ?_ | refine ν.out _ ?_ | refine ⟨by kernel_rfl, ν.out _ ?_⟩); clear μ ν ι κ; simp); (try with_reducible refine .n ?_)
        refine ⟨chk_text _ _, hK.out _ ?_⟩
        clear hK K
        with_reducible repeat first | refine .a ?_ | refine .b ?_ | refine .c ?_ | refine .d ?_ | refine .e ?_ | refine .f ?_ | refine .g (by decide) ?_
        refine AW.loop (X := { k : Nat // k ≤ C.length }) (fun x => stS L C x.1) (fun x => C.length - x.1) ⟨0, by simp⟩ (view_of (vw [] [] [] []) (by simp [stS])) (fun x => ?_)
        obtain ⟨k, hk⟩ := x
        refine AW.at_ (fun L hL => ?_)
        simp [stS] at hL
        subst hL
        with_reducible repeat first | refine .a ?_ | refine .b ?_ | refine .c ?_ | refine .d ?_ | refine .e ?_ | refine .f ?_ | refine .g (by decide) ?_
        by_cases hgo : k < C.length
        · have w5 : IntKind.i64.wrap ((k : Int) + 1) = ((k + 1 : Nat) : Int) := by rw [i64_ok _ (by omega) (by omega)]; omega
          obtain ⟨p, hpk⟩ : ∃ p, C[k] = p := ⟨_, rfl⟩
          have ch := hhas p (by rw [← hpk]; exact List.getElem_mem hgo)
          refine AW.rc 300 fun K hK => ?_
          repeat (with_reducible refine .s fun ι κ μ ν => ?_; simp [hgo]; (first | refine μ.out _ _ ?_ | refine ν.out _ ?_ | refine ⟨by kernel_rfl, ν.out _ ?_⟩); clear μ ν ι κ; simp [hgo]); (try with_reducible refine .n ?_)
          refine ⟨chk_text _ _, hK.out _ ?_⟩
          clear hK K
          with_reducible repeat first | refine .a ?_ | refine .b ?_ | refine .c ?_ | refine .d ?_ | refine .e ?_ | refine .f ?_ | refine .g (by decide) ?_
          refine AW.ct rfl ?_
          with_reducible repeat first | refine .a ?_ | refine .b ?_ | refine .c ?_ | refine .d ?_ | refine .e ?_ | refine .f ?_ | refine .g (by decide) ?_
          refine AW.rc 310 fun K hK => ?_
          repeat (with_reducible refine .s fun ι κ μ ν => ?_; simp [hgo]; (first | refine μ.out _ _ ?_ | refine ν.out _ ?_ | refine ⟨by kernel_rfl, ν.out _ ?_⟩); clear μ ν ι κ; simp [hgo]); (try with_reducible refine .n ?_)
          refine .s fun K1 K2 hK1 hK2 => ?_
          simp [hgo]
          refine ⟨k, PD p, rfl, by simp [hgo, hpk], ?_⟩
          refine hK1.out _ _ ?_
          clear hK1 hK2 K1 K2
          (try simp [hgo])
          repeat (with_reducible refine .s fun ι κ μ ν => ?_; simp [hgo]; (first | refine μ.out _ _ ?_ | refine ν.out _ ?_ | refine ⟨by kernel_rfl, ν.out _ ?_⟩); clear μ ν ι κ; simp [hgo]); (try with_reducible refine .n ?_)
          refine ⟨chk_text _ _, hK.out _ ?_⟩
          clear hK K
          with_reducible repeat first | refine .a ?_ | refine .b ?_ | refine .c ?_ | refine .d ?_ | refine .e ?_ | refine .f ?_ | refine .g (by decide) ?_
          refine AW.rc 330 fun K hK => ?_
          repeat (with_reducible refine .s fun ι κ μ ν => ?_; simp; (first | refine μ.out _ _ ?_ | refine ν.out _ ?_ | refine ⟨by kernel_rfl, ν.out _ ?_⟩); clear μ ν ι κ; simp); (try with_reducible refine .n ?_)
          refine .s fun K1 K2 hK1 hK2 => ?_
          simp
          refine orr_l ⟨by kernel_rfl, .inl ⟨_, ch, ?_⟩⟩
          (try simp)
          refine hK1.out _ _ ?_
          clear hK1 hK2 K1 K2
          (try simp)
          repeat (with_reducible refine .s fun ι κ μ ν => ?_; simp; (first | refine μ.out _ _ ?_ | refine ν.out _ ?_ | refine ⟨by kernel_rfl, ν.out _ ?_⟩); clear μ ν ι κ; simp); (try with_reducible refine .n ?_)
          refine ⟨chk_text _ _, hK.out _ ?_⟩
          clear hK K
          with_reducible repeat first | refine .a ?_ | refine .b ?_ | refine .c ?_ | refine .d ?_ | refine .e ?_ | refine .f ?_ | refine .g (by decide) ?_
          refine AW.cf rfl ?_
          with_reducible repeat first | refine .a ?_ | refine .b ?_ | refine .c ?_ | refine .d ?_ | refine .e ?_ | refine .f ?_ | refine .g (by decide) ?_
          refine AW.rc 350 fun K hK => ?_
          repeat (with_reducible refine .s fun ι κ μ ν => ?_; simp [w5]; (first | refine μ.out _ _ ?_ | refine ν.out _ ?_ | refine ⟨by kernel_rfl, ν.out _ ?_⟩); clear μ ν ι κ; simp [w5]); (try with_reducible refine .n ?_)
          refine ⟨chk_text _ _, hK.out _ ?_⟩
          clear hK K
          with_reducible repeat first | refine .a ?_ | refine .b ?_ | refine .c ?_ | refine .d ?_ | refine .e ?_ | refine .f ?_ | refine .g (by decide) ?_
          exact NX.round ⟨k + 1, hgo⟩ (by show C.length - (k + 1) < C.length - k; omega) (view_of (vw [] [] [] []) (by simp [stS]))
        · obtain rfl : k = C.length := by omega
          refine AW.rc 400 fun K hK => ?_
          repeat (with_reducible refine .s fun ι κ μ ν => ?_; simp; (first | refine μ.out _ _ ?_ | refine ν.out _ ?_ | refine ⟨by kernel_rfl, ν.out _ ?_⟩); clear μ ν ι κ; simp); (try with_reducible refine .n ?_)
          refine ⟨chk_text _ _, hK.out _ ?_⟩
          clear hK K
          with_reducible repeat first | refine .a ?_ | refine .b ?_ | refine .c ?_ | refine .d ?_ | refine .e ?_ | refine .f ?_ | refine .g (by decide) ?_
          refine AW.cf rfl ?_
          with_reducible repeat first | refine .a ?_ | refine .b ?_ | refine .c ?_ | refine .d ?_ | refine .e ?_ | refine .f ?_ | refine .g (by decide) ?_
          refine AW.rc 410 fun K hK => ?_
          repeat (with_reducible refine .s fun ι κ μ ν => ?_; simp; (first | refine μ.out _ _ ?_ | refine ν.out _ ?_ | refine ⟨by kernel_rfl, ν.out _ ?_⟩); clear μ ν ι κ; simp); (try with_reducible refine .n ?_)
          refine .s fun K1 K2 hK1 hK2 => ?_
          simp
          refine orr_l ⟨by kernel_rfl, .inl ⟨_, crc, ?_⟩⟩
          (try simp)
          refine hK1.out _ _ ?_
          clear hK1 hK2 K1 K2
          (try simp)
          repeat (with_reducible refine .s fun ι κ μ ν => ?_; simp; (first | refine μ.out _ _ ?_ | refine ν.out _ ?_ | refine ⟨by kernel_rfl, ν.out _ ?_⟩); clear μ ν ι κ; simp); (try with_reducible refine .n ?_)
          refine ⟨chk_text _ _, hK.out _ ?_⟩
          clear hK K
          with_reducible repeat first | refine .a ?_ | refine .b ?_ | refine .c ?_ | refine .d ?_ | refine .e ?_ | refine .f ?_ | refine .g (by decide) ?_
          refine nx_ret (T := ty) (rs := [.tmp 4]) (zs := []) (ds := [dB true]) (rr := []) (.inr rfl) rfl (by kernel_rfl) (by kernel_rfl) (by simp) rfl
      · have cl := cl1 h0
        have cl2 := cl1' h0
        clear cl1 cln
        refine AW.rc 120 fun K hK => ?_
        repeat (with_reducible refine .s fun ι κ μ ν => ?_; simp; (first | refine μ.out _ _ ?_ | refine ν.out _ ?_ | refine ⟨by kernel_rfl, ν.out _ ?_⟩); clear μ ν ι κ; simp); (try with_reducible refine .n ?_)
        refine .s fun K1 K2 hK1 hK2 => ?_
        simp
        refine orr_l ⟨by kernel_rfl, .inl ⟨_, cl, ?_⟩⟩
        (try simp)
        refine hK1.out _ _ ?_
        clear hK1 hK2 K1 K2
        (try simp)
        repeat (with_reducible refine .s fun ι κ μ ν => ?_; simp; (first | refine μ.out _ _ ?_ | refine ν.out _ ?_ | refine ⟨by kernel_rfl, ν.out _ ?_⟩); clear μ ν ι κ; simp); (try with_reducible refine .n ?_)
        refine ⟨chk_text _ _, hK.out _ ?_⟩
        clear hK K
        with_reducible repeat first | refine .a ?_ | refine .b ?_ | refine .c ?_ | refine .d ?_ | refine .e ?_ | refine .f ?_ | refine .g (by decide) ?_
        refine AW.rc 150 fun K hK => ?_
        repeat (with_reducible refine .s fun ι κ μ ν => ?_; simp; (first | refine μ.out _ _ ?_ | refine ν.out _ ?_ | refine ⟨by kernel_rfl, ν.out _ ?_⟩); clear μ ν ι κ; simp); (try with_reducible refine .n ?_)
        refine .s fun K1 K2 hK1 hK2 => ?_
        simp
        refine orr_l ⟨by kernel_rfl, .inl ⟨_, cl2, ?_⟩⟩
        (try simp)
        refine hK1.out _ _ ?_
        clear hK1 hK2 K1 K2
        (try simp)
        repeat (with_reducible refine .s fun ι κ μ ν => ?_; simp; (first | refine μ.out _ _ ?_ | refine ν.out _ ?_ | refine ⟨by kernel_rfl, ν.out _ ?_⟩); clear μ ν ι κ; simp); (try with_reducible refine .n ?_)
        refine ⟨chk_text _ _, hK.out _ ?_⟩
        clear hK K
        with_reducible repeat first | refine .a ?_ | refine .b ?_ | refine .c ?_ | refine .d ?_ | refine .e ?_ | refine .f ?_ | refine .g (by decide) ?_
        refine AW.rc 170 fun K hK => ?_
        repeat (with_reducible refine .s fun ι κ μ ν => ?_; simp; (first | refine μ.out _ _ ?_ | refine ν.out _ ?_ | refine ⟨by kernel_rfl, ν.out _ ?_⟩); clear μ ν ι κ; simp); (try with_reducible refine .n ?_)
        refine .s fun K1 K2 hK1 hK2 => ?_
        simp
        refine orr_l ⟨by kernel_rfl, .inl ⟨_, s1, ?_⟩⟩
        (try simp)
        refine hK1.out _ _ ?_
        clear hK1 hK2 K1 K2
        (try simp)
        repeat (with_reducible refine .s fun ι κ μ ν => ?_; simp; (first | refine μ.out _ _ ?_ | refine ν.out _ ?_ | refine ⟨by kernel_rfl, ν.out _ ?_⟩); clear μ ν ι κ; simp); (try with_reducible refine .n ?_)
        refine .s fun K1 K2 hK1 hK2 => ?_
        simp
        refine orr_l ⟨by kernel_rfl, .inr (.inl ⟨_, _, _, n1, ?_⟩)⟩
        (try simp)
        refine hK1.out _ _ ?_
        clear hK1 hK2 K1 K2
        (try simp)
        repeat (with_reducible refine .s fun ι κ μ ν => ?_; simp; (first | refine μ.out _ _ ?_ | refine ν.out _ ?_ | refine ⟨by kernel_rfl, ν.out _ ?_⟩); clear μ ν ι κ; simp); (try with_reducible refine .n ?_)
        refine .s fun K1 K2 hK1 hK2 => ?_
        simp
        refine orr_l ⟨by kernel_rfl, .inl ⟨_, e1, ?_⟩⟩
        (try simp)
        refine hK1.out _ _ ?_
        clear hK1 hK2 K1 K2
        (try simp)
        repeat (with_reducible refine .s fun ι κ μ ν => ?_; simp; (first | refine μ.out _ _ ?_ | refine ν.out _ ?_ | refine ⟨by kernel_rfl, ν.out _ ?_⟩); clear μ ν ι κ; simp); (try with_reducible refine .n ?_)
        refine ⟨chk_text _ _, hK.out _ ?_⟩
        clear hK K
        with_reducible repeat first | refine .a ?_ | refine .b ?_ | refine .c ?_ | refine .d ?_ | refine .e ?_ | refine .f ?_ | refine .g (by decide) ?_
        refine AW.cf rfl ?_
        with_reducible repeat first | refine .a ?_ | refine .b ?_ | refine .c ?_ | refine .d ?_ | refine .e ?_ | refine .f ?_ | refine .g (by decide) ?_
        refine AW.rc 250 fun K hK => ?_
        repeat (with_reducible refine .s fun ι κ μ ν => ?_; simp; (first | refine μ.out _ _ ?_ | refine ν.out _ ?_ | refine ⟨by kernel_rfl, ν.out _ ?_⟩); clear μ ν ι κ; simp); (try with_reducible refine .n ?_)
        refine ⟨chk_text _ _, hK.out _ ?_⟩
        clear hK K
        with_reducible repeat first | refine .a ?_ | refine .b ?_ | refine .c ?_ | refine .d ?_ | refine .e ?_ | refine .f ?_ | refine .g (by decide) ?_
        refine AW.loop (X := { k : Nat // k ≤ C.length }) (fun x => stS L C x.1) (fun x => C.length - x.1) ⟨0, by simp⟩ (view_of (vw [] [] [] []) (by simp [stS])) (fun x => ?_)
        obtain ⟨k, hk⟩ := x
        refine AW.at_ (fun L hL => ?_)
        simp [stS] at hL
        subst hL
        with_reducible repeat first | refine .a ?_ | refine .b ?_ | refine .c ?_ | refine .d ?_ | refine .e ?_ | refine .f ?_ | refine .g (by decide) ?_
        by_cases hgo : k < C.length
        · have w5 : IntKind.i64.wrap ((k : Int) + 1) = ((k + 1 : Nat) : Int) := by rw [i64_ok _ (by omega) (by omega)]; omega
          obtain ⟨p, hpk⟩ : ∃ p, C[k] = p := ⟨_, rfl⟩
          have ch := hhas p (by rw [← hpk]; exact List.getElem_mem hgo)
          refine AW.rc 300 fun K hK => ?_
          repeat (with_reducible refine .s fun ι κ μ ν => ?_; simp [hgo]; (first | refine μ.out _ _ ?_ | refine ν.out _ ?_ | refine ⟨by kernel_rfl, ν.out _ ?_⟩); clear μ ν ι κ; simp [hgo]); (try with_reducible refine .n ?_)
          refine ⟨chk_text _ _, hK.out _ ?_⟩
          clear hK K
          with_reducible repeat first | refine .a ?_ | refine .b ?_ | refine .c ?_ | refine .d ?_ | refine .e ?_ | refine .f ?_ | refine .g (by decide) ?_
          refine AW.ct rfl ?_
          with_reducible repeat first | refine .a ?_ | refine .b ?_ | refine .c ?_ | refine .d ?_ | refine .e ?_ | refine .f ?_ | refine .g (by decide) ?_
          refine AW.rc 310 fun K hK => ?_
          repeat (with_reducible refine .s fun ι κ μ ν => ?_; simp [hgo]; (first | refine μ.out _ _ ?_ | refine ν.out _ ?_ | refine ⟨by kernel_rfl, ν.out _ ?_⟩); clear μ ν ι κ; simp [hgo]); (try with_reducible refine .n ?_)
          refine .s fun K1 K2 hK1 hK2 => ?_
          simp [hgo]
          refine ⟨k, PD p, rfl, by simp [hgo, hpk], ?_⟩
          refine hK1.out _ _ ?_
          clear hK1 hK2 K1 K2
          (try simp [hgo])
          repeat (with_reducible refine .s fun ι κ μ ν => ?_; simp [hgo]; (first | refine μ.out _ _ ?_ | refine ν.out _ ?_ | refine ⟨by kernel_rfl, ν.out _ ?_⟩); clear μ ν ι κ; simp [hgo]); (try with_reducible refine .n ?_)
          refine ⟨chk_text _ _, hK.out _ ?_⟩
          clear hK K
          with_reducible repeat first | refine .a ?_ | refine .b ?_ | refine .c ?_ | refine .d ?_ | refine .e ?_ | refine .f ?_ | refine .g (by decide) ?_
          refine AW.rc 330 fun K hK => ?_
          repeat (with_reducible refine .s fun ι κ μ ν => ?_; simp; (first | refine μ.out _ _ ?_ | refine ν.out _ ?_ | refine ⟨by kernel_rfl, ν.out _ ?_⟩); clear μ ν ι κ; simp); (try with_reducible refine .n ?_)
          refine .s fun K1 K2 hK1 hK2 => ?_
          simp
          refine orr_l ⟨by kernel_rfl, .inl ⟨_, ch, ?_⟩⟩
          (try simp)
          refine hK1.out _ _ ?_
          clear hK1 hK2 K1 K2
          (try simp)
          repeat (with_reducible refine .s fun ι κ μ ν => ?_; simp; (first | refine μ.out _ _ ?_ | refine ν.out _ ?_ | refine ⟨by kernel_rfl, ν.out _ ?_⟩); clear μ ν ι κ; simp); (try with_reducible refine .n ?_)
          refine ⟨chk_text _ _, hK.out _ ?_⟩
          clear hK K
          with_reducible repeat first | refine .a ?_ | refine .b ?_ | refine .c ?_ | refine .d ?_ | refine .e ?_ | refine .f ?_ | refine .g (by decide) ?_
          refine AW.cf rfl ?_
          with_reducible repeat first | refine .a ?_ | refine .b ?_ | refine .c ?_ | refine .d ?_ | refine .e ?_ | refine .f ?_ | refine .g (by decide) ?_
          refine AW.rc 350 fun K hK => ?_
          repeat (with_reducible refine .s fun ι κ μ ν => ?_; simp [w5]; (first | refine μ.out _ _ ?_ | refine ν.out _ ?_ | refine ⟨by kernel_rfl, ν.out _ ?_⟩); clear μ ν ι κ; simp [w5]); (try with_reducible refine .n ?_)
          refine ⟨chk_text _ _, hK.out _ ?_⟩
          clear hK K
          with_reducible repeat first | refine .a ?_ | refine .b ?_ | refine .c ?_ | refine .d ?_ | refine .e ?_ | refine .f ?_ | refine .g (by decide) ?_
          exact NX.round ⟨k + 1, hgo⟩ (by show C.length - (k + 1) < C.length - k; omega) (view_of (vw [] [] [] []) (by simp [stS]))
        · obtain rfl : k = C.length := by omega
          refine AW.rc 400 fun K hK => ?_
          repeat (with_reducible refine .s fun ι κ μ ν => ?_; simp; (first | refine μ.out _ _ ?_ | refine ν.out _ ?_ | refine ⟨by kernel_rfl, ν.out _ ?_⟩); clear μ ν ι κ; simp); (try with_reducible refine .n ?_)
          refine ⟨chk_text _ _, hK.out _ ?_⟩
          clear hK K
          with_reducible repeat first | refine .a ?_ | refine .b ?_ | refine .c ?_ | refine .d ?_ | refine .e ?_ | refine .f ?_ | refine .g (by decide) ?_
          refine AW.cf rfl ?_
          with_reducible repeat first | refine .a ?_ | refine .b ?_ | refine .c ?_ | refine .d ?_ | refine .e ?_ | refine .f ?_ | refine .g (by decide) ?_
          refine AW.rc 410 fun K hK => ?_
          repeat (with_reducible refine .s fun ι κ μ ν => ?_; simp; (first | refine μ.out _ _ ?_ | refine ν.out _ ?_ | refine ⟨by kernel_rfl, ν.out _ ?_⟩); clear μ ν ι κ; simp); (try with_reducible refine .n ?_)
          refine .s fun K1 K2 hK1 hK2 => ?_
          simp
          refine orr_l ⟨by kernel_rfl, .inl ⟨_, crc, ?_⟩⟩
          (try simp)
          refine hK1.out _ _ ?_
          clear hK1 hK2 K1 K2
          (try simp)
          repeat (with_reducible refine .s fun ι κ μ ν => ?_; simp; (first | refine μ.out _ _ ?_ | refine ν.out _ ?_ | refine ⟨by kernel_rfl, ν.out _ ?_⟩); clear μ ν ι κ; simp); (try with_reducible refine .n ?_)
          refine ⟨chk_text _ _, hK.out _ ?_⟩
          clear hK K
          with_reducible repeat first | refine .a ?_ | refine .b ?_ | refine .c ?_ | refine .d ?_ | refine .e ?_ | refine .f ?_ | refine .g (by decide) ?_
          refine nx_ret (T := ty) (rs := [.tmp 4]) (zs := []) (ds := [dB true]) (rr := []) (.inr rfl) rfl (by kernel_rfl) (by kernel_rfl) (by simp) rfl
end Go.Proofs.Ytlkdkhmdmgchbaa
