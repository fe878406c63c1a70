/- The second logic: chapter 11: the document's Content, Joined. -/
import Derived.Test.YtlkdkhmdmgchbaaTC
namespace Go.Proofs.Ytlkdkhmdmgchbaa
set_option linter.unusedSimpArgs false
set_option linter.unusedVariables false
open Go.RowKit
theorem saidF_app (A B : List Tr) (p : Pr) : saidF (A ++ B) p = if saidF B p = none then saidF A p else saidF B p := by
  unfold saidF
  rw [List.reverse_append, List.foldl_append, foldT_is]
theorem saidF_one (t : Tr) (p : Pr) : saidF [t] p = if p ∈ t.2 then some 0 else if p ∈ t.1 then some 1 else none := by
  have := saidF_snoc [] t p
  simpa [saidF_nil] using this
/-- tiers as one. -/
def jnL (M : List Tr) (ob : Bool) : Tr := (whichL M 1, if ob then [] else whichL M 0)
theorem jnL_said (M : List Tr) (p : Pr) : saidF [jnL M false] p = saidF M p := by
  rw [saidF_one]
  have h1 := whichL_mem M 1 p
  have h0 := whichL_mem M 0 p
  show (if p ∈ whichL M 0 then some 0 else if p ∈ whichL M 1 then some 1 else none) = _
  cases h : saidF M p with
  | none =>
    rw [h] at h1 h0
    simp at h1 h0
    simp [h1, h0]
  | some x =>
    rw [h] at h1 h0
    rcases (saidF_mem M p x h).1 with rfl | rfl
    · simp at h1 h0
      simp [h1, h0]
    · simp at h1 h0
      simp [h1, h0]
theorem jnL_one (M : List Tr) (p : Pr) : saidF [jnL M true] p = some 1 ↔ saidF M p = some 1 := by
  rw [saidF_one]
  have h1 := whichL_mem M 1 p
  show (if p ∈ ([] : List Pr) then some 0 else if p ∈ whichL M 1 then some 1 else none) = some 1 ↔ _
  rw [← h1]
  simp
theorem sqL_cut (l : List Tr) {i j : Nat} (hij : i < j) : l = l.take i ++ ((l.take j).drop i ++ l.drop j) := by
  have e1 : l.take i = (l.take j).take i := by rw [List.take_take]; congr 1; omega
  rw [← List.append_assoc, e1, List.take_append_drop, List.take_append_drop]
theorem sqL_is (l : List Tr) (i j : Nat) : sqL l i j = l.take i ++ ([jnL ((l.take j).drop i) (decide (i = 0))] ++ l.drop j) := rfl
theorem sq_said (l : List Tr) {i j : Nat} (hij : i < j) (p : Pr) : saidF (sqL l i j) p = some 1 ↔ saidF l p = some 1 := by
  rw [sqL_is]
  conv => rhs; rw [sqL_cut l hij]
  rw [saidF_app, saidF_app, saidF_app (l.take i), saidF_app ((l.take j).drop i)]
  by_cases hx : saidF (l.drop j) p = none
  · simp only [hx, if_true]
    by_cases h0 : i = 0
    · subst h0
      rw [decide_eq_true rfl]
      have := jnL_one ((l.take j).drop 0) p
      generalize (l.take j).drop 0 = M at *
      simp only [List.take_zero, saidF_nil]
      by_cases h1 : saidF M p = some 1
      · have h2 := this.2 h1
        simp [h1, h2]
      · have h2 := fun h => h1 (this.1 h)
        have g1 : ¬ (if saidF [jnL M true] p = none then none else saidF [jnL M true] p) = some 1 := by
          intro h; split at h
          · cases h
          · exact h2 h
        have g2 : ¬ (if saidF M p = none then none else saidF M p) = some 1 := by
          intro h; split at h
          · cases h
          · exact h1 h
        exact ⟨fun h => absurd h g1, fun h => absurd h g2⟩
    · rw [decide_eq_false h0, jnL_said]
  · simp only [hx, if_false]
theorem sq_content (l : List Tr) {i j : Nat} (hij : i < j) : whichL (sqL l i j) 1 = whichL l 1 :=
  rises_ext (whichL_rises _ _) (whichL_rises _ _) fun p => by rw [whichL_mem, whichL_mem, sq_said l hij]
theorem sq_len (l : List Tr) {i j : Nat} (hij : i < j) (hj : j ≤ l.length) : (sqL l i j).length = l.length - (j - i) + 1 := by
  rw [sqL_is]
  simp [List.length_take, List.length_drop]
  omega
theorem sub_pairs (l : List Tr) (i j : Nat) : pairsN ((l.take j).drop i) ≤ pairsN l := by
  have h1 : pairsN (l.take j) = pairsN ((l.take j).take i) + pairsN ((l.take j).drop i) := by rw [← pairsN_app, List.take_append_drop]
  have := pairsN_le l j
  omega
theorem sq_mem (l : List Tr) {i j : Nat} {K : Tr → Prop} (h : ∀ t ∈ l, K t) (hJ : K (jnL ((l.take j).drop i) (decide (i = 0)))) : ∀ t ∈ sqL l i j, K t := fun t ht => by
  rw [sqL_is, List.mem_append, List.mem_append, List.mem_singleton] at ht
  rcases ht with ht | rfl | ht
  · exact h t (List.mem_of_mem_take ht)
  · exact hJ
  · exact h t (List.mem_of_mem_drop ht)
theorem sq_right (l : List Tr) {i j : Nat} (hij : i < j) (hj : j ≤ l.length) (h : tsR l = true) (hn : pairsN l ≤ 1000000) : tsR (sqL l i j) = true := by
  unfold tsR at h ⊢
  simp only [Bool.and_eq_true, decide_eq_true_eq, List.all_eq_true] at h ⊢
  refine ⟨by rw [sq_len l hij hj]; omega, sq_mem l h.2 ?_⟩
  exact which_one (by have := sub_pairs l i j; omega)
theorem jnL_len (M : List Tr) (ob : Bool) : (jnL M ob).1.length ≤ pairsN M ∧ (jnL M ob).2.length ≤ pairsN M := by
  refine ⟨whichL_len M 1, ?_⟩
  cases ob
  · exact whichL_len M 0
  · simp [jnL]
theorem jnL_wf {M : List Tr} (h : ∀ t ∈ M, wfT t) (ob : Bool) : wfT (jnL M ob) := by
  refine ⟨which_wf h 1, ?_⟩
  cases ob
  · exact which_wf h 0
  · exact fun p hp => by simp [jnL] at hp
theorem mid_mem {l : List Tr} {i j : Nat} {t : Tr} (h : t ∈ (l.take j).drop i) : t ∈ l := List.mem_of_mem_take (List.mem_of_mem_drop h)
theorem pairsN_split (l : List Tr) {i j : Nat} (hij : i < j) : pairsN l = pairsN (l.take i) + (pairsN ((l.take j).drop i) + pairsN (l.drop j)) := by
  conv => lhs; rw [sqL_cut l hij]
  rw [pairsN_app, pairsN_app]
theorem sq_pairs (l : List Tr) {i j : Nat} (hij : i < j) : pairsN (sqL l i j) ≤ 2 * pairsN l := by
  rw [sqL_is, pairsN_app, pairsN_app]
  have e : pairsN [jnL ((l.take j).drop i) (decide (i = 0))] = pairsT (jnL ((l.take j).drop i) (decide (i = 0))) := by simp [pairsN]
  rw [e]
  have := jnL_len ((l.take j).drop i) (decide (i = 0))
  have := pairsN_split l hij
  unfold pairsT
  omega
theorem which_self {c : List Pr} (h : Rises c) : whichL [(c, [])] 1 = c := rises_ext (whichL_rises _ _) h fun p => by
  rw [whichL_mem, saidF_one]
  by_cases h : p ∈ c <;> simp [h]
theorem tsR_nil : tsR [] = true := by decide
theorem which_nil : whichL [] 1 = [] := by decide
end Go.Proofs.Ytlkdkhmdmgchbaa
namespace Go.Proofs.Ytlkdkhmdmgchbaa
set_option linter.unusedSimpArgs false
set_option linter.unusedVariables false
open Go.RowKit
theorem allT_0 (l : List Tr) : allT (l.take 0) = [] := by simp [allT]
theorem allT_nil : allT [] = [] := rfl
theorem rd_nil : ([] : List Pr).map PD = [] := rfl
attribute [local simp ↓] gav_bool gav_undef arun_nil ob_some kva_av kfree_free khfree_free khown_own klive_live knm_false chk_true ya_true gsel_tt gsel_ff gsel_tf gsel_ft vb_bool vi_int vstr_string avps_ptr avps_seg avp_ptr avagg_agg avtup_tup avb_bool avown_own shs_struct shsa_struct shsa_arr sharr_arr shl_slice shla_slice shla_arr shls_slice shls_str shi_int bc_true bc_false hd1_cons opc_some opc_none opn_some opn_none unc_not unc_neg gd_none gd_some as_move as_assign as_pick as_bin as_un as_conv as_load as_faddr as_field as_extract as_iaddr as_slice as_alloc as_box as_store as_build as_rows as_call as_append as_lookup as_mapUpdate as_makeMap as_range as_next as_entry as_index as_fn as_len as_min as_max stMove stPick stBin stUn stConv stLoad stFaddr stField stExtract stIaddr stSlice stAlloc stBox stStore stBuild stIndex stRows stCall stAppend stFn stLen stMin stMax opd_tmp opd_const opd_func rawL_nil rawL_cons raw_c raw_st raw_a opr_e zr_nil zr_cons lvd_live hod_own obd_some obd_none kvd_av chd_true vid_int lk_cons lk_nil ins_nil ins_cons cells_zero cells_succ spread1_c spread1_own spread1_ptr spread1_fn spread1_seg spreadL_nil spreadL_cons spread_agg spread_c spread_own spread_seg spread_ptr spread_fn ex_zero ex_succ ops_e opb_none opb_int spreadD_agg spreadD_c spreadD_own spreadD_seg fillO_nil fillO_cons argsOf_nil argsOf_cons dvOf_c dvOf_seg dvOf_own dvOf_agg zrL_nil zrL_cons hdd_c hdd_seg hdd_own clz_e clv_raw clv_f callD_e dst0_n dst0_nil dst0_own goneH_e capc_ptr capc_seg capc_c capN_nil capN_cons capD_nil capD_cons deadZ_nil deadZ_cons
attribute [local simp] dok_some dok_none dflt_tmp dflt_vt dflt_cell dflt_zn dflt_nm dflt_hd dflt_df puts_nil puts_cons wr_some wr_none cst_agg cst_int cst_bool cst_string cst_slice cst_tuple cst_nilFunc cst_pointer cst_func bin_add bin_sub bin_mul bin_quo bin_rem bin_eql bin_neq bin_lss bin_leq bin_gtr bin_geq bin_bool bin_aggs binT_bool binT_aggs shbd_bool eqb_eql eqb_neq bin_slice bin_str_eql bin_str_neq bin_str_lss bin_str_add nz_v nz_n nz_s nz_p nz_f nz_st atz_v atz_n atz_s atz_p atz_f atz_st atz_agg atR_one atR_tup crow_nil crow_cons slc_c slc_n slc_own slc_nil raws setR placesT_nil placesT_cons zc chunk zsAll ocD_v ocD_n ocD_s ocD_p ocD_f ocD_st nrm_v nrm_n nrm_s nrm_p nrm_f nrm_st isV_one isV_tup isV_c isV_agg isV_v isV_n isV_s isV_p isV_f isV_st argRows Sh.agg zds_nil zds_e zds_v zds_s vcells_agg vcells_int vcells_bool vcells_string vcells_slice vcells_pointer toList_lit map_nilL map_consL nzr_e rowsOc_nil rowsOc_cons rowsOc_RD nzr_RD foks_nil foks_cons fok_tmp fok_vt fok_cell fok_nm fok_zn fok_hd fok_df Fv_c Fv_seg Fv_tup Fv_agg Fv_ptr Fv_ptrs Fv_fn Fv_fnd Fv_own Fv_ownd Fv_nown Fv_vown FvL_nil FvL_cons kvp_av hdp_some subz frz Uz Nm Uh vw_nb vw_zo vw_zf vw_hb tb_nil tb_cons fzc_nil fzc_cons fzcaps_nil fzcaps_cons ty2 ty3 ty4 ty5 ty6 ty7 ty8 ty9 ty10 ty11 ty12 ty13 ty14 ty15 ty16 ty17 ty18 ty19 ty20 ty21 ty22 ty23 ty24 ty25 ty26 ty27 ty30 ty40 ty48 ty50 ty51 ty52 ty55 ty57 ty62 ty63 ty85 ty94 ty101 ty121 ty122 ty123 ty124 ty125 ty126 ty128 ty148 ty149 ty151 ty164 ty165 ty179 ty182 ty196 ty203 ty205 ty209 ty211 ty215 ty216 ty217 ty218 ty219 ty220 ty221 ty223 ty224 ty225 ty226 ty227 Value.oneCell'
set_option maxRecDepth 100000
def thA (l : List Tr) (says : Int) (k : Nat) : Row := [(.zn 0, .zn .live), (.tmp 0, .av (.c [0] (TsD l))), (.tmp 1, .av (.c [] (.v (.int .i64 says)))), (.zn 900, .zn .live), (.zn 901, .zn .live), (.hd 900, .hd (.own 52 2 900 [901] ((allT (l.take k)).map PD))), (.tmp 5, .av (.own 900)),
  (.tmp 11, .av (.c [0] (TsD l))), (.tmp 12, .av (.c [] (.v (.int .i64 l.length)))), (.tmp 13, .av (.c [] (.v (.int .i64 k))))]
def thF (l : List Tr) (says : Int) (p : Pr) : Bool := decide (saysL l p = says)
def thB (l : List Tr) (says : Int) (A : List Pr) (k : Nat) : Row := [(.zn 0, .zn .live), (.tmp 0, .av (.c [0] (TsD l))), (.tmp 1, .av (.c [] (.v (.int .i64 says)))), (.zn 902, .zn .live), (.zn 903, .zn .live), (.hd 902, .hd (.own 52 2 902 [903] (((A.take k).filter (thF l says)).map PD))), (.tmp 8, .av (.own 902)),
  (.zn 900, .zn .live), (.zn 901, .zn .live), (.hd 900, .hd (.own 52 2 900 [901] (A.map PD))), (.tmp 25, .av (.own 900)), (.tmp 26, .av (.c [] (.v (.int .i64 A.length)))), (.tmp 27, .av (.c [] (.v (.int .i64 k))))]
set_option maxHeartbeats 8000000 in
theorem those11_ct (l : List Tr) (says : Int) (hl : l.length ≤ 1000000) (hs : ∀ t ∈ l, t.1.length ≤ 100000 ∧ t.2.length ≤ 100000) (hn : pairsN l ≤ 400000) : Ct Try.prog 110 [.c (TsD l), dI says] (some 52) (.one (.c (RD ((allT l).filter (thF l says))))) := by
  refine ct_intro Try.func110 rfl Try.ntmps110 (by simp) (fun W0 Z => ?_)
  with_reducible repeat first | refine Jt.i ?_ | refine .g (by decide) ?_
  refine AW.at_ (fun L hL => ?_)
  simp at hL
  subst hL
  refine AW.rc 1 fun K hK => ?_
  repeat (with_reducible refine .s fun X Y Z W => ?_; simp; (first | refine Z.out _ _ ?_ | refine W.out _ ?_ | refine ⟨by kernel_rfl, W.out _ ?_⟩); clear Z W X Y; simp); (try refine .n ?_)
  refine Jt.f hK ?_
  clear hK K
  with_reducible repeat first | refine Jt.i ?_ | refine .g (by decide) ?_
  refine AW.rc 10 fun K hK => ?_
  repeat (with_reducible refine .s fun X Y Z W => ?_; simp; (first | refine Z.out _ _ ?_ | refine W.out _ ?_ | refine ⟨by kernel_rfl, W.out _ ?_⟩); clear Z W X Y; simp); (try refine .n ?_)
  refine Jt.f hK ?_
  clear hK K
  with_reducible repeat first | refine Jt.i ?_ | refine .g (by decide) ?_
  refine AW.rc 20 fun K hK => ?_
  repeat (with_reducible refine .s fun X Y Z W => ?_; simp; (first | refine Z.out _ _ ?_ | refine W.out _ ?_ | refine ⟨by kernel_rfl, W.out _ ?_⟩); clear Z W X Y; simp); (try refine .n ?_)
  refine Jt.f hK ?_
  clear hK K
  with_reducible repeat first | refine Jt.i ?_ | refine .g (by decide) ?_
  refine AW.loop (X := { k : Nat // k ≤ l.length }) (fun x => thA l says x.1) (fun x => l.length - x.1) ⟨0, by simp⟩ (view_of (vw [] [(900, []), (901, [])] [] [(900, none)]) (by simp [thA, allT_nil, rd_nil])) (fun x => ?_)
  obtain ⟨k, hk⟩ := x
  refine AW.at_ (fun L hL => ?_)
  simp [thA] at hL
  subst hL
  with_reducible repeat first | refine Jt.i ?_ | refine .g (by decide) ?_
  by_cases hgo : k < l.length
  · have w5 : IntKind.i64.wrap ((k : Int) + 1) = ((k + 1 : Nat) : Int) := by rw [i64_ok _ (by omega) (by omega)]; omega
    obtain ⟨t, ht⟩ : ∃ t, l[k] = t := ⟨_, rfl⟩
    have hts := hs t (by rw [← ht]; exact List.getElem_mem hgo)
    have FA := allT_s hgo
    rw [ht] at FA
    have LA := Nat.le_trans (allT_len (l.take k)) (pairsN_le l k)
    have cu1 := runion_ct (allT (l.take k)) t.1 (by omega) (by omega)
    have LB := unionL_len (allT (l.take k)) t.1
    have cu2 := runion_ct (unionL (allT (l.take k)) t.1) t.2 (by omega) (by omega)
    rw [← FA] at cu2
    generalize unionL (allT (l.take k)) t.1 = B at *
    obtain ⟨C, hC⟩ : ∃ C, allT (l.take (k + 1)) = C := ⟨_, rfl⟩
    rw [hC] at cu2
    clear FA
    generalize allT (l.take k) = A at *
    refine AW.rc 100 fun K hK => ?_
    repeat (with_reducible refine .s fun X Y Z W => ?_; simp [hgo]; (first | refine Z.out _ _ ?_ | refine W.out _ ?_ | refine ⟨by kernel_rfl, W.out _ ?_⟩); clear Z W X Y; simp [hgo]); (try refine .n ?_)
    refine Jt.f hK ?_
    clear hK K
    with_reducible repeat first | refine Jt.i ?_ | refine .g (by decide) ?_
    refine AW.ct rfl ?_
    with_reducible repeat first | refine Jt.i ?_ | refine .g (by decide) ?_
    refine AW.rc 110 fun K hK => ?_
    repeat (with_reducible refine .s fun X Y Z W => ?_; simp [hgo]; (first | refine Z.out _ _ ?_ | refine W.out _ ?_ | refine ⟨by kernel_rfl, W.out _ ?_⟩); clear Z W X Y; simp [hgo]); (try refine .n ?_)
    refine .s fun K1 K2 hK1 hK2 => ?_
    simp [hgo]
    refine ⟨k, [RD t.1, RD t.2], rfl, by simp [hgo, ht], ?_⟩
    refine hK1.out _ _ ?_
    clear hK1 hK2 K1 K2
    (try simp [hgo])
    repeat (with_reducible refine .s fun X Y Z W => ?_; simp [hgo]; (first | refine Z.out _ _ ?_ | refine W.out _ ?_ | refine ⟨by kernel_rfl, W.out _ ?_⟩); clear Z W X Y; simp [hgo]); (try refine .n ?_)
    refine Jt.f hK ?_
    clear hK K
    with_reducible repeat first | refine Jt.i ?_ | refine .g (by decide) ?_
    refine AW.rc 120 fun K hK => ?_
    repeat (with_reducible refine .s fun X Y Z W => ?_; simp; (first | refine Z.out _ _ ?_ | refine W.out _ ?_ | refine ⟨by kernel_rfl, W.out _ ?_⟩); clear Z W X Y; simp); (try refine .n ?_)
    refine .s fun K1 K2 hK1 hK2 => ?_
    simp
    refine orr_l ⟨by kernel_rfl, .inr (.inl ⟨_, _, _, cu1, ?_⟩)⟩
    (try simp)
    refine hK1.out _ _ ?_
    clear hK1 hK2 K1 K2
    (try simp)
    repeat (with_reducible refine .s fun X Y Z W => ?_; simp; (first | refine Z.out _ _ ?_ | refine W.out _ ?_ | refine ⟨by kernel_rfl, W.out _ ?_⟩); clear Z W X Y; simp); (try refine .n ?_)
    refine .s fun K1 K2 hK1 hK2 => ?_
    simp
    refine orr_l ⟨by kernel_rfl, .inr (.inl ⟨_, _, _, cu2, ?_⟩)⟩
    (try simp)
    refine hK1.out _ _ ?_
    clear hK1 hK2 K1 K2
    (try simp)
    repeat (with_reducible refine .s fun X Y Z W => ?_; simp; (first | refine Z.out _ _ ?_ | refine W.out _ ?_ | refine ⟨by kernel_rfl, W.out _ ?_⟩); clear Z W X Y; simp); (try refine .n ?_)
    refine ⟨chk_drawn (by kernel_rfl) (by kernel_rfl), hK.out _ ?_⟩
    clear hK K
    with_reducible repeat first | refine Jt.i ?_ | refine .g (by decide) ?_
    refine AW.rc 140 fun K hK => ?_
    repeat (with_reducible refine .s fun X Y Z W => ?_; simp [w5]; (first | refine Z.out _ _ ?_ | refine W.out _ ?_ | refine ⟨by kernel_rfl, W.out _ ?_⟩); clear Z W X Y; simp [w5]); (try refine .n ?_)
    refine Jt.f hK ?_
    clear hK K
    with_reducible repeat first | refine Jt.i ?_ | refine .g (by decide) ?_
    exact NX.round ⟨k + 1, hgo⟩ (by show l.length - (k + 1) < l.length - k; omega) (view_of (vw [] [(900, [126]), (901, [100126])] [] [(900, some 126)]) (by simp [thA, hC]))
  · obtain rfl : k = l.length := by omega
    rw [List.take_length]
    have LA := allT_len l
    generalize allT l = A at *
    refine AW.rc 200 fun K hK => ?_
    repeat (with_reducible refine .s fun X Y Z W => ?_; simp; (first | refine Z.out _ _ ?_ | refine W.out _ ?_ | refine ⟨by kernel_rfl, W.out _ ?_⟩); clear Z W X Y; simp); (try refine .n ?_)
    refine Jt.f hK ?_
    clear hK K
    with_reducible repeat first | refine Jt.i ?_ | refine .g (by decide) ?_
    refine AW.cf rfl ?_
    with_reducible repeat first | refine Jt.i ?_ | refine .g (by decide) ?_
    refine AW.rc 210 fun K hK => ?_
    repeat (with_reducible refine .s fun X Y Z W => ?_; simp; (first | refine Z.out _ _ ?_ | refine W.out _ ?_ | refine ⟨by kernel_rfl, W.out _ ?_⟩); clear Z W X Y; simp); (try refine .n ?_)
    refine Jt.f hK ?_
    clear hK K
    with_reducible repeat first | refine Jt.i ?_ | refine .g (by decide) ?_
    refine AW.rc 220 fun K hK => ?_
    repeat (with_reducible refine .s fun X Y Z W => ?_; simp; (first | refine Z.out _ _ ?_ | refine W.out _ ?_ | refine ⟨by kernel_rfl, W.out _ ?_⟩); clear Z W X Y; simp); (try refine .n ?_)
    refine Jt.f hK ?_
    clear hK K
    with_reducible repeat first | refine Jt.i ?_ | refine .g (by decide) ?_
    refine AW.loop (X := { k : Nat // k ≤ A.length }) (fun x => thB l says A x.1) (fun x => A.length - x.1) ⟨0, by simp⟩ (view_of (vw [] [(902, []), (903, [])] [] [(902, none)]) (by simp [thB])) (fun x => ?_)
    obtain ⟨k, hk⟩ := x
    refine AW.at_ (fun L hL => ?_)
    simp [thB] at hL
    subst hL
    with_reducible repeat first | refine Jt.i ?_ | refine .g (by decide) ?_
    by_cases hgo : k < A.length
    · have w5 : IntKind.i64.wrap ((k : Int) + 1) = ((k + 1 : Nat) : Int) := by rw [i64_ok _ (by omega) (by omega)]; omega
      obtain ⟨p, hp⟩ : ∃ p, A[k] = p := ⟨_, rfl⟩
      have cs := says_ct l p
      have FT := filter_take_snoc (thF l says) hgo
      rw [hp] at FT
      have FL : ((A.take k).filter (thF l says)).length ≤ 1000000 := by
        have := List.length_filter_le (thF l says) (A.take k)
        rw [List.length_take] at this
        omega
      generalize (A.take k).filter (thF l says) = R at *
      by_cases hq : saysL l p = says
      · have hqf : thF l says p = true := by unfold thF; exact decide_eq_true hq
        rw [if_pos hqf] at FT
        generalize saysL l p = q at *
        subst hq
        refine AW.rc 300 fun K hK => ?_
        repeat (with_reducible refine .s fun X Y Z W => ?_; simp [hgo]; (first | refine Z.out _ _ ?_ | refine W.out _ ?_ | refine ⟨by kernel_rfl, W.out _ ?_⟩); clear Z W X Y; simp [hgo]); (try refine .n ?_)
        refine Jt.f hK ?_
        clear hK K
        with_reducible repeat first | refine Jt.i ?_ | refine .g (by decide) ?_
        refine AW.ct rfl ?_
        with_reducible repeat first | refine Jt.i ?_ | refine .g (by decide) ?_
        refine AW.rc 310 fun K hK => ?_
        repeat (with_reducible refine .s fun X Y Z W => ?_; simp [hgo]; (first | refine Z.out _ _ ?_ | refine W.out _ ?_ | refine ⟨by kernel_rfl, W.out _ ?_⟩); clear Z W X Y; simp [hgo]); (try refine .n ?_)
        refine .s fun K1 K2 hK1 hK2 => ?_
        simp [hgo]
        refine ⟨k, PD p, rfl, by simp [hgo, hp], ?_⟩
        refine hK1.out _ _ ?_
        clear hK1 hK2 K1 K2
        (try simp [hgo])
        repeat (with_reducible refine .s fun X Y Z W => ?_; simp [hgo]; (first | refine Z.out _ _ ?_ | refine W.out _ ?_ | refine ⟨by kernel_rfl, W.out _ ?_⟩); clear Z W X Y; simp [hgo]); (try refine .n ?_)
        refine Jt.f hK ?_
        clear hK K
        with_reducible repeat first | refine Jt.i ?_ | refine .g (by decide) ?_
        refine AW.rc 320 fun K hK => ?_
        repeat (with_reducible refine .s fun X Y Z W => ?_; simp; (first | refine Z.out _ _ ?_ | refine W.out _ ?_ | refine ⟨by kernel_rfl, W.out _ ?_⟩); clear Z W X Y; simp); (try refine .n ?_)
        refine .s fun K1 K2 hK1 hK2 => ?_
        simp
        refine orr_l ⟨by kernel_rfl, .inl ⟨_, cs, ?_⟩⟩
        (try simp)
        refine hK1.out _ _ ?_
        clear hK1 hK2 K1 K2
        (try simp)
        repeat (with_reducible refine .s fun X Y Z W => ?_; simp; (first | refine Z.out _ _ ?_ | refine W.out _ ?_ | refine ⟨by kernel_rfl, W.out _ ?_⟩); clear Z W X Y; simp); (try refine .n ?_)
        refine Jt.f hK ?_
        clear hK K
        with_reducible repeat first | refine Jt.i ?_ | refine .g (by decide) ?_
        refine AW.ct rfl ?_
        with_reducible repeat first | refine Jt.i ?_ | refine .g (by decide) ?_
        refine AW.rc 330 fun K hK => ?_
        repeat (with_reducible refine .s fun X Y Z W => ?_; simp; (first | refine Z.out _ _ ?_ | refine W.out _ ?_ | refine ⟨by kernel_rfl, W.out _ ?_⟩); clear Z W X Y; simp); (try refine .n ?_)
        refine .s fun K1 K2 hK1 hK2 => ?_
        simp
        refine ya_mk (by (simp [maxI]; omega)) ?_
        (try simp)
        refine hK1.out _ _ ?_
        clear hK1 hK2 K1 K2
        (try simp)
        repeat (with_reducible refine .s fun X Y Z W => ?_; simp; (first | refine Z.out _ _ ?_ | refine W.out _ ?_ | refine ⟨by kernel_rfl, W.out _ ?_⟩); clear Z W X Y; simp); (try refine .n ?_)
        refine Jt.f hK ?_
        clear hK K
        with_reducible repeat first | refine Jt.i ?_ | refine .g (by decide) ?_
        refine AW.rc 340 fun K hK => ?_
        repeat (with_reducible refine .s fun X Y Z W => ?_; simp [w5]; (first | refine Z.out _ _ ?_ | refine W.out _ ?_ | refine ⟨by kernel_rfl, W.out _ ?_⟩); clear Z W X Y; simp [w5]); (try refine .n ?_)
        refine Jt.f hK ?_
        clear hK K
        with_reducible repeat first | refine Jt.i ?_ | refine .g (by decide) ?_
        exact NX.round ⟨k + 1, hgo⟩ (by show A.length - (k + 1) < A.length - k; omega) (view_of (vw [] [(902, [333]), (903, [903, 332])] [] [(902, some 333)]) (by simp [thB, FT]))
      · have hqf : thF l says p = false := by unfold thF; exact decide_eq_false hq
        rw [if_neg (by rw [hqf]; simp), List.append_nil] at FT
        generalize saysL l p = q at *
        refine AW.rc 300 fun K hK => ?_
        repeat (with_reducible refine .s fun X Y Z W => ?_; simp [hgo]; (first | refine Z.out _ _ ?_ | refine W.out _ ?_ | refine ⟨by kernel_rfl, W.out _ ?_⟩); clear Z W X Y; simp [hgo]); (try refine .n ?_)
        refine Jt.f hK ?_
        clear hK K
        with_reducible repeat first | refine Jt.i ?_ | refine .g (by decide) ?_
        refine AW.ct rfl ?_
        with_reducible repeat first | refine Jt.i ?_ | refine .g (by decide) ?_
        refine AW.rc 310 fun K hK => ?_
        repeat (with_reducible refine .s fun X Y Z W => ?_; simp [hgo]; (first | refine Z.out _ _ ?_ | refine W.out _ ?_ | refine ⟨by kernel_rfl, W.out _ ?_⟩); clear Z W X Y; simp [hgo]); (try refine .n ?_)
        refine .s fun K1 K2 hK1 hK2 => ?_
        simp [hgo]
        refine ⟨k, PD p, rfl, by simp [hgo, hp], ?_⟩
        refine hK1.out _ _ ?_
        clear hK1 hK2 K1 K2
        (try simp [hgo])
        repeat (with_reducible refine .s fun X Y Z W => ?_; simp [hgo]; (first | refine Z.out _ _ ?_ | refine W.out _ ?_ | refine ⟨by kernel_rfl, W.out _ ?_⟩); clear Z W X Y; simp [hgo]); (try refine .n ?_)
        refine Jt.f hK ?_
        clear hK K
        with_reducible repeat first | refine Jt.i ?_ | refine .g (by decide) ?_
        refine AW.rc 320 fun K hK => ?_
        repeat (with_reducible refine .s fun X Y Z W => ?_; simp [hq]; (first | refine Z.out _ _ ?_ | refine W.out _ ?_ | refine ⟨by kernel_rfl, W.out _ ?_⟩); clear Z W X Y; simp [hq]); (try refine .n ?_)
        refine .s fun K1 K2 hK1 hK2 => ?_
        simp [hq]
        refine orr_l ⟨by kernel_rfl, .inl ⟨_, cs, ?_⟩⟩
        (try simp [hq])
        refine hK1.out _ _ ?_
        clear hK1 hK2 K1 K2
        (try simp [hq])
        repeat (with_reducible refine .s fun X Y Z W => ?_; simp [hq]; (first | refine Z.out _ _ ?_ | refine W.out _ ?_ | refine ⟨by kernel_rfl, W.out _ ?_⟩); clear Z W X Y; simp [hq]); (try refine .n ?_)
        refine Jt.f hK ?_
        clear hK K
        with_reducible repeat first | refine Jt.i ?_ | refine .g (by decide) ?_
        refine AW.cf rfl ?_
        with_reducible repeat first | refine Jt.i ?_ | refine .g (by decide) ?_
        refine AW.rc 340 fun K hK => ?_
        repeat (with_reducible refine .s fun X Y Z W => ?_; simp [w5]; (first | refine Z.out _ _ ?_ | refine W.out _ ?_ | refine ⟨by kernel_rfl, W.out _ ?_⟩); clear Z W X Y; simp [w5]); (try refine .n ?_)
        refine Jt.f hK ?_
        clear hK K
        with_reducible repeat first | refine Jt.i ?_ | refine .g (by decide) ?_
        exact NX.round ⟨k + 1, hgo⟩ (by show A.length - (k + 1) < A.length - k; omega) (view_of (vw [] [] [] []) (by simp [thB, FT]))
    · obtain rfl : k = A.length := by omega
      rw [List.take_length]
      generalize A.filter (thF l says) = R
      refine AW.rc 400 fun K hK => ?_
      repeat (with_reducible refine .s fun X Y Z W => ?_; simp; (first | refine Z.out _ _ ?_ | refine W.out _ ?_ | refine ⟨by kernel_rfl, W.out _ ?_⟩); clear Z W X Y; simp); (try refine .n ?_)
      refine Jt.f hK ?_
      clear hK K
      with_reducible repeat first | refine Jt.i ?_ | refine .g (by decide) ?_
      refine AW.cf rfl ?_
      with_reducible repeat first | refine Jt.i ?_ | refine .g (by decide) ?_
      refine AW.rc 410 fun K hK => ?_
      repeat (with_reducible refine .s fun X Y Z W => ?_; simp; (first | refine Z.out _ _ ?_ | refine W.out _ ?_ | refine ⟨by kernel_rfl, W.out _ ?_⟩); clear Z W X Y; simp); (try refine .n ?_)
      refine Jt.f hK ?_
      clear hK K
      with_reducible repeat first | refine Jt.i ?_ | refine .g (by decide) ?_
      exact nx_reto (t := 4) (n := 902) (y := 902) (zs := [903]) (rr := [(.zn 902, .zn .live), (.zn 903, .zn .live)]) (.inr rfl) rfl (by kernel_rfl) (by kernel_rfl) (by kernel_rfl) (by simp) rfl
theorem those1_ct (l : List Tr) (hl : l.length ≤ 1000000) (hs : ∀ t ∈ l, t.1.length ≤ 100000 ∧ t.2.length ≤ 100000) (hn : pairsN l ≤ 400000) : Ct Try.prog 110 [.c (TsD l), dI 1] (some 52) (.one (.c (RD (whichL l 1)))) := by
  have := those11_ct l 1 hl hs hn
  rw [show (allT l).filter (thF l 1) = whichL l 1 from those_one l] at this
  exact this
theorem those2_ct (l : List Tr) (hl : l.length ≤ 1000000) (hs : ∀ t ∈ l, t.1.length ≤ 100000 ∧ t.2.length ≤ 100000) (hn : pairsN l ≤ 400000) : Ct Try.prog 110 [.c (TsD l), dI 2] (some 52) (.one (.c (RD (whichL l 0)))) := by
  have := those11_ct l 2 hl hs hn
  rw [show (allT l).filter (thF l 2) = whichL l 0 from those_two l] at this
  exact this
set_option maxHeartbeats 4000000 in
theorem rcontent11_ct (l : List Tr) (hl : l.length ≤ 1000000) (hs : ∀ t ∈ l, t.1.length ≤ 100000 ∧ t.2.length ≤ 100000) (hn : pairsN l ≤ 400000) : Ct Try.prog 46 [.c (TsD l)] (some 52) (.one (.c (RD (whichL l 1)))) := by
  have c1 := those1_ct l hl hs hn
  generalize whichL l 1 = A at *
  refine ct_intro Try.func46 rfl Try.ntmps46 (by simp) (fun W0 Z => ?_)
  with_reducible repeat first | refine Jt.i ?_ | refine .g (by decide) ?_
  refine AW.at_ (fun L hL => ?_)
  simp at hL
  subst hL
  refine AW.rc 1 fun K hK => ?_
  repeat (with_reducible refine .s fun X Y Z W => ?_; simp; (first | refine Z.out _ _ ?_ | refine W.out _ ?_ | refine ⟨by kernel_rfl, W.out _ ?_⟩); clear Z W X Y; simp); (try refine .n ?_)
  refine Jt.f hK ?_
  clear hK K
  with_reducible repeat first | refine Jt.i ?_ | refine .g (by decide) ?_
  refine AW.rc 10 fun K hK => ?_
  repeat (with_reducible refine .s fun X Y Z W => ?_; simp; (first | refine Z.out _ _ ?_ | refine W.out _ ?_ | refine ⟨by kernel_rfl, W.out _ ?_⟩); clear Z W X Y; simp); (try refine .n ?_)
  refine .s fun K1 K2 hK1 hK2 => ?_
  simp
  refine orr_l ⟨by kernel_rfl, .inr (.inl ⟨_, _, _, c1, ?_⟩)⟩
  (try simp)
  refine hK1.out _ _ ?_
  clear hK1 hK2 K1 K2
  (try simp)
  repeat (with_reducible refine .s fun X Y Z W => ?_; simp; (first | refine Z.out _ _ ?_ | refine W.out _ ?_ | refine ⟨by kernel_rfl, W.out _ ?_⟩); clear Z W X Y; simp); (try refine .n ?_)
  refine Jt.f hK ?_
  clear hK K
  with_reducible repeat first | refine Jt.i ?_ | refine .g (by decide) ?_
  exact nx_reto (t := 2) (n := 11) (y := 11) (zs := [100011]) (rr := [(.zn 11, .zn .live), (.zn 100011, .zn .live)]) (.inr rfl) rfl (by kernel_rfl) (by kernel_rfl) (by kernel_rfl) (by simp) rfl
set_option maxHeartbeats 4000000 in
theorem rjoined11_ct (l : List Tr) (ob : Bool) (hl : l.length ≤ 1000000) (hs : ∀ t ∈ l, t.1.length ≤ 100000 ∧ t.2.length ≤ 100000) (hn : pairsN l ≤ 400000) : Ct Try.prog 91 [.c (TsD l), dB ob] none (.one (TD (jnL l ob))) := by
  have c1 := those1_ct l hl hs hn
  have c2 := those2_ct l hl hs hn
  unfold jnL
  generalize whichL l 1 = A at *
  generalize whichL l 0 = B at *
  refine ct_intro Try.func91 rfl Try.ntmps91 (by simp) (fun W0 Z => ?_)
  with_reducible repeat first | refine Jt.i ?_ | refine .g (by decide) ?_
  refine AW.at_ (fun L hL => ?_)
  simp at hL
  subst hL
  refine AW.rc 1 fun K hK => ?_
  repeat (with_reducible refine .s fun X Y Z W => ?_; simp; (first | refine Z.out _ _ ?_ | refine W.out _ ?_ | refine ⟨by kernel_rfl, W.out _ ?_⟩); clear Z W X Y; simp); (try refine .n ?_)
  refine Jt.f hK ?_
  clear hK K
  with_reducible repeat first | refine Jt.i ?_ | refine .g (by decide) ?_
  refine AW.rc 10 fun K hK => ?_
  repeat (with_reducible refine .s fun X Y Z W => ?_; simp; (first | refine Z.out _ _ ?_ | refine W.out _ ?_ | refine ⟨by kernel_rfl, W.out _ ?_⟩); clear Z W X Y; simp); (try refine .n ?_)
  refine .s fun K1 K2 hK1 hK2 => ?_
  simp
  refine orr_l ⟨by kernel_rfl, .inr (.inl ⟨_, _, _, c1, ?_⟩)⟩
  (try simp)
  refine hK1.out _ _ ?_
  clear hK1 hK2 K1 K2
  (try simp)
  repeat (with_reducible refine .s fun X Y Z W => ?_; simp; (first | refine Z.out _ _ ?_ | refine W.out _ ?_ | refine ⟨by kernel_rfl, W.out _ ?_⟩); clear Z W X Y; simp); (try refine .n ?_)
  refine Jt.f hK ?_
  clear hK K
  with_reducible repeat first | refine Jt.i ?_ | refine .g (by decide) ?_
  cases ob with
  | true =>
    refine AW.rc 30 fun K hK => ?_
    repeat (with_reducible refine .s fun X Y Z W => ?_; simp; (first | refine Z.out _ _ ?_ | refine W.out _ ?_ | refine ⟨by kernel_rfl, W.out _ ?_⟩); clear Z W X Y; simp); (try refine .n ?_)
    refine Jt.f hK ?_
    clear hK K
    with_reducible repeat first | refine Jt.i ?_ | refine .g (by decide) ?_
    refine AW.cf rfl ?_
    with_reducible repeat first | refine Jt.i ?_ | refine .g (by decide) ?_
    refine AW.rc 50 fun K hK => ?_
    repeat (with_reducible refine .s fun X Y Z W => ?_; simp; (first | refine Z.out _ _ ?_ | refine W.out _ ?_ | refine ⟨by kernel_rfl, W.out _ ?_⟩); clear Z W X Y; simp); (try refine .n ?_)
    refine Jt.f hK ?_
    clear hK K
    with_reducible repeat first | refine Jt.i ?_ | refine .g (by decide) ?_
    refine nx_ret (T := ty) (rs := [.cell 4 24]) (zs := [11, 100011]) (ds := [TD (A, [])]) (rr := [(.zn 11, .zn .live), (.zn 100011, .zn .live)]) (.inr rfl) rfl (by kernel_rfl) (by kernel_rfl) (by simp) rfl
  | false =>
    refine AW.rc 30 fun K hK => ?_
    repeat (with_reducible refine .s fun X Y Z W => ?_; simp; (first | refine Z.out _ _ ?_ | refine W.out _ ?_ | refine ⟨by kernel_rfl, W.out _ ?_⟩); clear Z W X Y; simp); (try refine .n ?_)
    refine Jt.f hK ?_
    clear hK K
    with_reducible repeat first | refine Jt.i ?_ | refine .g (by decide) ?_
    refine AW.ct rfl ?_
    with_reducible repeat first | refine Jt.i ?_ | refine .g (by decide) ?_
    refine AW.rc 40 fun K hK => ?_
    repeat (with_reducible refine .s fun X Y Z W => ?_; simp; (first | refine Z.out _ _ ?_ | refine W.out _ ?_ | refine ⟨by kernel_rfl, W.out _ ?_⟩); clear Z W X Y; simp); (try refine .n ?_)
    refine .s fun K1 K2 hK1 hK2 => ?_
    simp
    refine orr_l ⟨by kernel_rfl, .inr (.inl ⟨_, _, _, c2, ?_⟩)⟩
    (try simp)
    refine hK1.out _ _ ?_
    clear hK1 hK2 K1 K2
    (try simp)
    repeat (with_reducible refine .s fun X Y Z W => ?_; simp; (first | refine Z.out _ _ ?_ | refine W.out _ ?_ | refine ⟨by kernel_rfl, W.out _ ?_⟩); clear Z W X Y; simp); (try refine .n ?_)
    refine Jt.f hK ?_
    clear hK K
    with_reducible repeat first | refine Jt.i ?_ | refine .g (by decide) ?_
    refine AW.rc 50 fun K hK => ?_
    repeat (with_reducible refine .s fun X Y Z W => ?_; simp; (first | refine Z.out _ _ ?_ | refine W.out _ ?_ | refine ⟨by kernel_rfl, W.out _ ?_⟩); clear Z W X Y; simp); (try refine .n ?_)
    refine Jt.f hK ?_
    clear hK K
    with_reducible repeat first | refine Jt.i ?_ | refine .g (by decide) ?_
    refine nx_ret (T := ty) (rs := [.cell 4 24]) (zs := [11, 100011, 41, 100041]) (ds := [TD (A, B)]) (rr := [(.zn 11, .zn .live), (.zn 100011, .zn .live), (.zn 41, .zn .live), (.zn 100041, .zn .live)]) (.inr rfl) rfl (by kernel_rfl) (by kernel_rfl) (by simp) rfl
end Go.Proofs.Ytlkdkhmdmgchbaa
