/- The second logic: chapter 11: Has, the document's answers, wakes. -/
import Derived.Test.YtlkdkhmdmgchbaaTB
import Derived.Test.YtlkdkhmdmgchbaaJR
namespace Go.Proofs.Ytlkdkhmdmgchbaa
set_option linter.unusedSimpArgs false
set_option linter.unusedVariables false
open Go.RowKit
/-- a truth that is false, and something that holds. -/
def factB (q : Prop) : SP where
  p := fun _ _ v => v = .bool false ∧ q
  evo := fun _ _ _ _ _ h _ => h
  one := by
    rintro Z w v ⟨rfl, _⟩
    rfl
theorem AS.tellC {C : Cx} {L : Row} {a : Act} {w : World} (n k : Nat) {zs : List Nat} {d d' : D} (h : AS C (lk L) a w) (e : lk L (.cell n k) = .av (.c zs d)) (hd : ∀ Z w v, RepD Z w v d → RepD Z w v d') : AS C (lk ((.cell n k, .av (.c zs d')) :: L)) a w := by
  obtain ⟨G, hG⟩ := h
  obtain ⟨h0, v, h1, hf, h2⟩ := hG.cell n k _ e
  refine ⟨G, hG.retell (fun key _ hk => ?_) (fun t' y hy => ?_) (fun n' k' y hy => ?_)⟩
  · simp only [lk]
    rw [if_neg (fun q => hk n k q.symm)]
  · simp only [lk] at hy
    rw [if_neg (by simp)] at hy
    exact hG.tmp t' y hy
  · simp only [lk, Key.cell.injEq] at hy
    by_cases ht : n = n' ∧ k = k'
    · obtain ⟨rfl, rfl⟩ := ht
      rw [if_pos ⟨rfl, rfl⟩] at hy
      cases hy
      exact ⟨h0, v, h1, hf, ⟨h2.ok, fun hl => hd _ _ _ (h2.rep hl)⟩⟩
    · rw [if_neg ht] at hy
      exact hG.cell n' k' y hy
theorem AW.scope {P : Program} {C : Cx} {c : Code} {Q : Exit → Act → World → Prop} {L : Row} (h : AW P C none c (Exit.noGoto Q) L) : AW P C none (.scope c) Q L := fun a w hA => wpIn_wide.2 (wp_scope_straight (wpIn_wide.1 (h a w hA)))
theorem NX.sN {C : Cx} {Q : Exit → Act → World → Prop} {L : Row} (h : NX C Q .normal L) : NX C (Exit.noGoto Q) .normal L := h
theorem NX.sR {C : Cx} {Q : Exit → Act → World → Prop} {L : Row} (h : NX C Q .ret L) : NX C (Exit.noGoto Q) .ret L := h
/-- the first tiers told say nothing of it. -/
def noM (l : List Tr) (p : Pr) (k : Nat) : Prop := ∀ s ∈ l.reverse.take k, p ∉ s.1 ∧ p ∉ s.2
theorem noM_s {l : List Tr} {p : Pr} {k : Nat} {t : Tr} (h : noM l p k) (hk : l.reverse[k]? = some t) (hn : p ∉ t.1 ∧ p ∉ t.2) : noM l p (k + 1) := fun s hs => by
  obtain ⟨hlt, e⟩ := List.getElem?_eq_some_iff.1 hk
  rw [List.take_succ_eq_append_getElem hlt, List.mem_append, e, List.mem_singleton] at hs
  rcases hs with hs | rfl
  · exact h s hs
  · exact hn
theorem fold_none : ∀ (L : List Tr) (p : Pr) (f : Pr → Option Int), (∀ s ∈ L, p ∉ s.1 ∧ p ∉ s.2) → L.foldl sayT f p = f p
  | [], p, f, _ => rfl
  | t :: L, p, f, h => by
    rw [List.foldl_cons, fold_none L p _ (fun s hs => h s (List.mem_cons_of_mem _ hs)), sayT_is]
    obtain ⟨h1, h2⟩ := h t List.mem_cons_self
    by_cases hf : f p = none <;> simp [hf, h1, h2]
theorem said_at {l : List Tr} {p : Pr} {k : Nat} {t : Tr} (h : noM l p k) (hk : l.reverse[k]? = some t) (hm : p ∈ t.1 ∨ p ∈ t.2) : saidF l p = if p ∈ t.2 then some 0 else some 1 := by
  unfold saidF noM at *
  generalize l.reverse = L at *
  obtain ⟨hlt, e⟩ := List.getElem?_eq_some_iff.1 hk
  have e2 : L = L.take k ++ t :: L.drop (k + 1) := by rw [← e, List.getElem_cons_drop, List.take_append_drop]
  rw [e2, List.foldl_append, List.foldl_cons, foldT_is, sayT_is, fold_none _ p _ h]
  simp only [if_true]
  by_cases h2 : p ∈ t.2
  · simp [h2]
  · have h3 : p ∈ t.1 := by rcases hm with h | h; exact h; exact absurd h h2
    simp [h2, h3]
theorem said_no {l : List Tr} {p : Pr} (h : noM l p l.length) : saidF l p = none := by
  unfold saidF
  refine fold_none _ p _ fun s hs => h s ?_
  rw [List.take_of_length_le (by simp)]
  exact hs
attribute [local simp ↓] gav_bool gav_undef arun_nil ob_some kva_av kfree_free khfree_free khown_own klive_live knm_false chk_true ya_true gsel_tt gsel_ff gsel_tf gsel_ft vb_bool vi_int vstr_string avps_ptr avps_seg avp_ptr avagg_agg avtup_tup avb_bool avown_own shs_struct shsa_struct shsa_arr sharr_arr shl_slice shla_slice shla_arr shls_slice shls_str shi_int bc_true bc_false hd1_cons opc_some opc_none opn_some opn_none unc_not unc_neg gd_none gd_some as_move as_assign as_pick as_bin as_un as_conv as_load as_faddr as_field as_extract as_iaddr as_slice as_alloc as_box as_store as_build as_rows as_call as_append as_lookup as_mapUpdate as_makeMap as_range as_next as_entry as_index as_fn as_len as_min as_max stMove stPick stBin stUn stConv stLoad stFaddr stField stExtract stIaddr stSlice stAlloc stBox stStore stBuild stIndex stRows stCall stAppend stFn stLen stMin stMax opd_tmp opd_const opd_func rawL_nil rawL_cons raw_c raw_st raw_a opr_e zr_nil zr_cons lvd_live hod_own obd_some obd_none kvd_av chd_true vid_int lk_cons lk_nil ins_nil ins_cons cells_zero cells_succ spread1_c spread1_own spread1_ptr spread1_fn spread1_seg spreadL_nil spreadL_cons spread_agg spread_c spread_own spread_seg spread_ptr spread_fn ex_zero ex_succ ops_e opb_none opb_int spreadD_agg spreadD_c spreadD_own spreadD_seg fillO_nil fillO_cons argsOf_nil argsOf_cons dvOf_c dvOf_seg dvOf_own dvOf_agg zrL_nil zrL_cons hdd_c hdd_seg hdd_own clz_e clv_raw clv_f callD_e dst0_n dst0_nil dst0_own goneH_e capc_ptr capc_seg capc_c capN_nil capN_cons capD_nil capD_cons deadZ_nil deadZ_cons
attribute [local simp] dok_some dok_none dflt_tmp dflt_vt dflt_cell dflt_zn dflt_nm dflt_hd dflt_df puts_nil puts_cons wr_some wr_none cst_agg cst_int cst_bool cst_string cst_slice cst_tuple cst_nilFunc cst_pointer cst_func bin_add bin_sub bin_mul bin_quo bin_rem bin_eql bin_neq bin_lss bin_leq bin_gtr bin_geq bin_bool bin_aggs binT_bool binT_aggs shbd_bool eqb_eql eqb_neq bin_slice bin_str_eql bin_str_neq bin_str_lss bin_str_add nz_v nz_n nz_s nz_p nz_f nz_st atz_v atz_n atz_s atz_p atz_f atz_st atz_agg atR_one atR_tup crow_nil crow_cons slc_c slc_n slc_own slc_nil raws setR placesT_nil placesT_cons zc chunk zsAll ocD_v ocD_n ocD_s ocD_p ocD_f ocD_st nrm_v nrm_n nrm_s nrm_p nrm_f nrm_st isV_one isV_tup isV_c isV_agg isV_v isV_n isV_s isV_p isV_f isV_st argRows Sh.agg zds_nil zds_e zds_v zds_s vcells_agg vcells_int vcells_bool vcells_string vcells_slice vcells_pointer toList_lit map_nilL map_consL nzr_e rowsOc_nil rowsOc_cons rowsOc_RD nzr_RD foks_nil foks_cons fok_tmp fok_vt fok_cell fok_nm fok_zn fok_hd fok_df Fv_c Fv_seg Fv_tup Fv_agg Fv_ptr Fv_ptrs Fv_fn Fv_fnd Fv_own Fv_ownd Fv_nown Fv_vown FvL_nil FvL_cons kvp_av hdp_some subz frz Uz Nm Uh vw_nb vw_zo vw_zf vw_hb tb_nil tb_cons fzc_nil fzc_cons fzcaps_nil fzcaps_cons ty2 ty3 ty4 ty5 ty6 ty7 ty8 ty9 ty10 ty11 ty12 ty13 ty14 ty15 ty16 ty17 ty18 ty19 ty20 ty21 ty22 ty23 ty24 ty25 ty26 ty27 ty30 ty40 ty48 ty50 ty51 ty52 ty55 ty57 ty62 ty63 ty85 ty94 ty101 ty121 ty122 ty123 ty124 ty125 ty126 ty128 ty148 ty149 ty151 ty164 ty165 ty179 ty182 ty196 ty203 ty205 ty209 ty211 ty215 ty216 ty217 ty218 ty219 ty220 ty221 ty223 ty224 ty225 ty226 ty227 Value.oneCell'
set_option maxRecDepth 100000
set_option maxHeartbeats 4000000 in
theorem thas_no (l : List Tr) (p : Pr) (hs : ∀ t ∈ l, t.1.length + t.2.length ≤ 1048576) (h : tsR l = false) : Ct Try.prog 95 [.c (TsD l), PV p] none (.one (dB false)) := by
  have ck := tcheckA_ct l hs
  rw [h] at ck
  refine ct_intro Try.func95 rfl Try.ntmps95 (by simp) (fun W0 Z => ?_)
  with_reducible repeat first | refine Jt.i ?_ | refine .g (by decide) ?_
  refine AW.at_ (fun L hL => ?_)
  simp at hL
  subst hL
  refine AW.rc 1 fun K hK => ?_
  repeat (with_reducible refine .s fun X Y Z W => ?_; simp; (first | refine Z.out _ _ ?_ | refine W.out _ ?_ | refine ⟨by kernel_rfl, W.out _ ?_⟩); clear Z W X Y; simp); (try refine .n ?_)
  refine Jt.f hK ?_
  clear hK K
  with_reducible repeat first | refine Jt.i ?_ | refine .g (by decide) ?_
  refine AW.scope ?_
  with_reducible repeat first | refine Jt.i ?_ | refine .g (by decide) ?_
  refine AW.rc 10 fun K hK => ?_
  repeat (with_reducible refine .s fun X Y Z W => ?_; simp; (first | refine Z.out _ _ ?_ | refine W.out _ ?_ | refine ⟨by kernel_rfl, W.out _ ?_⟩); clear Z W X Y; simp); (try refine .n ?_)
  refine .s fun K1 K2 hK1 hK2 => ?_
  simp
  refine orr_l ⟨by kernel_rfl, .inl ⟨_, ck, ?_⟩⟩
  (try simp)
  refine hK1.out _ _ ?_
  clear hK1 hK2 K1 K2
  (try simp)
  repeat (with_reducible refine .s fun X Y Z W => ?_; simp; (first | refine Z.out _ _ ?_ | refine W.out _ ?_ | refine ⟨by kernel_rfl, W.out _ ?_⟩); clear Z W X Y; simp); (try refine .n ?_)
  refine Jt.f hK ?_
  clear hK K
  with_reducible repeat first | refine Jt.i ?_ | refine .g (by decide) ?_
  refine AW.ct rfl ?_
  with_reducible repeat first | refine Jt.i ?_ | refine .g (by decide) ?_
  refine AW.rc 20 fun K hK => ?_
  repeat (with_reducible refine .s fun X Y Z W => ?_; simp; (first | refine Z.out _ _ ?_ | refine W.out _ ?_ | refine ⟨by kernel_rfl, W.out _ ?_⟩); clear Z W X Y; simp); (try refine .n ?_)
  refine Jt.f hK ?_
  clear hK K
  with_reducible repeat first | refine Jt.i ?_ | refine .g (by decide) ?_
  refine NX.sR ?_
  refine nx_ret (T := ty) (rs := [.tmp 4]) (zs := []) (ds := [dB false]) (rr := []) (.inr rfl) rfl (by kernel_rfl) (by kernel_rfl) (by simp) rfl
def thM (l : List Tr) (p : Pr) (d : D) : Row := [(.zn 0, .zn .live), (.zn 31, .zn .live), (.nm 1, .nm true), (.cell 1 0, .av (.c [] (.v (.int .u64 p.1)))), (.cell 1 1, .av (.c [] (.v (.int .u64 p.2)))), (.vt 0 3, .av (.ptr 1 0)), (.nm 2, .nm true), (.cell 2 0, .av (.c [] d)), (.vt 0 5, .av (.ptr 2 0))]
def thX (l : List Tr) (p : Pr) : Code → Nat → Option Row := fun c k => match c with
  | .exit 0 => some (thM l p (.v (.bool (decide (saidF l p = some 1)))))
  | _ => none
set_option maxHeartbeats 8000000 in
theorem thas_ok (l : List Tr) (p : Pr) (hs : ∀ t ∈ l, t.1.length + t.2.length ≤ 1000000) (h : tsR l = true) : Ct Try.prog 95 [.c (TsD l), PV p] none (.one (dB (decide (saidF l p = some 1)))) := by
  have ck := tcheckA_ct l (fun t ht => by have := hs t ht; omega)
  rw [h] at ck
  have hall : ∀ t ∈ l, oneL t = true := by
    unfold tsR at h
    simp only [Bool.and_eq_true, List.all_eq_true] at h
    exact h.2
  have cn := newest_ca l
  refine ct_intro Try.func95 rfl Try.ntmps95 (by simp) (fun W0 Z => ?_)
  with_reducible repeat first | refine Jt.i ?_ | refine .g (by decide) ?_
  refine AW.at_ (fun L hL => ?_)
  simp at hL
  subst hL
  refine AW.rc 1 fun K hK => ?_
  repeat (with_reducible refine .s fun X Y Z W => ?_; simp; (first | refine Z.out _ _ ?_ | refine W.out _ ?_ | refine ⟨by kernel_rfl, W.out _ ?_⟩); clear Z W X Y; simp); (try refine .n ?_)
  refine Jt.f hK ?_
  clear hK K
  with_reducible repeat first | refine Jt.i ?_ | refine .g (by decide) ?_
  refine AW.scope ?_
  with_reducible repeat first | refine Jt.i ?_ | refine .g (by decide) ?_
  refine AW.rc 10 fun K hK => ?_
  repeat (with_reducible refine .s fun X Y Z W => ?_; simp; (first | refine Z.out _ _ ?_ | refine W.out _ ?_ | refine ⟨by kernel_rfl, W.out _ ?_⟩); clear Z W X Y; simp); (try refine .n ?_)
  refine .s fun K1 K2 hK1 hK2 => ?_
  simp
  refine orr_l ⟨by kernel_rfl, .inl ⟨_, ck, ?_⟩⟩
  (try simp)
  refine hK1.out _ _ ?_
  clear hK1 hK2 K1 K2
  (try simp)
  repeat (with_reducible refine .s fun X Y Z W => ?_; simp; (first | refine Z.out _ _ ?_ | refine W.out _ ?_ | refine ⟨by kernel_rfl, W.out _ ?_⟩); clear Z W X Y; simp); (try refine .n ?_)
  refine Jt.f hK ?_
  clear hK K
  with_reducible repeat first | refine Jt.i ?_ | refine .g (by decide) ?_
  refine AW.cf rfl ?_
  with_reducible repeat first | refine Jt.i ?_ | refine .g (by decide) ?_
  refine AW.rc 20 fun K hK => ?_
  repeat (with_reducible refine .s fun X Y Z W => ?_; simp; (first | refine Z.out _ _ ?_ | refine W.out _ ?_ | refine ⟨by kernel_rfl, W.out _ ?_⟩); clear Z W X Y; simp); (try refine .n ?_)
  refine Jt.f hK ?_
  clear hK K
  with_reducible repeat first | refine Jt.i ?_ | refine .g (by decide) ?_
  refine AW.rc 30 fun K hK => ?_
  repeat (with_reducible refine .s fun X Y Z W => ?_; simp; (first | refine Z.out _ _ ?_ | refine W.out _ ?_ | refine ⟨by kernel_rfl, W.out _ ?_⟩); clear Z W X Y; simp); (try refine .n ?_)
  refine .s fun K1 K2 hK1 hK2 => ?_
  simp
  refine orr_l ⟨by kernel_rfl, .inr (.inr (.inl ⟨_, cn, ?_⟩))⟩
  (try simp)
  refine hK1.out _ _ ?_
  clear hK1 hK2 K1 K2
  (try simp)
  repeat (with_reducible refine .s fun X Y Z W => ?_; simp; (first | refine Z.out _ _ ?_ | refine W.out _ ?_ | refine ⟨by kernel_rfl, W.out _ ?_⟩); clear Z W X Y; simp); (try refine .n ?_)
  refine Jt.f hK ?_
  clear hK K
  with_reducible repeat first | refine Jt.i ?_ | refine .g (by decide) ?_
  refine AW.range (zs := [31, 0]) (l := toldN l) (rr := [(.tmp 13, .av (.c [31, 0] (.st (itP Try.prog (toldN l)))))]) (rz := [(.zn 31, .zn .live), (.zn 0, .zn .live)]) (ps := #[14]) rfl (fun z g h => h.2) (by kernel_rfl) (by kernel_rfl) (by kernel_rfl) toldN_len (by simp) (by simp [cx]) (fun k => thM l p (.st (factB (noM l p k)))) (thX l p) (fun k => by kernel_rfl) (fun c k L' h => by
      unfold thX at h
      split at h
      · cases h; kernel_rfl
      · cases h)
    (fun C' hP hN a w hA => ?_) (fun k x hx => ?_) ?_ (fun c k L' h hlt => ?_)
  · have hP : C'.pz = [0, 31, 0] := hP
    simp only [vtOf] at hA
    have h1 : AS C' (lk (thM l p (.v (.bool false)))) a w := (view_of (vw [(2, 20)] [] [] []) (by simp [thM])) a w hA
    have h2 := h1.tellC 2 0 (d' := .st (factB (noM l p 0))) rfl (fun Z w v h => by
      have := h.raw
      subst this
      exact .st _ _ ⟨rfl, fun s hs => by simp at hs⟩)
    simp only [thM] at h2
    exact (view_of (vw [] [] [] []) (by simp [thM])) a w h2
  · obtain ⟨t, ht, hxt⟩ : ∃ t, l.reverse[k]? = some t ∧ x = [TD t] := by
      simp only [toldN, List.getElem?_map, Option.map_eq_some_iff] at hx
      obtain ⟨y, h1, h2⟩ := hx
      exact ⟨y, h1, h2.symm⟩
    subst hxt
    have htm : t ∈ l := List.mem_reverse.1 (List.mem_of_getElem? ht)
    have hts := hs t htm
    have ho := hall t htm
    have hor : rightL t.1 = true ∧ rightL t.2 = true := by
      unfold oneL at ho
      simp only [Bool.and_eq_true] at ho
      exact ho.1
    have hlen : t.1.length ≤ 1048576 ∧ t.2.length ≤ 1048576 := by omega
    have ca := has_ct t.1 p (right_rises hor.1) hor.1 (by omega)
    have cd := has_ct t.2 p (right_rises hor.2) hor.2 (by omega)
    apply Exists.intro
    refine ⟨?_, fun ln C' hP hN => ?_, fun ln C' hP hN => ?_⟩
    rotate_left
    · have hP : C'.pz = [0, 31, 0] := hP
      have hN : C'.N = 29 := hN
      simp only [parRows, thM, tmB]
      with_reducible repeat first | refine Jt.i ?_ | refine .g (by decide) ?_
      refine AW.rc 100 fun K hK => ?_
      repeat (with_reducible refine .s fun X Y Z W => ?_; simp; (first | refine Z.out _ _ ?_ | refine W.out _ ?_ | refine ⟨by kernel_rfl, W.out _ ?_⟩); clear Z W X Y; simp); (try refine .n ?_)
      refine Jt.f hK ?_
      clear hK K
      with_reducible repeat first | refine Jt.i ?_ | refine .g (by decide) ?_
      exact fun a w h => ⟨rfl, h⟩
    · have hP : C'.pz = [0, 31, 0] := hP
      have hN : C'.N = 29 := hN
      refine AW.openC (X := { u : Unit // noM l p k }) (ψ := fun _ => .v (.bool false)) 2 0 rfl (by simp [lk]) (fun Z w v h => ?_) (fun u => ?_)
      · cases h with
        | st _ _ h => exact ⟨⟨(), h.2⟩, by rw [h.1]; exact .v _⟩
      obtain ⟨-, hno⟩ := u
      with_reducible repeat first | refine Jt.i ?_ | refine .g (by decide) ?_
      by_cases h1 : p ∈ t.1
      · have hv := said_at hno ht (.inl h1)
        have hnd : p ∉ t.2 := by
          unfold oneL at ho
          simp only [Bool.and_eq_true, decide_eq_true_eq] at ho
          exact keptL_none ho.2 h1
        rw [if_neg hnd] at hv
        have hval : decide (saidF l p = some 1) = true := by rw [hv]; rfl
        rw [decide_eq_true h1] at ca
        refine AW.rc 110 fun K hK => ?_
        repeat (with_reducible refine .s fun X Y Z W => ?_; simp; (first | refine Z.out _ _ ?_ | refine W.out _ ?_ | refine ⟨by kernel_rfl, W.out _ ?_⟩); clear Z W X Y; simp); (try refine .n ?_)
        refine .s fun K1 K2 hK1 hK2 => ?_
        simp
        refine orr_l ⟨by kernel_rfl, .inl ⟨_, ca, ?_⟩⟩
        (try simp)
        refine hK1.out _ _ ?_
        clear hK1 hK2 K1 K2
        (try simp)
        repeat (with_reducible refine .s fun X Y Z W => ?_; simp; (first | refine Z.out _ _ ?_ | refine W.out _ ?_ | refine ⟨by kernel_rfl, W.out _ ?_⟩); clear Z W X Y; simp); (try refine .n ?_)
        refine .s fun K1 K2 hK1 hK2 => ?_
        simp
        refine orr_l ⟨by kernel_rfl, .inl ⟨_, cd, ?_⟩⟩
        (try simp)
        refine hK1.out _ _ ?_
        clear hK1 hK2 K1 K2
        (try simp)
        repeat (with_reducible refine .s fun X Y Z W => ?_; simp; (first | refine Z.out _ _ ?_ | refine W.out _ ?_ | refine ⟨by kernel_rfl, W.out _ ?_⟩); clear Z W X Y; simp); (try refine .n ?_)
        refine ⟨chk_drawn (by kernel_rfl) (by kernel_rfl), hK.out _ ?_⟩
        clear hK K
        with_reducible repeat first | refine Jt.i ?_ | refine .g (by decide) ?_
        refine AW.rc 130 fun K hK => ?_
        repeat (with_reducible refine .s fun X Y Z W => ?_; simp; (first | refine Z.out _ _ ?_ | refine W.out _ ?_ | refine ⟨by kernel_rfl, W.out _ ?_⟩); clear Z W X Y; simp); (try refine .n ?_)
        refine Jt.f hK ?_
        clear hK K
        with_reducible repeat first | refine Jt.i ?_ | refine .g (by decide) ?_
        refine AW.ct rfl ?_
        with_reducible repeat first | refine Jt.i ?_ | refine .g (by decide) ?_
        refine AW.rc 140 fun K hK => ?_
        repeat (with_reducible refine .s fun X Y Z W => ?_; simp; (first | refine Z.out _ _ ?_ | refine W.out _ ?_ | refine ⟨by kernel_rfl, W.out _ ?_⟩); clear Z W X Y; simp); (try refine .n ?_)
        refine Jt.f hK ?_
        clear hK K
        with_reducible repeat first | refine Jt.i ?_ | refine .g (by decide) ?_
        exact fun a w h => ⟨_, rfl, (view_of (vw [] [] [] []) (by simp [thM, hval])) a w h⟩
      · rw [decide_eq_false h1] at ca
        by_cases h2 : p ∈ t.2
        · have hv := said_at hno ht (.inr h2)
          rw [if_pos h2] at hv
          have hval : decide (saidF l p = some 1) = false := by rw [hv]; rfl
          rw [decide_eq_true h2] at cd
          refine AW.rc 110 fun K hK => ?_
          repeat (with_reducible refine .s fun X Y Z W => ?_; simp; (first | refine Z.out _ _ ?_ | refine W.out _ ?_ | refine ⟨by kernel_rfl, W.out _ ?_⟩); clear Z W X Y; simp); (try refine .n ?_)
          refine .s fun K1 K2 hK1 hK2 => ?_
          simp
          refine orr_l ⟨by kernel_rfl, .inl ⟨_, ca, ?_⟩⟩
          (try simp)
          refine hK1.out _ _ ?_
          clear hK1 hK2 K1 K2
          (try simp)
          repeat (with_reducible refine .s fun X Y Z W => ?_; simp; (first | refine Z.out _ _ ?_ | refine W.out _ ?_ | refine ⟨by kernel_rfl, W.out _ ?_⟩); clear Z W X Y; simp); (try refine .n ?_)
          refine .s fun K1 K2 hK1 hK2 => ?_
          simp
          refine orr_l ⟨by kernel_rfl, .inl ⟨_, cd, ?_⟩⟩
          (try simp)
          refine hK1.out _ _ ?_
          clear hK1 hK2 K1 K2
          (try simp)
          repeat (with_reducible refine .s fun X Y Z W => ?_; simp; (first | refine Z.out _ _ ?_ | refine W.out _ ?_ | refine ⟨by kernel_rfl, W.out _ ?_⟩); clear Z W X Y; simp); (try refine .n ?_)
          refine ⟨chk_drawn (by kernel_rfl) (by kernel_rfl), hK.out _ ?_⟩
          clear hK K
          with_reducible repeat first | refine Jt.i ?_ | refine .g (by decide) ?_
          refine AW.rc 130 fun K hK => ?_
          repeat (with_reducible refine .s fun X Y Z W => ?_; simp; (first | refine Z.out _ _ ?_ | refine W.out _ ?_ | refine ⟨by kernel_rfl, W.out _ ?_⟩); clear Z W X Y; simp); (try refine .n ?_)
          refine Jt.f hK ?_
          clear hK K
          with_reducible repeat first | refine Jt.i ?_ | refine .g (by decide) ?_
          refine AW.ct rfl ?_
          with_reducible repeat first | refine Jt.i ?_ | refine .g (by decide) ?_
          refine AW.rc 140 fun K hK => ?_
          repeat (with_reducible refine .s fun X Y Z W => ?_; simp; (first | refine Z.out _ _ ?_ | refine W.out _ ?_ | refine ⟨by kernel_rfl, W.out _ ?_⟩); clear Z W X Y; simp); (try refine .n ?_)
          refine Jt.f hK ?_
          clear hK K
          with_reducible repeat first | refine Jt.i ?_ | refine .g (by decide) ?_
          exact fun a w h => ⟨_, rfl, (view_of (vw [] [] [] []) (by simp [thM, hval])) a w h⟩
        · rw [decide_eq_false h2] at cd
          have hn1 := noM_s hno ht ⟨h1, h2⟩
          refine AW.rc 110 fun K hK => ?_
          repeat (with_reducible refine .s fun X Y Z W => ?_; simp; (first | refine Z.out _ _ ?_ | refine W.out _ ?_ | refine ⟨by kernel_rfl, W.out _ ?_⟩); clear Z W X Y; simp); (try refine .n ?_)
          refine .s fun K1 K2 hK1 hK2 => ?_
          simp
          refine orr_l ⟨by kernel_rfl, .inl ⟨_, ca, ?_⟩⟩
          (try simp)
          refine hK1.out _ _ ?_
          clear hK1 hK2 K1 K2
          (try simp)
          repeat (with_reducible refine .s fun X Y Z W => ?_; simp; (first | refine Z.out _ _ ?_ | refine W.out _ ?_ | refine ⟨by kernel_rfl, W.out _ ?_⟩); clear Z W X Y; simp); (try refine .n ?_)
          refine .s fun K1 K2 hK1 hK2 => ?_
          simp
          refine orr_l ⟨by kernel_rfl, .inl ⟨_, cd, ?_⟩⟩
          (try simp)
          refine hK1.out _ _ ?_
          clear hK1 hK2 K1 K2
          (try simp)
          repeat (with_reducible refine .s fun X Y Z W => ?_; simp; (first | refine Z.out _ _ ?_ | refine W.out _ ?_ | refine ⟨by kernel_rfl, W.out _ ?_⟩); clear Z W X Y; simp); (try refine .n ?_)
          refine ⟨chk_drawn (by kernel_rfl) (by kernel_rfl), hK.out _ ?_⟩
          clear hK K
          with_reducible repeat first | refine Jt.i ?_ | refine .g (by decide) ?_
          refine AW.rc 130 fun K hK => ?_
          repeat (with_reducible refine .s fun X Y Z W => ?_; simp; (first | refine Z.out _ _ ?_ | refine W.out _ ?_ | refine ⟨by kernel_rfl, W.out _ ?_⟩); clear Z W X Y; simp); (try refine .n ?_)
          refine Jt.f hK ?_
          clear hK K
          with_reducible repeat first | refine Jt.i ?_ | refine .g (by decide) ?_
          refine AW.cf rfl ?_
          with_reducible repeat first | refine Jt.i ?_ | refine .g (by decide) ?_
          intro a w hA
          have h1 : AS C' (lk (thM l p (.v (.bool false)))) a w := (view_of (vw [] [] [] []) (by simp [thM])) a w hA
          have h2 := h1.tellC 2 0 (d' := .st (factB (noM l p (k + 1)))) rfl (fun Z w v h => by
            have := h.raw
            subst this
            exact .st _ _ ⟨rfl, hn1⟩)
          simp only [thM] at h2
          exact (view_of (vw [] [] [] []) (by simp [thM])) a w h2
    · kernel_rfl
  · refine NX.view (L' := (.df, .df 1) :: tmOf (thM l p (.st (factB (noM l p l.length))))) (by rw [show (toldN l).length = l.length by simp [toldN]]; exact fun _ _ h => h) ?_
    simp only [thM, tmOf]
    with_reducible repeat first | refine Jt.i ?_ | refine .g (by decide) ?_
    refine AW.openC (X := { u : Unit // noM l p l.length }) (ψ := fun _ => .v (.bool false)) 2 0 rfl (by simp [lk]) (fun Z w v h => ?_) (fun u => ?_)
    · cases h with
      | st _ _ h => exact ⟨⟨(), h.2⟩, by rw [h.1]; exact .v _⟩
    obtain ⟨-, hno⟩ := u
    have hval : decide (saidF l p = some 1) = false := by rw [said_no hno]; rfl
    rw [hval]
    refine AW.rc 500 fun K hK => ?_
    repeat (with_reducible refine .s fun X Y Z W => ?_; simp; (first | refine Z.out _ _ ?_ | refine W.out _ ?_ | refine ⟨by kernel_rfl, W.out _ ?_⟩); clear Z W X Y; simp); (try refine .n ?_)
    refine Jt.f hK ?_
    clear hK K
    with_reducible repeat first | refine Jt.i ?_ | refine .g (by decide) ?_
    refine NX.sR ?_
    refine nx_ret (T := ty) (rs := [.tmp 4]) (zs := []) (ds := [dB false]) (rr := []) (.inr rfl) rfl (by kernel_rfl) (by kernel_rfl) (by simp) rfl
  · unfold thX at h
    split at h
    · cases h
      simp only [thM, tmOf]
      generalize decide (saidF l p = some 1) = bb
      with_reducible repeat first | refine Jt.i ?_ | refine .g (by decide) ?_
      refine AW.rc 500 fun K hK => ?_
      repeat (with_reducible refine .s fun X Y Z W => ?_; simp; (first | refine Z.out _ _ ?_ | refine W.out _ ?_ | refine ⟨by kernel_rfl, W.out _ ?_⟩); clear Z W X Y; simp); (try refine .n ?_)
      refine Jt.f hK ?_
      clear hK K
      with_reducible repeat first | refine Jt.i ?_ | refine .g (by decide) ?_
      refine NX.sR ?_
      refine nx_ret (T := ty) (rs := [.tmp 4]) (zs := []) (ds := [dB bb]) (rr := []) (.inr rfl) rfl (by kernel_rfl) (by kernel_rfl) (by simp) rfl
    · cases h
end Go.Proofs.Ytlkdkhmdmgchbaa
namespace Go.Proofs.Ytlkdkhmdmgchbaa
set_option linter.unusedSimpArgs false
set_option linter.unusedVariables false
open Go.RowKit
theorem says_snoc (l : List Tr) (t : Tr) (p : Pr) : saysL (l ++ [t]) p = if p ∈ t.2 then 2 else if p ∈ t.1 then 1 else saysL l p := by
  unfold saysL
  rw [List.foldl_append]
  rfl
/-- what the document says of it. -/
def sayN (x : Option Int) : Int := match x with
  | none => 0
  | some 0 => 2
  | some _ => 1
theorem says_rev : ∀ (L : List Tr) (p : Pr), saysL L.reverse p = sayN (L.foldl sayT (fun _ => none) p)
  | [], p => rfl
  | t :: L, p => by
    rw [List.reverse_cons, says_snoc, List.foldl_cons, foldT_is, sayT_is, says_rev L p]
    by_cases h2 : p ∈ t.2
    · simp [h2, sayN]
    · by_cases h3 : p ∈ t.1
      · simp [h2, h3, sayN]
      · simp [h2, h3]
theorem says_is (l : List Tr) (p : Pr) : saysL l p = sayN (saidF l p) := by
  have := says_rev l.reverse p
  rw [List.reverse_reverse] at this
  exact this
theorem says_one (l : List Tr) (p : Pr) : saysL l p = 1 ↔ saidF l p = some 1 := by
  rw [says_is]
  cases h : saidF l p with
  | none => simp [sayN]
  | some x =>
    rcases (saidF_mem l p x h).1 with rfl | rfl
    · simp [sayN]
    · simp [sayN]
theorem says_two (l : List Tr) (p : Pr) : saysL l p = 2 ↔ saidF l p = some 0 := by
  rw [says_is]
  cases h : saidF l p with
  | none => simp [sayN]
  | some x =>
    rcases (saidF_mem l p x h).1 with rfl | rfl
    · simp [sayN]
    · simp [sayN]
/-- all pairs of tiers, in order. -/
def allT (l : List Tr) : List Pr := l.foldl (fun a t => unionL (unionL a t.1) t.2) []
theorem allT_s {l : List Tr} {k : Nat} (h : k < l.length) : allT (l.take (k + 1)) = unionL (unionL (allT (l.take k)) l[k].1) l[k].2 := by
  unfold allT
  rw [List.take_succ_eq_append_getElem h, List.foldl_append]
  rfl
theorem allT_go : ∀ (l : List Tr) (a : List Pr), Rises a → Rises (l.foldl (fun a t => unionL (unionL a t.1) t.2) a) ∧ (∀ p, p ∈ l.foldl (fun a t => unionL (unionL a t.1) t.2) a ↔ p ∈ a ∨ ∃ t ∈ l, p ∈ t.1 ∨ p ∈ t.2) ∧ (l.foldl (fun a t => unionL (unionL a t.1) t.2) a).length ≤ a.length + pairsN l
  | [], a, h => ⟨h, fun p => by simp, by simp [pairsN]⟩
  | t :: l, a, h => by
    obtain ⟨h1, h2, h3⟩ := allT_go l (unionL (unionL a t.1) t.2) (unionL_rises _ _)
    refine ⟨h1, fun p => ?_, ?_⟩
    · rw [List.foldl_cons, h2, unionL_mem, unionL_mem]
      simp only [List.mem_cons, exists_eq_or_imp]
      constructor
      · rintro (((h | h) | h) | h)
        · exact .inl h
        · exact .inr (.inl (.inl h))
        · exact .inr (.inl (.inr h))
        · exact .inr (.inr h)
      · rintro (h | (h | h) | h)
        · exact .inl (.inl (.inl h))
        · exact .inl (.inl (.inr h))
        · exact .inl (.inr h)
        · exact .inr h
    · rw [List.foldl_cons]
      have g1 := unionL_len (unionL a t.1) t.2
      have g2 := unionL_len a t.1
      unfold pairsN pairsT at *
      simp only [List.map_cons, List.sum_cons]
      omega
theorem allT_rises (l : List Tr) : Rises (allT l) := (allT_go l [] Rises.nil).1
theorem allT_mem (l : List Tr) (p : Pr) : p ∈ allT l ↔ ∃ t ∈ l, p ∈ t.1 ∨ p ∈ t.2 := by
  have := (allT_go l [] Rises.nil).2.1 p
  simpa [allT] using this
theorem allT_len (l : List Tr) : (allT l).length ≤ pairsN l := by
  have := (allT_go l [] Rises.nil).2.2
  simpa [allT] using this
theorem those_one (l : List Tr) : (allT l).filter (fun p => decide (saysL l p = 1)) = whichL l 1 :=
  rises_ext (List.Pairwise.sublist List.filter_sublist (allT_rises l)) (whichL_rises l 1) fun p => by
    rw [List.mem_filter, decide_eq_true_eq, says_one, whichL_mem, allT_mem]
    exact ⟨fun h => h.2, fun h => ⟨(saidF_mem l p 1 h).2, h⟩⟩
theorem those_two (l : List Tr) : (allT l).filter (fun p => decide (saysL l p = 2)) = whichL l 0 :=
  rises_ext (List.Pairwise.sublist List.filter_sublist (allT_rises l)) (whichL_rises l 0) fun p => by
    rw [List.mem_filter, decide_eq_true_eq, says_two, whichL_mem, allT_mem]
    exact ⟨fun h => h.2, fun h => ⟨(saidF_mem l p 0 h).2, h⟩⟩
attribute [local simp ↓] gav_bool gav_undef arun_nil ob_some kva_av kfree_free khfree_free khown_own klive_live knm_false chk_true ya_true gsel_tt gsel_ff gsel_tf gsel_ft vb_bool vi_int vstr_string avps_ptr avps_seg avp_ptr avagg_agg avtup_tup avb_bool avown_own shs_struct shsa_struct shsa_arr sharr_arr shl_slice shla_slice shla_arr shls_slice shls_str shi_int bc_true bc_false hd1_cons opc_some opc_none opn_some opn_none unc_not unc_neg gd_none gd_some as_move as_assign as_pick as_bin as_un as_conv as_load as_faddr as_field as_extract as_iaddr as_slice as_alloc as_box as_store as_build as_rows as_call as_append as_lookup as_mapUpdate as_makeMap as_range as_next as_entry as_index as_fn as_len as_min as_max stMove stPick stBin stUn stConv stLoad stFaddr stField stExtract stIaddr stSlice stAlloc stBox stStore stBuild stIndex stRows stCall stAppend stFn stLen stMin stMax opd_tmp opd_const opd_func rawL_nil rawL_cons raw_c raw_st raw_a opr_e zr_nil zr_cons lvd_live hod_own obd_some obd_none kvd_av chd_true vid_int lk_cons lk_nil ins_nil ins_cons cells_zero cells_succ spread1_c spread1_own spread1_ptr spread1_fn spread1_seg spreadL_nil spreadL_cons spread_agg spread_c spread_own spread_seg spread_ptr spread_fn ex_zero ex_succ ops_e opb_none opb_int spreadD_agg spreadD_c spreadD_own spreadD_seg fillO_nil fillO_cons argsOf_nil argsOf_cons dvOf_c dvOf_seg dvOf_own dvOf_agg zrL_nil zrL_cons hdd_c hdd_seg hdd_own clz_e clv_raw clv_f callD_e dst0_n dst0_nil dst0_own goneH_e capc_ptr capc_seg capc_c capN_nil capN_cons capD_nil capD_cons deadZ_nil deadZ_cons
attribute [local simp] dok_some dok_none dflt_tmp dflt_vt dflt_cell dflt_zn dflt_nm dflt_hd dflt_df puts_nil puts_cons wr_some wr_none cst_agg cst_int cst_bool cst_string cst_slice cst_tuple cst_nilFunc cst_pointer cst_func bin_add bin_sub bin_mul bin_quo bin_rem bin_eql bin_neq bin_lss bin_leq bin_gtr bin_geq bin_bool bin_aggs binT_bool binT_aggs shbd_bool eqb_eql eqb_neq bin_slice bin_str_eql bin_str_neq bin_str_lss bin_str_add nz_v nz_n nz_s nz_p nz_f nz_st atz_v atz_n atz_s atz_p atz_f atz_st atz_agg atR_one atR_tup crow_nil crow_cons slc_c slc_n slc_own slc_nil raws setR placesT_nil placesT_cons zc chunk zsAll ocD_v ocD_n ocD_s ocD_p ocD_f ocD_st nrm_v nrm_n nrm_s nrm_p nrm_f nrm_st isV_one isV_tup isV_c isV_agg isV_v isV_n isV_s isV_p isV_f isV_st argRows Sh.agg zds_nil zds_e zds_v zds_s vcells_agg vcells_int vcells_bool vcells_string vcells_slice vcells_pointer toList_lit map_nilL map_consL nzr_e rowsOc_nil rowsOc_cons rowsOc_RD nzr_RD foks_nil foks_cons fok_tmp fok_vt fok_cell fok_nm fok_zn fok_hd fok_df Fv_c Fv_seg Fv_tup Fv_agg Fv_ptr Fv_ptrs Fv_fn Fv_fnd Fv_own Fv_ownd Fv_nown Fv_vown FvL_nil FvL_cons kvp_av hdp_some subz frz Uz Nm Uh vw_nb vw_zo vw_zf vw_hb tb_nil tb_cons fzc_nil fzc_cons fzcaps_nil fzcaps_cons ty2 ty3 ty4 ty5 ty6 ty7 ty8 ty9 ty10 ty11 ty12 ty13 ty14 ty15 ty16 ty17 ty18 ty19 ty20 ty21 ty22 ty23 ty24 ty25 ty26 ty27 ty30 ty40 ty48 ty50 ty51 ty52 ty55 ty57 ty62 ty63 ty85 ty94 ty101 ty121 ty122 ty123 ty124 ty125 ty126 ty128 ty148 ty149 ty151 ty164 ty165 ty179 ty182 ty196 ty203 ty205 ty209 ty211 ty215 ty216 ty217 ty218 ty219 ty220 ty221 ty223 ty224 ty225 ty226 ty227 Value.oneCell'
set_option maxRecDepth 100000
def rrS (l : List Tr) (k : Nat) : Row := [(.zn 0, .zn .live), (.tmp 0, .av (.c [0] (TsD l))), (.tmp 5, .av (.c [0] (TsD l))), (.tmp 6, .av (.c [] (.v (.int .i64 l.length)))), (.tmp 7, .av (.c [] (.v (.int .i64 k))))]
set_option maxHeartbeats 4000000 in
theorem rright11_ct (l : List Tr) (hl : l.length ≤ 1000) (hs : ∀ t ∈ l, t.1.length ≤ 1000000) : Ct Try.prog 45 [.c (TsD l)] none (.one (dB (tsR l))) := by
  refine ct_intro Try.func45 rfl Try.ntmps45 (by simp) (fun W0 Z => ?_)
  with_reducible repeat first | refine Jt.i ?_ | refine .g (by decide) ?_
  refine AW.at_ (fun L hL => ?_)
  simp at hL
  subst hL
  refine AW.rc 1 fun K hK => ?_
  repeat (with_reducible refine .s fun X Y Z W => ?_; simp; (first | refine Z.out _ _ ?_ | refine W.out _ ?_ | refine ⟨by kernel_rfl, W.out _ ?_⟩); clear Z W X Y; simp); (try refine .n ?_)
  refine Jt.f hK ?_
  clear hK K
  with_reducible repeat first | refine Jt.i ?_ | refine .g (by decide) ?_
  refine AW.rc 10 fun K hK => ?_
  repeat (with_reducible refine .s fun X Y Z W => ?_; simp; (first | refine Z.out _ _ ?_ | refine W.out _ ?_ | refine ⟨by kernel_rfl, W.out _ ?_⟩); clear Z W X Y; simp); (try refine .n ?_)
  refine Jt.f hK ?_
  clear hK K
  with_reducible repeat first | refine Jt.i ?_ | refine .g (by decide) ?_
  refine AW.loop (X := { k : Nat // k ≤ l.length ∧ (l.take k).all oneL = true }) (fun x => rrS l x.1) (fun x => l.length - x.1) ⟨0, by simp⟩ (view_of (vw [] [] [] []) (by simp [rrS])) (fun x => ?_)
  obtain ⟨k, hk, hka⟩ := x
  refine AW.at_ (fun L hL => ?_)
  simp [rrS] at hL
  subst hL
  with_reducible repeat first | refine Jt.i ?_ | refine .g (by decide) ?_
  by_cases hgo : k < l.length
  · have w5 : IntKind.i64.wrap ((k : Int) + 1) = ((k + 1 : Nat) : Int) := by rw [i64_ok _ (by omega) (by omega)]; omega
    obtain ⟨t, ht⟩ : ∃ t, l[k] = t := ⟨_, rfl⟩
    have htm : t ∈ l := by rw [← ht]; exact List.getElem_mem hgo
    have c1 := one_ct t (hs t htm)
    refine AW.rc 100 fun K hK => ?_
    repeat (with_reducible refine .s fun X Y Z W => ?_; simp [hgo]; (first | refine Z.out _ _ ?_ | refine W.out _ ?_ | refine ⟨by kernel_rfl, W.out _ ?_⟩); clear Z W X Y; simp [hgo]); (try refine .n ?_)
    refine Jt.f hK ?_
    clear hK K
    with_reducible repeat first | refine Jt.i ?_ | refine .g (by decide) ?_
    refine AW.ct rfl ?_
    with_reducible repeat first | refine Jt.i ?_ | refine .g (by decide) ?_
    refine AW.rc 110 fun K hK => ?_
    repeat (with_reducible refine .s fun X Y Z W => ?_; simp [hgo]; (first | refine Z.out _ _ ?_ | refine W.out _ ?_ | refine ⟨by kernel_rfl, W.out _ ?_⟩); clear Z W X Y; simp [hgo]); (try refine .n ?_)
    refine .s fun K1 K2 hK1 hK2 => ?_
    simp [hgo]
    refine ⟨k, [RD t.1, RD t.2], rfl, by simp [hgo, ht], ?_⟩
    refine hK1.out _ _ ?_
    clear hK1 hK2 K1 K2
    (try simp [hgo])
    repeat (with_reducible refine .s fun X Y Z W => ?_; simp [hgo]; (first | refine Z.out _ _ ?_ | refine W.out _ ?_ | refine ⟨by kernel_rfl, W.out _ ?_⟩); clear Z W X Y; simp [hgo]); (try refine .n ?_)
    refine Jt.f hK ?_
    clear hK K
    with_reducible repeat first | refine Jt.i ?_ | refine .g (by decide) ?_
    cases h1 : oneL t with
    | true =>
      rw [h1] at c1
      have hk1 : (l.take (k + 1)).all oneL = true := by
        rw [List.take_succ_eq_append_getElem hgo, List.all_append, hka, ht]
        simp [h1]
      refine AW.rc 120 fun K hK => ?_
      repeat (with_reducible refine .s fun X Y Z W => ?_; simp; (first | refine Z.out _ _ ?_ | refine W.out _ ?_ | refine ⟨by kernel_rfl, W.out _ ?_⟩); clear Z W X Y; simp); (try refine .n ?_)
      refine .s fun K1 K2 hK1 hK2 => ?_
      simp
      refine orr_l ⟨by kernel_rfl, .inl ⟨_, c1, ?_⟩⟩
      (try simp)
      refine hK1.out _ _ ?_
      clear hK1 hK2 K1 K2
      (try simp)
      repeat (with_reducible refine .s fun X Y Z W => ?_; simp; (first | refine Z.out _ _ ?_ | refine W.out _ ?_ | refine ⟨by kernel_rfl, W.out _ ?_⟩); clear Z W X Y; simp); (try refine .n ?_)
      refine Jt.f hK ?_
      clear hK K
      with_reducible repeat first | refine Jt.i ?_ | refine .g (by decide) ?_
      refine AW.cf rfl ?_
      with_reducible repeat first | refine Jt.i ?_ | refine .g (by decide) ?_
      refine AW.rc 130 fun K hK => ?_
      repeat (with_reducible refine .s fun X Y Z W => ?_; simp [w5]; (first | refine Z.out _ _ ?_ | refine W.out _ ?_ | refine ⟨by kernel_rfl, W.out _ ?_⟩); clear Z W X Y; simp [w5]); (try refine .n ?_)
      refine Jt.f hK ?_
      clear hK K
      with_reducible repeat first | refine Jt.i ?_ | refine .g (by decide) ?_
      exact NX.round ⟨k + 1, hgo, hk1⟩ (by show l.length - (k + 1) < l.length - k; omega) (view_of (vw [] [] [] []) (by simp [rrS]))
    | false =>
      rw [h1] at c1
      have hf : tsR l = false := by
        unfold tsR
        rw [Bool.and_eq_false_iff]
        right
        rw [List.all_eq_false]
        exact ⟨t, htm, by rw [h1]; simp⟩
      rw [hf]
      refine AW.rc 120 fun K hK => ?_
      repeat (with_reducible refine .s fun X Y Z W => ?_; simp [w5]; (first | refine Z.out _ _ ?_ | refine W.out _ ?_ | refine ⟨by kernel_rfl, W.out _ ?_⟩); clear Z W X Y; simp [w5]); (try refine .n ?_)
      refine .s fun K1 K2 hK1 hK2 => ?_
      simp [w5]
      refine orr_l ⟨by kernel_rfl, .inl ⟨_, c1, ?_⟩⟩
      (try simp [w5])
      refine hK1.out _ _ ?_
      clear hK1 hK2 K1 K2
      (try simp [w5])
      repeat (with_reducible refine .s fun X Y Z W => ?_; simp [w5]; (first | refine Z.out _ _ ?_ | refine W.out _ ?_ | refine ⟨by kernel_rfl, W.out _ ?_⟩); clear Z W X Y; simp [w5]); (try refine .n ?_)
      refine Jt.f hK ?_
      clear hK K
      with_reducible repeat first | refine Jt.i ?_ | refine .g (by decide) ?_
      refine AW.ct rfl ?_
      with_reducible repeat first | refine Jt.i ?_ | refine .g (by decide) ?_
      refine AW.rc 140 fun K hK => ?_
      repeat (with_reducible refine .s fun X Y Z W => ?_; simp [w5]; (first | refine Z.out _ _ ?_ | refine W.out _ ?_ | refine ⟨by kernel_rfl, W.out _ ?_⟩); clear Z W X Y; simp [w5]); (try refine .n ?_)
      refine Jt.f hK ?_
      clear hK K
      with_reducible repeat first | refine Jt.i ?_ | refine .g (by decide) ?_
      refine nx_ret (T := ty) (rs := [.tmp 2]) (zs := []) (ds := [dB false]) (rr := []) (.inr rfl) rfl (by kernel_rfl) (by kernel_rfl) (by simp) rfl
  · obtain rfl : k = l.length := by omega
    rw [List.take_length] at hka
    have hf : tsR l = decide (l.length ≤ 24) := by unfold tsR; rw [hka, Bool.and_true]
    rw [hf]
    by_cases h24 : l.length ≤ 24
    · have h24i : (l.length : Int) ≤ 24 := by omega
      rw [decide_eq_true h24]
      refine AW.rc 200 fun K hK => ?_
      repeat (with_reducible refine .s fun X Y Z W => ?_; simp; (first | refine Z.out _ _ ?_ | refine W.out _ ?_ | refine ⟨by kernel_rfl, W.out _ ?_⟩); clear Z W X Y; simp); (try refine .n ?_)
      refine Jt.f hK ?_
      clear hK K
      with_reducible repeat first | refine Jt.i ?_ | refine .g (by decide) ?_
      refine AW.cf rfl ?_
      with_reducible repeat first | refine Jt.i ?_ | refine .g (by decide) ?_
      refine AW.rc 210 fun K hK => ?_
      repeat (with_reducible refine .s fun X Y Z W => ?_; simp [h24, h24i]; (first | refine Z.out _ _ ?_ | refine W.out _ ?_ | refine ⟨by kernel_rfl, W.out _ ?_⟩); clear Z W X Y; simp [h24, h24i]); (try refine .n ?_)
      refine Jt.f hK ?_
      clear hK K
      with_reducible repeat first | refine Jt.i ?_ | refine .g (by decide) ?_
      refine nx_ret (T := ty) (rs := [.tmp 2]) (zs := []) (ds := [dB true]) (rr := []) (.inr rfl) rfl (by kernel_rfl) (by kernel_rfl) (by simp) rfl
    · have h24i : ¬ (l.length : Int) ≤ 24 := by omega
      rw [decide_eq_false h24]
      refine AW.rc 200 fun K hK => ?_
      repeat (with_reducible refine .s fun X Y Z W => ?_; simp; (first | refine Z.out _ _ ?_ | refine W.out _ ?_ | refine ⟨by kernel_rfl, W.out _ ?_⟩); clear Z W X Y; simp); (try refine .n ?_)
      refine Jt.f hK ?_
      clear hK K
      with_reducible repeat first | refine Jt.i ?_ | refine .g (by decide) ?_
      refine AW.cf rfl ?_
      with_reducible repeat first | refine Jt.i ?_ | refine .g (by decide) ?_
      refine AW.rc 210 fun K hK => ?_
      repeat (with_reducible refine .s fun X Y Z W => ?_; simp [h24, h24i]; (first | refine Z.out _ _ ?_ | refine W.out _ ?_ | refine ⟨by kernel_rfl, W.out _ ?_⟩); clear Z W X Y; simp [h24, h24i]); (try refine .n ?_)
      refine Jt.f hK ?_
      clear hK K
      with_reducible repeat first | refine Jt.i ?_ | refine .g (by decide) ?_
      refine nx_ret (T := ty) (rs := [.tmp 2]) (zs := []) (ds := [dB false]) (rr := []) (.inr rfl) rfl (by kernel_rfl) (by kernel_rfl) (by simp) rfl
end Go.Proofs.Ytlkdkhmdmgchbaa
namespace Go.Proofs.Ytlkdkhmdmgchbaa
set_option linter.unusedSimpArgs false
set_option linter.unusedVariables false
open Go.RowKit
theorem w11_a : whichL smallT 1 = [(2, 2), (3, 3)] := by decide
theorem w11_b : whichL (smallT ++ [([(1, 1)], [])]) 1 = [(1, 1), (2, 2), (3, 3)] := by decide
theorem w11_c : sqL smallT 0 2 = [([(2, 2), (3, 3)], [])] := by decide
theorem w11_d : pushNo smallT [(1, 1)] [] = 0 := by decide
theorem w11_e : pushNo smallT [(5, 5)] [(5, 5)] = 2 := by decide
theorem w11_f : saidF smallT (1, 1) = some 0 := by decide
theorem w11_g : tsR smallT = true := by decide
theorem w11_h : tsR (smallT ++ [([(1, 1)], [])]) = true := by decide
theorem w11_s : ∀ t ∈ smallT ++ [([(1, 1)], [])], t.1.length + t.2.length ≤ 4 ∧ wfT t := by
  intro t ht
  simp [smallT] at ht
  rcases ht with rfl | rfl | rfl
  · refine ⟨by simp, fun p hp => ?_, fun p hp => ?_⟩
    · simp at hp; rcases hp with rfl | rfl <;> exact wfP_of (by decide) (by decide)
    · simp at hp
  · refine ⟨by simp, fun p hp => ?_, fun p hp => ?_⟩
    · simp at hp; subst hp; exact wfP_of (by decide) (by decide)
    · simp at hp; subst hp; exact wfP_of (by decide) (by decide)
  · refine ⟨by simp, fun p hp => ?_, fun p hp => ?_⟩
    · simp at hp; subst hp; exact wfP_of (by decide) (by decide)
    · simp at hp
attribute [local simp ↓] gav_bool gav_undef arun_nil ob_some kva_av kfree_free khfree_free khown_own klive_live knm_false chk_true ya_true gsel_tt gsel_ff gsel_tf gsel_ft vb_bool vi_int vstr_string avps_ptr avps_seg avp_ptr avagg_agg avtup_tup avb_bool avown_own shs_struct shsa_struct shsa_arr sharr_arr shl_slice shla_slice shla_arr shls_slice shls_str shi_int bc_true bc_false hd1_cons opc_some opc_none opn_some opn_none unc_not unc_neg gd_none gd_some as_move as_assign as_pick as_bin as_un as_conv as_load as_faddr as_field as_extract as_iaddr as_slice as_alloc as_box as_store as_build as_rows as_call as_append as_lookup as_mapUpdate as_makeMap as_range as_next as_entry as_index as_fn as_len as_min as_max stMove stPick stBin stUn stConv stLoad stFaddr stField stExtract stIaddr stSlice stAlloc stBox stStore stBuild stIndex stRows stCall stAppend stFn stLen stMin stMax opd_tmp opd_const opd_func rawL_nil rawL_cons raw_c raw_st raw_a opr_e zr_nil zr_cons lvd_live hod_own obd_some obd_none kvd_av chd_true vid_int lk_cons lk_nil ins_nil ins_cons cells_zero cells_succ spread1_c spread1_own spread1_ptr spread1_fn spread1_seg spreadL_nil spreadL_cons spread_agg spread_c spread_own spread_seg spread_ptr spread_fn ex_zero ex_succ ops_e opb_none opb_int spreadD_agg spreadD_c spreadD_own spreadD_seg fillO_nil fillO_cons argsOf_nil argsOf_cons dvOf_c dvOf_seg dvOf_own dvOf_agg zrL_nil zrL_cons hdd_c hdd_seg hdd_own clz_e clv_raw clv_f callD_e dst0_n dst0_nil dst0_own goneH_e capc_ptr capc_seg capc_c capN_nil capN_cons capD_nil capD_cons deadZ_nil deadZ_cons
attribute [local simp] dok_some dok_none dflt_tmp dflt_vt dflt_cell dflt_zn dflt_nm dflt_hd dflt_df puts_nil puts_cons wr_some wr_none cst_agg cst_int cst_bool cst_string cst_slice cst_tuple cst_nilFunc cst_pointer cst_func bin_add bin_sub bin_mul bin_quo bin_rem bin_eql bin_neq bin_lss bin_leq bin_gtr bin_geq bin_bool bin_aggs binT_bool binT_aggs shbd_bool eqb_eql eqb_neq bin_slice bin_str_eql bin_str_neq bin_str_lss bin_str_add nz_v nz_n nz_s nz_p nz_f nz_st atz_v atz_n atz_s atz_p atz_f atz_st atz_agg atR_one atR_tup crow_nil crow_cons slc_c slc_n slc_own slc_nil raws setR placesT_nil placesT_cons zc chunk zsAll ocD_v ocD_n ocD_s ocD_p ocD_f ocD_st nrm_v nrm_n nrm_s nrm_p nrm_f nrm_st isV_one isV_tup isV_c isV_agg isV_v isV_n isV_s isV_p isV_f isV_st argRows Sh.agg zds_nil zds_e zds_v zds_s vcells_agg vcells_int vcells_bool vcells_string vcells_slice vcells_pointer toList_lit map_nilL map_consL nzr_e rowsOc_nil rowsOc_cons rowsOc_RD nzr_RD foks_nil foks_cons fok_tmp fok_vt fok_cell fok_nm fok_zn fok_hd fok_df Fv_c Fv_seg Fv_tup Fv_agg Fv_ptr Fv_ptrs Fv_fn Fv_fnd Fv_own Fv_ownd Fv_nown Fv_vown FvL_nil FvL_cons kvp_av hdp_some subz frz Uz Nm Uh vw_nb vw_zo vw_zf vw_hb tb_nil tb_cons fzc_nil fzc_cons fzcaps_nil fzcaps_cons ty2 ty3 ty4 ty5 ty6 ty7 ty8 ty9 ty10 ty11 ty12 ty13 ty14 ty15 ty16 ty17 ty18 ty19 ty20 ty21 ty22 ty23 ty24 ty25 ty26 ty27 ty30 ty40 ty48 ty50 ty51 ty52 ty55 ty57 ty62 ty63 ty85 ty94 ty101 ty121 ty122 ty123 ty124 ty125 ty126 ty128 ty148 ty149 ty151 ty164 ty165 ty179 ty182 ty196 ty203 ty205 ty209 ty211 ty215 ty216 ty217 ty218 ty219 ty220 ty221 ty223 ty224 ty225 ty226 ty227 Value.oneCell'
set_option maxRecDepth 100000
set_option maxHeartbeats 8000000 in
theorem wakes11_ct : Ct Try.prog 81 [] none (.one (dB true)) := by
  have hs := fun t (ht : t ∈ smallT) => w11_s t (List.mem_append_left _ ht)
  have hsl : ∀ t ∈ smallT, t.1.length + t.2.length ≤ 1000000 := fun t ht => by have := (hs t ht).1; omega
  have hsl2 : ∀ t ∈ smallT, t.1.length + t.2.length ≤ 1048576 := fun t ht => by have := (hs t ht).1; omega
  have c0 := small11_ct
  have p1 := pair11_ct 1
  have p5 := pair11_ct 5
  have p2 := pair11_ct 2
  have p3 := pair11_ct 3
  have u1 := push_ok smallT [(1, 1)] [] hsl2 (by simp) w11_d
  have u1 := Ct.nilat (app := none) (pre := [.c (TsD smallT), .c (RD [(1, 1)])]) (rest := []) u1
  have u2 := push_no smallT [(5, 5)] [(5, 5)] hsl2 (by simp) (by rw [w11_e]; decide)
  rw [w11_e] at u2
  have q1 := squash_ok smallT 0 2 hsl2 (fun t ht => (hs t ht).2) (by decide) w11_g (by decide) (by decide)
  rw [w11_c] at q1
  have n1 := content_ct smallT w11_g hsl2 (fun t ht => (hs t ht).2) (by decide)
  rw [w11_a] at n1
  have n2 := content_ct (smallT ++ [([(1, 1)], [])]) w11_h (fun t ht => by have := (w11_s t ht).1; omega) (fun t ht => (w11_s t ht).2) (by decide)
  rw [w11_b] at n2
  have e1 := equal_ct [(2, 2), (3, 3)] [(2, 2), (3, 3)]
  rw [decide_eq_true rfl] at e1
  have h1 := thas_ok smallT (1, 1) hsl w11_g
  rw [w11_f] at h1
  rw [show decide (some (0 : Int) = some 1) = false from rfl] at h1
  simp only [smallT, List.cons_append, List.nil_append] at *
  refine ct_intro Try.func81 rfl Try.ntmps81 (by simp) (fun W0 Z => ?_)
  with_reducible repeat first | refine Jt.i ?_ | refine .g (by decide) ?_
  refine AW.at_ (fun L hL => ?_)
  simp at hL
  subst hL
  refine AW.rc 1 fun K hK => ?_
  repeat (with_reducible refine .s fun X Y Z W => ?_; simp; (first | refine Z.out _ _ ?_ | refine W.out _ ?_ | refine ⟨by kernel_rfl, W.out _ ?_⟩); clear Z W X Y; simp); (try refine .n ?_)
  refine Jt.f hK ?_
  clear hK K
  with_reducible repeat first | refine Jt.i ?_ | refine .g (by decide) ?_
  refine AW.rc 10 fun K hK => ?_
  repeat (with_reducible refine .s fun X Y Z W => ?_; simp; (first | refine Z.out _ _ ?_ | refine W.out _ ?_ | refine ⟨by kernel_rfl, W.out _ ?_⟩); clear Z W X Y; simp); (try refine .n ?_)
  refine .s fun K1 K2 hK1 hK2 => ?_
  simp
  refine orr_l ⟨by kernel_rfl, .inr (.inl ⟨_, _, _, c0, ?_⟩)⟩
  (try simp)
  refine hK1.out _ _ ?_
  clear hK1 hK2 K1 K2
  (try simp)
  repeat (with_reducible refine .s fun X Y Z W => ?_; simp; (first | refine Z.out _ _ ?_ | refine W.out _ ?_ | refine ⟨by kernel_rfl, W.out _ ?_⟩); clear Z W X Y; simp); (try refine .n ?_)
  refine .s fun K1 K2 hK1 hK2 => ?_
  simp
  refine orr_l ⟨by kernel_rfl, .inl ⟨_, p1, ?_⟩⟩
  (try simp)
  refine hK1.out _ _ ?_
  clear hK1 hK2 K1 K2
  (try simp)
  repeat (with_reducible refine .s fun X Y Z W => ?_; simp; (first | refine Z.out _ _ ?_ | refine W.out _ ?_ | refine ⟨by kernel_rfl, W.out _ ?_⟩); clear Z W X Y; simp); (try refine .n ?_)
  refine .s fun K1 K2 hK1 hK2 => ?_
  simp
  refine orr_l ⟨by kernel_rfl, .inl ⟨_, u1, ?_⟩⟩
  (try simp)
  refine hK1.out _ _ ?_
  clear hK1 hK2 K1 K2
  (try simp)
  repeat (with_reducible refine .s fun X Y Z W => ?_; simp; (first | refine Z.out _ _ ?_ | refine W.out _ ?_ | refine ⟨by kernel_rfl, W.out _ ?_⟩); clear Z W X Y; simp); (try refine .n ?_)
  refine Jt.f hK ?_
  clear hK K
  with_reducible repeat first | refine Jt.i ?_ | refine .g (by decide) ?_
  refine AW.rc 30 fun K hK => ?_
  repeat (with_reducible refine .s fun X Y Z W => ?_; simp; (first | refine Z.out _ _ ?_ | refine W.out _ ?_ | refine ⟨by kernel_rfl, W.out _ ?_⟩); clear Z W X Y; simp); (try refine .n ?_)
  refine .s fun K1 K2 hK1 hK2 => ?_
  simp
  refine orr_l ⟨by kernel_rfl, .inr (.inl ⟨_, _, _, c0, ?_⟩)⟩
  (try simp)
  refine hK1.out _ _ ?_
  clear hK1 hK2 K1 K2
  (try simp)
  repeat (with_reducible refine .s fun X Y Z W => ?_; simp; (first | refine Z.out _ _ ?_ | refine W.out _ ?_ | refine ⟨by kernel_rfl, W.out _ ?_⟩); clear Z W X Y; simp); (try refine .n ?_)
  refine .s fun K1 K2 hK1 hK2 => ?_
  simp
  refine orr_l ⟨by kernel_rfl, .inl ⟨_, q1, ?_⟩⟩
  (try simp)
  refine hK1.out _ _ ?_
  clear hK1 hK2 K1 K2
  (try simp)
  repeat (with_reducible refine .s fun X Y Z W => ?_; simp; (first | refine Z.out _ _ ?_ | refine W.out _ ?_ | refine ⟨by kernel_rfl, W.out _ ?_⟩); clear Z W X Y; simp); (try refine .n ?_)
  refine Jt.f hK ?_
  clear hK K
  with_reducible repeat first | refine Jt.i ?_ | refine .g (by decide) ?_
  refine AW.rc 50 fun K hK => ?_
  repeat (with_reducible refine .s fun X Y Z W => ?_; simp; (first | refine Z.out _ _ ?_ | refine W.out _ ?_ | refine ⟨by kernel_rfl, W.out _ ?_⟩); clear Z W X Y; simp); (try refine .n ?_)
  refine .s fun K1 K2 hK1 hK2 => ?_
  simp
  refine orr_l ⟨by kernel_rfl, .inr (.inl ⟨_, _, _, c0, ?_⟩)⟩
  (try simp)
  refine hK1.out _ _ ?_
  clear hK1 hK2 K1 K2
  (try simp)
  repeat (with_reducible refine .s fun X Y Z W => ?_; simp; (first | refine Z.out _ _ ?_ | refine W.out _ ?_ | refine ⟨by kernel_rfl, W.out _ ?_⟩); clear Z W X Y; simp); (try refine .n ?_)
  refine .s fun K1 K2 hK1 hK2 => ?_
  simp
  refine orr_l ⟨by kernel_rfl, .inl ⟨_, p5, ?_⟩⟩
  (try simp)
  refine hK1.out _ _ ?_
  clear hK1 hK2 K1 K2
  (try simp)
  repeat (with_reducible refine .s fun X Y Z W => ?_; simp; (first | refine Z.out _ _ ?_ | refine W.out _ ?_ | refine ⟨by kernel_rfl, W.out _ ?_⟩); clear Z W X Y; simp); (try refine .n ?_)
  refine .s fun K1 K2 hK1 hK2 => ?_
  simp
  refine orr_l ⟨by kernel_rfl, .inl ⟨_, p5, ?_⟩⟩
  (try simp)
  refine hK1.out _ _ ?_
  clear hK1 hK2 K1 K2
  (try simp)
  repeat (with_reducible refine .s fun X Y Z W => ?_; simp; (first | refine Z.out _ _ ?_ | refine W.out _ ?_ | refine ⟨by kernel_rfl, W.out _ ?_⟩); clear Z W X Y; simp); (try refine .n ?_)
  refine .s fun K1 K2 hK1 hK2 => ?_
  simp
  refine orr_l ⟨by kernel_rfl, .inl ⟨_, u2, ?_⟩⟩
  (try simp)
  refine hK1.out _ _ ?_
  clear hK1 hK2 K1 K2
  (try simp)
  repeat (with_reducible refine .s fun X Y Z W => ?_; simp; (first | refine Z.out _ _ ?_ | refine W.out _ ?_ | refine ⟨by kernel_rfl, W.out _ ?_⟩); clear Z W X Y; simp); (try refine .n ?_)
  refine Jt.f hK ?_
  clear hK K
  with_reducible repeat first | refine Jt.i ?_ | refine .g (by decide) ?_
  refine AW.keep 7 (fun L hL => ?_)
  simp only [keepT_nil, keepT_tmp, keepT_vt, keepT_cell, keepT_zn, keepT_nm, keepT_hd, keepT_df, if_true, if_false, Nat.reduceLT, reduceIte] at hL
  subst hL
  refine AW.rc 100 fun K hK => ?_
  repeat (with_reducible refine .s fun X Y Z W => ?_; simp; (first | refine Z.out _ _ ?_ | refine W.out _ ?_ | refine ⟨by kernel_rfl, W.out _ ?_⟩); clear Z W X Y; simp); (try refine .n ?_)
  refine .s fun K1 K2 hK1 hK2 => ?_
  simp
  refine orr_l ⟨by kernel_rfl, .inr (.inl ⟨_, _, _, c0, ?_⟩)⟩
  (try simp)
  refine hK1.out _ _ ?_
  clear hK1 hK2 K1 K2
  (try simp)
  repeat (with_reducible refine .s fun X Y Z W => ?_; simp; (first | refine Z.out _ _ ?_ | refine W.out _ ?_ | refine ⟨by kernel_rfl, W.out _ ?_⟩); clear Z W X Y; simp); (try refine .n ?_)
  refine .s fun K1 K2 hK1 hK2 => ?_
  simp
  refine orr_l ⟨by kernel_rfl, .inr (.inl ⟨_, _, _, n1, ?_⟩)⟩
  (try simp)
  refine hK1.out _ _ ?_
  clear hK1 hK2 K1 K2
  (try simp)
  repeat (with_reducible refine .s fun X Y Z W => ?_; simp; (first | refine Z.out _ _ ?_ | refine W.out _ ?_ | refine ⟨by kernel_rfl, W.out _ ?_⟩); clear Z W X Y; simp); (try refine .n ?_)
  refine .s fun K1 K2 hK1 hK2 => ?_
  simp
  refine orr_l ⟨by kernel_rfl, .inl ⟨_, p2, ?_⟩⟩
  (try simp)
  refine hK1.out _ _ ?_
  clear hK1 hK2 K1 K2
  (try simp)
  repeat (with_reducible refine .s fun X Y Z W => ?_; simp; (first | refine Z.out _ _ ?_ | refine W.out _ ?_ | refine ⟨by kernel_rfl, W.out _ ?_⟩); clear Z W X Y; simp); (try refine .n ?_)
  refine .s fun K1 K2 hK1 hK2 => ?_
  simp
  refine orr_l ⟨by kernel_rfl, .inl ⟨_, p3, ?_⟩⟩
  (try simp)
  refine hK1.out _ _ ?_
  clear hK1 hK2 K1 K2
  (try simp)
  repeat (with_reducible refine .s fun X Y Z W => ?_; simp; (first | refine Z.out _ _ ?_ | refine W.out _ ?_ | refine ⟨by kernel_rfl, W.out _ ?_⟩); clear Z W X Y; simp); (try refine .n ?_)
  refine .s fun K1 K2 hK1 hK2 => ?_
  simp
  refine orr_l ⟨by kernel_rfl, .inl ⟨_, e1, ?_⟩⟩
  (try simp)
  refine hK1.out _ _ ?_
  clear hK1 hK2 K1 K2
  (try simp)
  repeat (with_reducible refine .s fun X Y Z W => ?_; simp; (first | refine Z.out _ _ ?_ | refine W.out _ ?_ | refine ⟨by kernel_rfl, W.out _ ?_⟩); clear Z W X Y; simp); (try refine .n ?_)
  refine .s fun K1 K2 hK1 hK2 => ?_
  simp
  refine orr_l ⟨by kernel_rfl, .inr (.inl ⟨_, _, _, n2, ?_⟩)⟩
  (try simp)
  refine hK1.out _ _ ?_
  clear hK1 hK2 K1 K2
  (try simp)
  repeat (with_reducible refine .s fun X Y Z W => ?_; simp; (first | refine Z.out _ _ ?_ | refine W.out _ ?_ | refine ⟨by kernel_rfl, W.out _ ?_⟩); clear Z W X Y; simp); (try refine .n ?_)
  refine .s fun K1 K2 hK1 hK2 => ?_
  simp
  refine ⟨0, [RD [(2, 2), (3, 3)], RD []], rfl, by simp, ?_⟩
  refine hK1.out _ _ ?_
  clear hK1 hK2 K1 K2
  (try simp)
  repeat (with_reducible refine .s fun X Y Z W => ?_; simp; (first | refine Z.out _ _ ?_ | refine W.out _ ?_ | refine ⟨by kernel_rfl, W.out _ ?_⟩); clear Z W X Y; simp); (try refine .n ?_)
  refine .s fun K1 K2 hK1 hK2 => ?_
  simp
  refine ⟨0, [RD [(2, 2), (3, 3)], RD []], rfl, by simp, ?_⟩
  refine hK1.out _ _ ?_
  clear hK1 hK2 K1 K2
  (try simp)
  repeat (with_reducible refine .s fun X Y Z W => ?_; simp; (first | refine Z.out _ _ ?_ | refine W.out _ ?_ | refine ⟨by kernel_rfl, W.out _ ?_⟩); clear Z W X Y; simp); (try refine .n ?_)
  refine .s fun K1 K2 hK1 hK2 => ?_
  simp
  refine orr_l ⟨by kernel_rfl, .inr (.inl ⟨_, _, _, c0, ?_⟩)⟩
  (try simp)
  refine hK1.out _ _ ?_
  clear hK1 hK2 K1 K2
  (try simp)
  repeat (with_reducible refine .s fun X Y Z W => ?_; simp; (first | refine Z.out _ _ ?_ | refine W.out _ ?_ | refine ⟨by kernel_rfl, W.out _ ?_⟩); clear Z W X Y; simp); (try refine .n ?_)
  refine .s fun K1 K2 hK1 hK2 => ?_
  simp
  refine orr_l ⟨by kernel_rfl, .inl ⟨_, p1, ?_⟩⟩
  (try simp)
  refine hK1.out _ _ ?_
  clear hK1 hK2 K1 K2
  (try simp)
  repeat (with_reducible refine .s fun X Y Z W => ?_; simp; (first | refine Z.out _ _ ?_ | refine W.out _ ?_ | refine ⟨by kernel_rfl, W.out _ ?_⟩); clear Z W X Y; simp); (try refine .n ?_)
  refine .s fun K1 K2 hK1 hK2 => ?_
  simp
  refine orr_l ⟨by kernel_rfl, .inl ⟨_, h1, ?_⟩⟩
  (try simp)
  refine hK1.out _ _ ?_
  clear hK1 hK2 K1 K2
  (try simp)
  repeat (with_reducible refine .s fun X Y Z W => ?_; simp; (first | refine Z.out _ _ ?_ | refine W.out _ ?_ | refine ⟨by kernel_rfl, W.out _ ?_⟩); clear Z W X Y; simp); (try refine .n ?_)
  refine Jt.f hK ?_
  clear hK K
  with_reducible repeat first | refine Jt.i ?_ | refine .g (by decide) ?_
  refine nx_ret (T := ty) (rs := [.tmp 0]) (zs := []) (ds := [dB true]) (rr := []) (.inr rfl) rfl (by kernel_rfl) (by kernel_rfl) (by simp) rfl
end Go.Proofs.Ytlkdkhmdmgchbaa
namespace Go.Proofs.Ytlkdkhmdmgchbaa
set_option linter.unusedSimpArgs false
set_option linter.unusedVariables false
open Go.RowKit
theorem saidTwo (t u : Tr) (p : Pr) : saidF [t, u] p = if p ∈ u.2 then some 0 else if p ∈ u.1 then some 1 else if p ∈ t.2 then some 0 else if p ∈ t.1 then some 1 else none := by
  have h1 := saidF_snoc [t] u p
  have h2 := saidF_snoc [] t p
  rw [saidF_nil] at h2
  simp only [List.singleton_append, List.nil_append] at h1 h2
  rw [h1, h2]
/-- two tiers as one. -/
def joL (t u : Tr) (ob : Bool) : Tr := (whichL [t, u] 1, if ob then [] else whichL [t, u] 0)
theorem joL_1 (t u : Tr) (ob : Bool) (p : Pr) : p ∈ (joL t u ob).1 ↔ saidF [t, u] p = some 1 := whichL_mem _ _ _
theorem joL_2 (t u : Tr) (ob : Bool) (p : Pr) : p ∈ (joL t u ob).2 ↔ ob = false ∧ saidF [t, u] p = some 0 := by
  unfold joL
  cases ob
  · simpa using whichL_mem _ _ _
  · simp
theorem joL_len (t u : Tr) (ob : Bool) {n : Nat} (h1 : pairsT t + pairsT u ≤ n) : (joL t u ob).1.length ≤ n ∧ (joL t u ob).2.length ≤ n := by
  have e : pairsN [t, u] = pairsT t + pairsT u := by simp [pairsN]
  have g1 := whichL_len [t, u] 1
  have g0 := whichL_len [t, u] 0
  refine ⟨by show (whichL _ _).length ≤ _; omega, ?_⟩
  cases ob
  · show (whichL _ _).length ≤ _; omega
  · simp [joL]
theorem three_said (a b c : Tr) (ob : Bool) (p : Pr) : (saidF [joL a b ob, c] p = some 1 ↔ saidF [a, joL b c false] p = some 1) ∧ (ob = false → (saidF [joL a b ob, c] p = some 0 ↔ saidF [a, joL b c false] p = some 0)) := by
  have m1 := joL_1 a b ob p
  have m2 := joL_2 a b ob p
  have n1 := joL_1 b c false p
  have n2 := joL_2 b c false p
  rw [saidTwo] at m1 m2 n1 n2 ⊢
  rw [saidTwo]
  by_cases h1 : p ∈ c.2 <;> by_cases h2 : p ∈ c.1 <;> by_cases h3 : p ∈ b.2 <;> by_cases h4 : p ∈ b.1 <;> by_cases h5 : p ∈ a.2 <;> by_cases h6 : p ∈ a.1 <;> cases ob <;> simp_all
theorem three_law (a b c : Tr) (ob : Bool) : joL (joL a b ob) c ob = joL a (joL b c false) ob := by
  refine Prod.ext (rises_ext (whichL_rises _ _) (whichL_rises _ _) fun p => ?_) ?_
  · rw [joL_1, joL_1]
    exact (three_said a b c ob p).1
  · cases ob with
    | true => rfl
    | false =>
      refine rises_ext (whichL_rises _ _) (whichL_rises _ _) fun p => ?_
      rw [joL_2, joL_2]
      simpa using (three_said a b c false p).2 rfl
theorem own26_fact {l : List Tr} (hw : ∀ t ∈ l, wfT t) : (own26 l).length ≤ 26 ∧ ∀ t ∈ own26 l, t.1.length ≤ 16 ∧ t.2.length ≤ 16 ∧ wfT t := by
  unfold own26
  refine ⟨by rw [List.length_map, List.length_take]; omega, fun t ht => ?_⟩
  obtain ⟨s, hs, rfl⟩ := List.mem_map.1 ht
  have := hw s (List.mem_of_mem_take hs)
  exact ⟨by simp [o16, List.length_take]; omega, by simp [o16, List.length_take]; omega, fun p hp => this.1 p (List.mem_of_mem_take hp), fun p hp => this.2 p (List.mem_of_mem_take hp)⟩
end Go.Proofs.Ytlkdkhmdmgchbaa
namespace Go.Proofs.Ytlkdkhmdmgchbaa
set_option linter.unusedSimpArgs false
set_option linter.unusedVariables false
open Go.RowKit
theorem repd_len {Z : Zone} {w : World} {v : Value} {sz : Nat} {rows : List (List D)} (h : RepD Z w v (.s sz rows)) : rows.length ≤ maxI := by
  cases h with
  | nil => simp
  | emp => simp
  | row g o n cap sz rows vals hn h1 h2 => omega
theorem tsd_len {Z : Zone} {w : World} {v : Value} {l : List Tr} (h : RepD Z w v (TsD l)) : l.length ≤ maxI := by
  have := repd_len h
  simpa using this
theorem one_not {t : Tr} (h : oneL t = true) {p : Pr} (hp : p ∈ t.1) : p ∉ t.2 := fun hq => by
  unfold oneL at h
  simp only [Bool.and_eq_true] at h
  have h2 := h.2
  have : p ∈ keptL t.1 t.2 true := by unfold keptL; simp [List.mem_filter, hp, hq]
  rw [show keptL t.1 t.2 true = [] by simpa using h2] at this
  simp at this
theorem right_of {l : List Pr} (h : Rises l) (hl : l.length ≤ 1048576) : rightL l = true := by
  unfold rightL
  simp [h, hl]
theorem push_no0 {l : List Tr} {a d : List Pr} (h : pushNo l a d = 0) : tsR l = true ∧ rightL a = true ∧ rightL d = true ∧ oneL (a, d) = true ∧ l.length ≠ 24 := by
  have h1 : tsR l = true := by
    cases e : tsR l
    · unfold pushNo at h; rw [e] at h; simp at h
    · rfl
  have h23 : rightL a = true ∧ rightL d = true := by
    cases e : (rightL a && rightL d)
    · unfold pushNo at h; rw [h1, e] at h; simp at h
    · simpa using e
  have h4 : oneL (a, d) = true := by
    cases e : oneL (a, d)
    · unfold pushNo at h; rw [h1, h23.1, h23.2, e] at h; simp at h
    · rfl
  exact ⟨h1, h23.1, h23.2, h4, fun e => by unfold pushNo at h; rw [h1, h23.1, h23.2, h4, if_pos e] at h; simp at h⟩
theorem ts_push {l : List Tr} {a d : List Pr} (h : pushNo l a d = 0) : tsR (l ++ [(a, d)]) = true := by
  obtain ⟨h1, -, -, h4, h5⟩ := push_no0 h
  unfold tsR at h1 ⊢
  simp only [Bool.and_eq_true, decide_eq_true_eq] at h1
  rw [List.all_append, h1.2]
  simp [h4]
  omega
/-- what is pushed is there, what is dropped is not, all else is as it was. -/
theorem news_law {l : List Tr} {a d : List Pr} (h : pushNo l a d = 0) : keptH (fun x y => or x y) (keptH (fun x y => x && !y) (whichL l 1) d) a = whichL (l ++ [(a, d)]) 1 := by
  obtain ⟨-, h2, h3, h4, -⟩ := push_no0 h
  have ra := right_rises h2
  have rd := right_rises h3
  have r1 := keptH_rises miF (whichL_rises l 1) rd
  refine rises_ext (keptH_rises unF r1 ra) (whichL_rises _ _) fun p => ?_
  have e1 := un_mem r1 ra p
  have e2 := mi_mem (whichL_rises l 1) rd p
  rw [e2, whichL_mem] at e1
  rw [whichL_mem, saidF_snoc]
  refine e1.trans ?_
  have hn := fun hp => one_not h4 (p := p) hp
  simp only at hn ⊢
  by_cases hd : p ∈ d
  · have ha : p ∉ a := fun hp => hn hp hd
    simp [hd, ha]
  · by_cases ha : p ∈ a <;> simp [hd, ha]
end Go.Proofs.Ytlkdkhmdmgchbaa
