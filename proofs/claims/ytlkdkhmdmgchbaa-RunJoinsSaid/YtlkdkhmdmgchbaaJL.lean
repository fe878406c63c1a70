/- The second logic: the law RunJoins. -/
import Derived.Test.YtlkdkhmdmgchbaaJD
import Derived.Test.YtlkdkhmdmgchbaaJP
import Derived.Shelf.SlicesQ.Reverse
import Derived.Test.YtlkdkhmdmgchbaaJS
import Derived.Test.YtlkdkhmdmgchbaaJV
namespace Go.Proofs.Ytlkdkhmdmgchbaa
set_option linter.unusedSimpArgs false
set_option linter.unusedVariables false
open Go.RowKit Go.Shelf Go.Lib Go.Sort
theorem holds_own {w : World} {g : Nat} {cur : Array Value} {E : TypeId} {l : List Pr} (hg : w.heap[g]? = some (.cells cur E (0, 0))) (h4 : cur.toList.take (l.length * 2) = flatP l) : HoldsK encP 2 w g 0 l.toArray := by
  intro j hj
  rw [flatK_P] at hj ⊢
  have hj' : j < (flatP l).length := by simpa using hj
  have e : cur[j]? = (flatP l)[j]? := by
    rw [← h4, List.getElem?_take, if_pos (by rw [flatP_len] at hj'; exact hj')]
    simp
  refine ⟨?_, ?_⟩
  · unfold World.cell?
    simp only [hg, Nat.zero_add, e, List.getElem?_eq_getElem hj']
    simp [getElem!_def, hj']
  · unfold World.frozen?
    simp only [hg]
    simp
theorem reverse_ku (l : List Pr) (hn : l.length ≤ 1000000000) : Ku Try.prog 63 [] 52 2 (l.map PD) (l.reverse.map PD) := by
  intro Z w v vs hrow hnz hr
  have how := rowat_to hrow trivial
  obtain rfl : vs = #[] := Array.size_eq_zero_iff.1 hr.1
  rcases how.2 with ⟨rfl, h0⟩ | ⟨g, cap, cur, rfl, -, hg, h1, h2, h3, h4⟩
  · have hl : l = [] := List.length_eq_zero_iff.1 h0
    subst hl
    have hcon := AnyQ.slices_Reverse_empty Try.revPr none 0 w
    change Calls Try.prog 63 _ _ _ at hcon
    refine hcon.mono ?_
    rintro e w' ⟨rfl, rfl⟩
    exact ⟨rfl, Keeps.refl _ _, hrow⟩
  · have hlt : g < w.heap.size := (Array.getElem?_eq_some_iff.1 hg).1
    have hcon := AnyQ.slices_Reverse Try.revPr 2 Try.isAgg52 Try.sizeOf52 encP (fun _ => rfl) (fun x v hv => by simp [encP] at hv; rcases hv with rfl | rfl <;> rfl) g 0 cap l.toArray w (holds_own hg h4) (by simp; omega)
    change Calls Try.prog 63 _ _ _ at hcon
    have hs : l.toArray.size = l.length := by simp
    rw [hs] at hcon
    refine hcon.mono ?_
    rintro e w' ⟨rfl, n, hw⟩
    obtain ⟨k1, cur', k2, k3, k4⟩ := sort_world_row (n := n) (os := #[]) (l' := l.reverse) hg (by rw [List.length_reverse]; omega)
    have hw : w' = sortWorldK encP 2 w g 0 n l.reverse.toArray #[] := by
      rw [hw]
      unfold sortWorldK
      rw [Go.Sort.grow_empty]
      simp
    rw [← hw] at k1 k2
    refine ⟨rfl, ⟨k1.os, k1.tape, k1.output, k1.size, fun k hk hb => k1.block k hk (fun e => hb (by rw [e]; rfl))⟩, rowat_of _ _ _ _ _ ?_⟩
    rw [List.length_reverse] at k4 ⊢
    exact ⟨by rw [flatP_len, List.length_reverse], .inr ⟨g, cap, cur', rfl, Nat.zero_le _, k2, h1, h2, k3.trans h3, k4⟩⟩
theorem right_ofL {l : List Pr} (hn : l.length ≤ 1048576) : rightL (ofL l) = true := by
  unfold rightL
  have := ofL_len l
  simp only [Bool.and_eq_true, decide_eq_true_eq]
  exact ⟨ofL_rises l, by omega⟩
theorem ofL_rev (l : List Pr) : ofL l.reverse = ofL l := rises_ext (ofL_rises _) (ofL_rises _) fun p => by rw [ofL_mem, ofL_mem]; simp
theorem turn_turn (p : Pr) : turnP (turnP p) = p := rfl
theorem turn_mem (l : List Pr) (p : Pr) : p ∈ ofL ((ofL l).map turnP) ↔ turnP p ∈ l := by
  rw [ofL_mem, List.mem_map]
  constructor
  · rintro ⟨q, hq, rfl⟩
    rw [turn_turn]
    exact (ofL_mem l q).1 hq
  · intro h
    exact ⟨turnP p, (ofL_mem l _).2 h, turn_turn p⟩
theorem turn_back (l : List Pr) : ofL ((ofL ((ofL l).map turnP)).map turnP) = ofL l := rises_ext (ofL_rises _) (ofL_rises _) fun p => by
  rw [ofL_mem, List.mem_map, ofL_mem]
  constructor
  · rintro ⟨q, hq, rfl⟩
    exact (turn_mem l q).1 hq
  · intro h
    exact ⟨turnP p, (turn_mem l _).2 (by rw [turn_turn]; exact h), turn_turn p⟩
theorem lt_irr (p : Pr) : ¬ lt p p := by unfold lt; omega
theorem rises_nodup {l : List Pr} (h : Rises l) : l.Nodup := by
  unfold List.Nodup
  exact List.Pairwise.imp (fun {a b} hab e => by subst e; exact lt_irr _ hab) h
theorem turn_len (l : List Pr) : (ofL ((ofL l).map turnP)).length = (ofL l).length := by
  have h1 := rises_nodup (ofL_rises ((ofL l).map turnP))
  have h2 : ((ofL l).map turnP).Nodup := by
    unfold List.Nodup
    rw [List.pairwise_map]
    exact List.Pairwise.imp (fun {a b} hab e => hab (by have := congrArg turnP e; simpa [turn_turn] using this)) (rises_nodup (ofL_rises l))
  have p := (List.perm_ext_iff_of_nodup h1 h2).2 fun a => ofL_mem _ a
  rw [p.length_eq, List.length_map]
end Go.Proofs.Ytlkdkhmdmgchbaa
namespace Go.Proofs.Ytlkdkhmdmgchbaa
set_option linter.unusedSimpArgs false
set_option linter.unusedVariables false
open Go.RowKit
/-! ### what is met and what is left -/
abbrev miF : Bool → Bool → Bool := fun x y => x && !y
abbrev meF : Bool → Bool → Bool := fun x y => x && y
abbrev unF : Bool → Bool → Bool := fun x y => or x y
section
variable {a b : List Pr} (ha : Rises a) (hb : Rises b)
include ha hb
theorem mi_mem (p : Pr) : p ∈ keptH miF a b ↔ p ∈ a ∧ p ∉ b := by
  rw [keptH_mem _ ha hb]
  simp only [miF, Bool.and_eq_true, decide_eq_true_eq, Bool.not_eq_true', decide_eq_false_iff_not]
  exact ⟨fun h => h.2, fun h => ⟨.inl h.1, h⟩⟩
theorem me_mem (p : Pr) : p ∈ keptH meF a b ↔ p ∈ a ∧ p ∈ b := by
  rw [keptH_mem _ ha hb]
  simp only [meF, Bool.and_eq_true, decide_eq_true_eq]
  exact ⟨fun h => h.2, fun h => ⟨.inl h.1, h⟩⟩
theorem un_mem (p : Pr) : p ∈ keptH unF a b ↔ p ∈ a ∨ p ∈ b := by
  rw [keptH_mem _ ha hb]
  simp only [unF, Bool.or_eq_true, decide_eq_true_eq]
  exact ⟨fun h => h.2, fun h => ⟨h, h⟩⟩
theorem parts_back : keptH unF (keptH miF a b) (keptH meF a b) = a := by
  have h1 := keptH_rises miF ha hb
  have h2 := keptH_rises meF ha hb
  refine rises_ext (keptH_rises unF h1 h2) ha fun p => ?_
  rw [un_mem h1 h2, mi_mem ha hb, me_mem ha hb]
  by_cases h : p ∈ b <;> simp [h]
theorem un_swap : keptH unF b a = keptH unF a b := rises_ext (keptH_rises _ hb ha) (keptH_rises _ ha hb) fun p => by rw [un_mem hb ha, un_mem ha hb]; exact Or.comm
theorem un_len : (keptH unF a b).length = a.length + b.length - (keptH meF a b).length ∧ (keptH meF a b).length ≤ a.length := by
  have n1 := rises_nodup (keptH_rises miF ha hb)
  have n2 := rises_nodup (keptH_rises meF ha hb)
  have n3 := rises_nodup (keptH_rises unF ha hb)
  have na := rises_nodup ha
  have nb := rises_nodup hb
  have e1 : a.length = (keptH miF a b).length + (keptH meF a b).length := by
    have nd : (keptH miF a b ++ keptH meF a b).Nodup := List.nodup_append.2 ⟨n1, n2, fun x hx y hy e => by
      subst e
      exact ((mi_mem ha hb x).1 hx).2 ((me_mem ha hb x).1 hy).2⟩
    have := ((List.perm_ext_iff_of_nodup na nd).2 fun p => by
      rw [List.mem_append, mi_mem ha hb, me_mem ha hb]
      by_cases h : p ∈ b <;> simp [h]).length_eq
    rw [this, List.length_append]
  have e2 : (keptH unF a b).length = (keptH miF a b).length + b.length := by
    have nd : (keptH miF a b ++ b).Nodup := List.nodup_append.2 ⟨n1, nb, fun x hx y hy e => by
      subst e
      exact ((mi_mem ha hb x).1 hx).2 hy⟩
    have := ((List.perm_ext_iff_of_nodup n3 nd).2 fun p => by
      rw [List.mem_append, mi_mem ha hb, un_mem ha hb]
      by_cases h : p ∈ b <;> simp [h]).length_eq
    rw [this, List.length_append]
  omega
end
theorem right_kept (h : Bool → Bool → Bool) {a b : List Pr} (ha : Rises a) (hb : Rises b) (hn : a.length + b.length ≤ 1048576) : rightL (keptH h a b) = true := by
  unfold rightL
  have := keptH_len h a b
  simp only [Bool.and_eq_true, decide_eq_true_eq]
  exact ⟨keptH_rises h ha hb, by omega⟩
theorem right_rises {l : List Pr} (h : rightL l = true) : Rises l := by
  unfold rightL at h
  simp only [Bool.and_eq_true, decide_eq_true_eq] at h
  exact h.1
end Go.Proofs.Ytlkdkhmdmgchbaa
namespace Go.Proofs.Ytlkdkhmdmgchbaa
set_option linter.unusedSimpArgs false
set_option linter.unusedVariables false
open Go.RowKit
attribute [local simp ↓] arun_nil ob_some kva_av kfree_free khfree_free khown_own klive_live knm_false chk_true ya_true gsel_tt gsel_ff gsel_tf gsel_ft vb_bool vi_int vstr_string avps_ptr avps_seg avp_ptr avagg_agg avtup_tup avb_bool avown_own shs_struct shsa_struct shsa_arr sharr_arr shl_slice shla_slice shla_arr shls_slice shls_str shi_int bc_true bc_false hd1_cons opc_some opc_none opn_some opn_none unc_not unc_neg gd_none gd_some as_move as_assign as_pick as_bin as_un as_conv as_load as_faddr as_field as_extract as_iaddr as_slice as_alloc as_box as_store as_build as_rows as_call as_append as_lookup as_mapUpdate as_makeMap as_range as_next as_entry as_index as_fn as_len as_min as_max stMove stPick stBin stUn stConv stLoad stFaddr stField stExtract stIaddr stSlice stAlloc stBox stStore stBuild stIndex stRows stCall stAppend stFn stLen stMin stMax opd_tmp opd_const opd_func rawL_nil rawL_cons raw_c raw_st raw_a opr_e zr_nil zr_cons lvd_live hod_own obd_some obd_none kvd_av chd_true vid_int lk_cons lk_nil ins_nil ins_cons cells_zero cells_succ spread1_c spread1_own spread1_ptr spread1_fn spread1_seg spreadL_nil spreadL_cons spread_agg spread_c spread_own spread_seg spread_ptr spread_fn ex_zero ex_succ ops_e opb_none opb_int spreadD_agg spreadD_c spreadD_own spreadD_seg fillO_nil fillO_cons argsOf_nil argsOf_cons dvOf_c dvOf_seg dvOf_own dvOf_agg zrL_nil zrL_cons hdd_c hdd_seg hdd_own clz_e clv_raw clv_f callD_e dst0_n dst0_nil dst0_own goneH_e capc_ptr capc_seg capc_c capN_nil capN_cons capD_nil capD_cons deadZ_nil deadZ_cons
attribute [local simp] dok_some dok_none dflt_tmp dflt_vt dflt_cell dflt_zn dflt_nm dflt_hd dflt_df puts_nil puts_cons wr_some wr_none cst_agg cst_int cst_bool cst_string cst_slice cst_tuple cst_nilFunc cst_pointer cst_func bin_add bin_sub bin_mul bin_quo bin_rem bin_eql bin_neq bin_lss bin_leq bin_gtr bin_geq bin_bool bin_aggs binT_bool binT_aggs shbd_bool eqb_eql eqb_neq bin_slice bin_str_eql bin_str_neq bin_str_lss bin_str_add nz_v nz_n nz_s nz_p nz_f nz_st atz_v atz_n atz_s atz_p atz_f atz_st atz_agg atR_one atR_tup crow_nil crow_cons slc_c slc_n slc_own slc_nil raws setR placesT_nil placesT_cons zc chunk zsAll ocD_v ocD_n ocD_s ocD_p ocD_f ocD_st nrm_v nrm_n nrm_s nrm_p nrm_f nrm_st isV_one isV_tup isV_c isV_agg isV_v isV_n isV_s isV_p isV_f isV_st argRows Sh.agg zds_nil zds_e zds_v zds_s vcells_agg vcells_int vcells_bool vcells_string vcells_slice vcells_pointer toList_lit map_nilL map_consL nzr_e rowsOc_nil rowsOc_cons rowsOc_RD nzr_RD ty2 ty3 ty4 ty5 ty6 ty7 ty8 ty9 ty10 ty11 ty12 ty13 ty14 ty15 ty16 ty17 ty18 ty19 ty20 ty21 ty22 ty23 ty24 ty25 ty26 ty27 ty30 ty40 ty48 ty50 ty51 ty52 ty55 ty57 ty62 ty63 ty85 ty94 ty101 ty121 ty122 ty123 ty124 ty125 ty126 ty128 ty148 ty149 ty151 ty164 ty165 ty179 ty182 ty196 ty203 ty205 ty209 ty211 ty215 ty216 ty217 ty218 ty219 ty220 ty221 ty223 ty224 ty225 ty226 ty227 Value.oneCell'
set_option maxRecDepth 100000
theorem un_is {a b : List Pr} (ha : Rises a) (hb : Rises b) : unionL a b = keptH unF a b := rises_ext (unionL_rises a b) (keptH_rises _ ha hb) fun p => by rw [unionL_mem, un_mem ha hb]
theorem keptL_rises {a b : List Pr} {h : Bool} (ha : Rises a) : Rises (keptL a b h) := List.Pairwise.sublist List.filter_sublist ha
theorem mi_is {a b : List Pr} (ha : Rises a) (hb : Rises b) : keptL a b false = keptH miF a b := rises_ext (keptL_rises ha) (keptH_rises _ ha hb) fun p => by
  rw [mi_mem ha hb]; unfold keptL; simp [List.mem_filter]
theorem me_is {a b : List Pr} (ha : Rises a) (hb : Rises b) : keptL a b true = keptH meF a b := rises_ext (keptL_rises ha) (keptH_rises _ ha hb) fun p => by
  rw [me_mem ha hb]; unfold keptL; simp [List.mem_filter]
def uD3 (x y z : Nat) : D := .s 1 [[.s 2 (uR x)], [.s 2 (uR y)], [.s 2 (uR z)]]
theorem nums_D3 (x y z : Nat) : Nums (uD3 x y z) := .s _ _ fun i r j d hi hj => by
  match i, hi with
  | 0, hi => cases hi; match j, hj with | 0, hj => cases hj; exact nums_uR _
  | 1, hi => cases hi; match j, hj with | 0, hj => cases hj; exact nums_uR _
  | 2, hi => cases hi; match j, hj with | 0, hj => cases hj; exact nums_uR _
theorem ud_D3 {Z : Zone} {w : World} {v : Value} (u m n : List Pr) (h : RepD Z w v (.s 1 [[RD u], [RD m], [RD n]])) : RepD Z w v (uD3 u.length m.length n.length) := by
  refine RepD.conv h rfl fun i r' hi => ?_
  match i, hi with
  | 0, hi => cases hi; exact ⟨_, rfl, rfl, fun j x hj => by match j, hj with | 0, hj => cases hj; exact ⟨_, rfl, fun w' hw => ud_RD u hw⟩⟩
  | 1, hi => cases hi; exact ⟨_, rfl, rfl, fun j x hj => by match j, hj with | 0, hj => cases hj; exact ⟨_, rfl, fun w' hw => ud_RD m hw⟩⟩
  | 2, hi => cases hi; exact ⟨_, rfl, rfl, fun j x hj => by match j, hj with | 0, hj => cases hj; exact ⟨_, rfl, fun w' hw => ud_RD n hw⟩⟩
def jnB (l1 l2 a b : List Pr) : Row := [(.zn 0, .zn .live), (.tmp 0, .av (.c [0] (RD l1))), (.tmp 1, .av (.c [0] (RD l2))), (.zn 21, .zn .live), (.zn 100021, .zn .live), (.hd 21, .hd (.own 52 2 21 [100021] (a.map PD))), (.tmp 5, .av (.own 21)),
  (.zn 23, .zn .live), (.zn 100023, .zn .live), (.hd 23, .hd (.own 52 2 23 [100023] (b.map PD))), (.tmp 6, .av (.own 23))]
def jnS (l1 l2 a b : List Pr) (d : D) (k : Nat) : Row := [(.zn 900, .zn .live), (.tmp 108, .av (.c [900] d)), (.tmp 109, .av (.c [] (.v (.int .i64 3)))), (.tmp 110, .av (.c [] (.v (.int .i64 k))))] ++ jnB l1 l2 a b
def jnT (l1 l2 a b : List Pr) (d : D) (k n j : Nat) : Row := [(.tmp 14, .av (.c [900] (.s 2 (uR n)))), (.tmp 115, .av (.c [] (.v (.int .i64 n)))), (.tmp 116, .av (.c [] (.v (.int .i64 j))))] ++ jnS l1 l2 a b d k
set_option maxHeartbeats 16000000 in
theorem joins03_ct (l1 l2 : List Pr) : Ct Try.prog 12 [.c (RD l1), .c (RD l2)] none (.one (dB true)) := by
  have cw := wakes03_ct
  have cf1 := few03_ct l1
  have cf2 := few03_ct l2
  have hal : (l1.take 40).length ≤ 40 := by rw [List.length_take]; omega
  have hbl : (l2.take 40).length ≤ 40 := by rw [List.length_take]; omega
  obtain ⟨a, ha⟩ : ∃ m, m = l1.take 40 := ⟨_, rfl⟩
  obtain ⟨b, hb⟩ : ∃ m, m = l2.take 40 := ⟨_, rfl⟩
  rw [← ha] at cf1 hal
  rw [← hb] at cf2 hbl
  clear ha hb
  have ca := rright_ct a
  have cb := rright_ct b
  cases hr : (rightL a && rightL b) with
  | false =>
    have cu := unionp_ct' a b (by omega) hr
    have cmi := minus_ct' a b (by omega) hr
    have cme := meet_ct' a b (by omega) hr
    cases hra : rightL a with
    | false =>
      rw [hra] at ca
      refine ct_intro Try.func12 rfl Try.ntmps12 (by simp) (fun W0 Z => ?_)
      with_reducible (repeat (first | refine AW.seq ?_ | refine AW.block ?_ | refine AW.skip ?_ | refine AW.exit ?_ | refine AW.ret ?_ | refine AW.label ?_ | refine NX.then ?_ | refine NX.ret ?_ | refine NX.exit ?_ | refine NX.inRet ?_ | refine NX.inNormal ?_ | refine NX.inExit ?_ | refine NX.outExit (by decide) ?_))
      refine AW.at_ (fun L hL => ?_)
      simp at hL
      subst hL
      refine AW.re ty (by kernel_rfl) (by first | exact cx_N _ _ _ | assumption) (by first | exact cx_pz _ _ _ | assumption) 1 (by decide) (fun K hK => ?_)
      (try simp only [List.toList_toArray, toList_lit]); repeat (with_reducible refine AR.step (fun K1 K2 hK1 hK2 => ?_); simp; (first | refine hK1.out _ _ ?_ | refine hK2.out _ ?_ | refine ⟨by kernel_rfl, hK2.out _ ?_⟩); clear hK1 hK2 K1 K2; simp); (try with_reducible refine AR.nil ?_)
      refine ⟨chk_text _ _, hK.out _ ?_⟩
      clear hK K
      with_reducible (repeat (first | refine AW.seq ?_ | refine AW.block ?_ | refine AW.skip ?_ | refine AW.exit ?_ | refine AW.ret ?_ | refine AW.label ?_ | refine NX.then ?_ | refine NX.ret ?_ | refine NX.exit ?_ | refine NX.inRet ?_ | refine NX.inNormal ?_ | refine NX.inExit ?_ | refine NX.outExit (by decide) ?_))
      refine AW.re ty (by kernel_rfl) (by first | exact cx_N _ _ _ | assumption) (by first | exact cx_pz _ _ _ | assumption) 10 (by decide) (fun K hK => ?_)
      (try simp only [List.toList_toArray, toList_lit]); repeat (with_reducible refine AR.step (fun K1 K2 hK1 hK2 => ?_); simp; (first | refine hK1.out _ _ ?_ | refine hK2.out _ ?_ | refine ⟨by kernel_rfl, hK2.out _ ?_⟩); clear hK1 hK2 K1 K2; simp); (try with_reducible refine AR.nil ?_)
      refine AR.step (fun K1 K2 hK1 hK2 => ?_)
      simp
      refine orr_l ⟨by kernel_rfl, .inl ⟨_, cw, ?_⟩⟩
      (try simp)
      refine hK1.out _ _ ?_
      clear hK1 hK2 K1 K2
      (try simp)
      (try simp only [List.toList_toArray, toList_lit]); repeat (with_reducible refine AR.step (fun K1 K2 hK1 hK2 => ?_); simp; (first | refine hK1.out _ _ ?_ | refine hK2.out _ ?_ | refine ⟨by kernel_rfl, hK2.out _ ?_⟩); clear hK1 hK2 K1 K2; simp); (try with_reducible refine AR.nil ?_)
      refine ⟨chk_text _ _, hK.out _ ?_⟩
      clear hK K
      with_reducible (repeat (first | refine AW.seq ?_ | refine AW.block ?_ | refine AW.skip ?_ | refine AW.exit ?_ | refine AW.ret ?_ | refine AW.label ?_ | refine NX.then ?_ | refine NX.ret ?_ | refine NX.exit ?_ | refine NX.inRet ?_ | refine NX.inNormal ?_ | refine NX.inExit ?_ | refine NX.outExit (by decide) ?_))
      refine AW.cf rfl ?_
      with_reducible (repeat (first | refine AW.seq ?_ | refine AW.block ?_ | refine AW.skip ?_ | refine AW.exit ?_ | refine AW.ret ?_ | refine AW.label ?_ | refine NX.then ?_ | refine NX.ret ?_ | refine NX.exit ?_ | refine NX.inRet ?_ | refine NX.inNormal ?_ | refine NX.inExit ?_ | refine NX.outExit (by decide) ?_))
      refine AW.re ty (by kernel_rfl) (by first | exact cx_N _ _ _ | assumption) (by first | exact cx_pz _ _ _ | assumption) 20 (by decide) (fun K hK => ?_)
      (try simp only [List.toList_toArray, toList_lit]); repeat (with_reducible refine AR.step (fun K1 K2 hK1 hK2 => ?_); simp; (first | refine hK1.out _ _ ?_ | refine hK2.out _ ?_ | refine ⟨by kernel_rfl, hK2.out _ ?_⟩); clear hK1 hK2 K1 K2; simp); (try with_reducible refine AR.nil ?_)
      refine AR.step (fun K1 K2 hK1 hK2 => ?_)
      simp
      refine orr_l ⟨by kernel_rfl, .inr (.inl ⟨_, _, _, cf1, ?_⟩)⟩
      (try simp)
      refine hK1.out _ _ ?_
      clear hK1 hK2 K1 K2
      (try simp)
      (try simp only [List.toList_toArray, toList_lit]); repeat (with_reducible refine AR.step (fun K1 K2 hK1 hK2 => ?_); simp; (first | refine hK1.out _ _ ?_ | refine hK2.out _ ?_ | refine ⟨by kernel_rfl, hK2.out _ ?_⟩); clear hK1 hK2 K1 K2; simp); (try with_reducible refine AR.nil ?_)
      refine AR.step (fun K1 K2 hK1 hK2 => ?_)
      simp
      refine orr_l ⟨by kernel_rfl, .inr (.inl ⟨_, _, _, cf2, ?_⟩)⟩
      (try simp)
      refine hK1.out _ _ ?_
      clear hK1 hK2 K1 K2
      (try simp)
      (try simp only [List.toList_toArray, toList_lit]); repeat (with_reducible refine AR.step (fun K1 K2 hK1 hK2 => ?_); simp; (first | refine hK1.out _ _ ?_ | refine hK2.out _ ?_ | refine ⟨by kernel_rfl, hK2.out _ ?_⟩); clear hK1 hK2 K1 K2; simp); (try with_reducible refine AR.nil ?_)
      refine ⟨chk_text _ _, hK.out _ ?_⟩
      clear hK K
      with_reducible (repeat (first | refine AW.seq ?_ | refine AW.block ?_ | refine AW.skip ?_ | refine AW.exit ?_ | refine AW.ret ?_ | refine AW.label ?_ | refine NX.then ?_ | refine NX.ret ?_ | refine NX.exit ?_ | refine NX.inRet ?_ | refine NX.inNormal ?_ | refine NX.inExit ?_ | refine NX.outExit (by decide) ?_))
      refine AW.re ty (by kernel_rfl) (by first | exact cx_N _ _ _ | assumption) (by first | exact cx_pz _ _ _ | assumption) 30 (by decide) (fun K hK => ?_)
      (try simp only [List.toList_toArray, toList_lit]); repeat (with_reducible refine AR.step (fun K1 K2 hK1 hK2 => ?_); simp; (first | refine hK1.out _ _ ?_ | refine hK2.out _ ?_ | refine ⟨by kernel_rfl, hK2.out _ ?_⟩); clear hK1 hK2 K1 K2; simp); (try with_reducible refine AR.nil ?_)
      refine AR.step (fun K1 K2 hK1 hK2 => ?_)
      simp
      refine orr_l ⟨by kernel_rfl, .inl ⟨_, cu, ?_⟩⟩
      (try simp)
      refine hK1.out _ _ ?_
      clear hK1 hK2 K1 K2
      (try simp)
      (try simp only [List.toList_toArray, toList_lit]); repeat (with_reducible refine AR.step (fun K1 K2 hK1 hK2 => ?_); simp; (first | refine hK1.out _ _ ?_ | refine hK2.out _ ?_ | refine ⟨by kernel_rfl, hK2.out _ ?_⟩); clear hK1 hK2 K1 K2; simp); (try with_reducible refine AR.nil ?_)
      refine ⟨chk_text _ _, hK.out _ ?_⟩
      clear hK K
      with_reducible (repeat (first | refine AW.seq ?_ | refine AW.block ?_ | refine AW.skip ?_ | refine AW.exit ?_ | refine AW.ret ?_ | refine AW.label ?_ | refine NX.then ?_ | refine NX.ret ?_ | refine NX.exit ?_ | refine NX.inRet ?_ | refine NX.inNormal ?_ | refine NX.inExit ?_ | refine NX.outExit (by decide) ?_))
      refine AW.re ty (by kernel_rfl) (by first | exact cx_N _ _ _ | assumption) (by first | exact cx_pz _ _ _ | assumption) 50 (by decide) (fun K hK => ?_)
      (try simp only [List.toList_toArray, toList_lit]); repeat (with_reducible refine AR.step (fun K1 K2 hK1 hK2 => ?_); simp; (first | refine hK1.out _ _ ?_ | refine hK2.out _ ?_ | refine ⟨by kernel_rfl, hK2.out _ ?_⟩); clear hK1 hK2 K1 K2; simp); (try with_reducible refine AR.nil ?_)
      refine AR.step (fun K1 K2 hK1 hK2 => ?_)
      simp
      refine orr_l ⟨by kernel_rfl, .inl ⟨_, cmi, ?_⟩⟩
      (try simp)
      refine hK1.out _ _ ?_
      clear hK1 hK2 K1 K2
      (try simp)
      (try simp only [List.toList_toArray, toList_lit]); repeat (with_reducible refine AR.step (fun K1 K2 hK1 hK2 => ?_); simp; (first | refine hK1.out _ _ ?_ | refine hK2.out _ ?_ | refine ⟨by kernel_rfl, hK2.out _ ?_⟩); clear hK1 hK2 K1 K2; simp); (try with_reducible refine AR.nil ?_)
      refine ⟨chk_text _ _, hK.out _ ?_⟩
      clear hK K
      with_reducible (repeat (first | refine AW.seq ?_ | refine AW.block ?_ | refine AW.skip ?_ | refine AW.exit ?_ | refine AW.ret ?_ | refine AW.label ?_ | refine NX.then ?_ | refine NX.ret ?_ | refine NX.exit ?_ | refine NX.inRet ?_ | refine NX.inNormal ?_ | refine NX.inExit ?_ | refine NX.outExit (by decide) ?_))
      refine AW.re ty (by kernel_rfl) (by first | exact cx_N _ _ _ | assumption) (by first | exact cx_pz _ _ _ | assumption) 70 (by decide) (fun K hK => ?_)
      (try simp only [List.toList_toArray, toList_lit]); repeat (with_reducible refine AR.step (fun K1 K2 hK1 hK2 => ?_); simp; (first | refine hK1.out _ _ ?_ | refine hK2.out _ ?_ | refine ⟨by kernel_rfl, hK2.out _ ?_⟩); clear hK1 hK2 K1 K2; simp); (try with_reducible refine AR.nil ?_)
      refine AR.step (fun K1 K2 hK1 hK2 => ?_)
      simp
      refine orr_l ⟨by kernel_rfl, .inl ⟨_, cme, ?_⟩⟩
      (try simp)
      refine hK1.out _ _ ?_
      clear hK1 hK2 K1 K2
      (try simp)
      (try simp only [List.toList_toArray, toList_lit]); repeat (with_reducible refine AR.step (fun K1 K2 hK1 hK2 => ?_); simp; (first | refine hK1.out _ _ ?_ | refine hK2.out _ ?_ | refine ⟨by kernel_rfl, hK2.out _ ?_⟩); clear hK1 hK2 K1 K2; simp); (try with_reducible refine AR.nil ?_)
      refine ⟨chk_text _ _, hK.out _ ?_⟩
      clear hK K
      with_reducible (repeat (first | refine AW.seq ?_ | refine AW.block ?_ | refine AW.skip ?_ | refine AW.exit ?_ | refine AW.ret ?_ | refine AW.label ?_ | refine NX.then ?_ | refine NX.ret ?_ | refine NX.exit ?_ | refine NX.inRet ?_ | refine NX.inNormal ?_ | refine NX.inExit ?_ | refine NX.outExit (by decide) ?_))
      refine AW.re ty (by kernel_rfl) (by first | exact cx_N _ _ _ | assumption) (by first | exact cx_pz _ _ _ | assumption) 90 (by decide) (fun K hK => ?_)
      (try simp only [List.toList_toArray, toList_lit]); repeat (with_reducible refine AR.step (fun K1 K2 hK1 hK2 => ?_); simp; (first | refine hK1.out _ _ ?_ | refine hK2.out _ ?_ | refine ⟨by kernel_rfl, hK2.out _ ?_⟩); clear hK1 hK2 K1 K2; simp); (try with_reducible refine AR.nil ?_)
      refine AR.step (fun K1 K2 hK1 hK2 => ?_)
      simp
      refine orr_l ⟨by kernel_rfl, .inl ⟨_, ca, ?_⟩⟩
      (try simp)
      refine hK1.out _ _ ?_
      clear hK1 hK2 K1 K2
      (try simp)
      (try simp only [List.toList_toArray, toList_lit]); repeat (with_reducible refine AR.step (fun K1 K2 hK1 hK2 => ?_); simp; (first | refine hK1.out _ _ ?_ | refine hK2.out _ ?_ | refine ⟨by kernel_rfl, hK2.out _ ?_⟩); clear hK1 hK2 K1 K2; simp); (try with_reducible refine AR.nil ?_)
      refine ⟨chk_text _ _, hK.out _ ?_⟩
      clear hK K
      with_reducible (repeat (first | refine AW.seq ?_ | refine AW.block ?_ | refine AW.skip ?_ | refine AW.exit ?_ | refine AW.ret ?_ | refine AW.label ?_ | refine NX.then ?_ | refine NX.ret ?_ | refine NX.exit ?_ | refine NX.inRet ?_ | refine NX.inNormal ?_ | refine NX.inExit ?_ | refine NX.outExit (by decide) ?_))
      refine AW.ct rfl ?_
      with_reducible (repeat (first | refine AW.seq ?_ | refine AW.block ?_ | refine AW.skip ?_ | refine AW.exit ?_ | refine AW.ret ?_ | refine AW.label ?_ | refine NX.then ?_ | refine NX.ret ?_ | refine NX.exit ?_ | refine NX.inRet ?_ | refine NX.inNormal ?_ | refine NX.inExit ?_ | refine NX.outExit (by decide) ?_))
      refine AW.re ty (by kernel_rfl) (by first | exact cx_N _ _ _ | assumption) (by first | exact cx_pz _ _ _ | assumption) 120 (by decide) (fun K hK => ?_)
      (try simp only [List.toList_toArray, toList_lit]); repeat (with_reducible refine AR.step (fun K1 K2 hK1 hK2 => ?_); simp; (first | refine hK1.out _ _ ?_ | refine hK2.out _ ?_ | refine ⟨by kernel_rfl, hK2.out _ ?_⟩); clear hK1 hK2 K1 K2; simp); (try with_reducible refine AR.nil ?_)
      refine ⟨chk_text _ _, hK.out _ ?_⟩
      clear hK K
      with_reducible (repeat (first | refine AW.seq ?_ | refine AW.block ?_ | refine AW.skip ?_ | refine AW.exit ?_ | refine AW.ret ?_ | refine AW.label ?_ | refine NX.then ?_ | refine NX.ret ?_ | refine NX.exit ?_ | refine NX.inRet ?_ | refine NX.inNormal ?_ | refine NX.inExit ?_ | refine NX.outExit (by decide) ?_))
      refine nx_ret (T := ty) (rs := [.tmp 4]) (zs := []) (ds := [dB true]) (rr := []) (.inr rfl) rfl (by kernel_rfl) (by kernel_rfl) (by simp) rfl
    | true =>
      have hrb : rightL b = false := by rw [hra] at hr; exact hr
      rw [hra] at ca
      rw [hrb] at cb
      refine ct_intro Try.func12 rfl Try.ntmps12 (by simp) (fun W0 Z => ?_)
      with_reducible (repeat (first | refine AW.seq ?_ | refine AW.block ?_ | refine AW.skip ?_ | refine AW.exit ?_ | refine AW.ret ?_ | refine AW.label ?_ | refine NX.then ?_ | refine NX.ret ?_ | refine NX.exit ?_ | refine NX.inRet ?_ | refine NX.inNormal ?_ | refine NX.inExit ?_ | refine NX.outExit (by decide) ?_))
      refine AW.at_ (fun L hL => ?_)
      simp at hL
      subst hL
      refine AW.re ty (by kernel_rfl) (by first | exact cx_N _ _ _ | assumption) (by first | exact cx_pz _ _ _ | assumption) 1 (by decide) (fun K hK => ?_)
      (try simp only [List.toList_toArray, toList_lit]); repeat (with_reducible refine AR.step (fun K1 K2 hK1 hK2 => ?_); simp; (first | refine hK1.out _ _ ?_ | refine hK2.out _ ?_ | refine ⟨by kernel_rfl, hK2.out _ ?_⟩); clear hK1 hK2 K1 K2; simp); (try with_reducible refine AR.nil ?_)
      refine ⟨chk_text _ _, hK.out _ ?_⟩
      clear hK K
      with_reducible (repeat (first | refine AW.seq ?_ | refine AW.block ?_ | refine AW.skip ?_ | refine AW.exit ?_ | refine AW.ret ?_ | refine AW.label ?_ | refine NX.then ?_ | refine NX.ret ?_ | refine NX.exit ?_ | refine NX.inRet ?_ | refine NX.inNormal ?_ | refine NX.inExit ?_ | refine NX.outExit (by decide) ?_))
      refine AW.re ty (by kernel_rfl) (by first | exact cx_N _ _ _ | assumption) (by first | exact cx_pz _ _ _ | assumption) 10 (by decide) (fun K hK => ?_)
      (try simp only [List.toList_toArray, toList_lit]); repeat (with_reducible refine AR.step (fun K1 K2 hK1 hK2 => ?_); simp; (first | refine hK1.out _ _ ?_ | refine hK2.out _ ?_ | refine ⟨by kernel_rfl, hK2.out _ ?_⟩); clear hK1 hK2 K1 K2; simp); (try with_reducible refine AR.nil ?_)
      refine AR.step (fun K1 K2 hK1 hK2 => ?_)
      simp
      refine orr_l ⟨by kernel_rfl, .inl ⟨_, cw, ?_⟩⟩
      (try simp)
      refine hK1.out _ _ ?_
      clear hK1 hK2 K1 K2
      (try simp)
      (try simp only [List.toList_toArray, toList_lit]); repeat (with_reducible refine AR.step (fun K1 K2 hK1 hK2 => ?_); simp; (first | refine hK1.out _ _ ?_ | refine hK2.out _ ?_ | refine ⟨by kernel_rfl, hK2.out _ ?_⟩); clear hK1 hK2 K1 K2; simp); (try with_reducible refine AR.nil ?_)
      refine ⟨chk_text _ _, hK.out _ ?_⟩
      clear hK K
      with_reducible (repeat (first | refine AW.seq ?_ | refine AW.block ?_ | refine AW.skip ?_ | refine AW.exit ?_ | refine AW.ret ?_ | refine AW.label ?_ | refine NX.then ?_ | refine NX.ret ?_ | refine NX.exit ?_ | refine NX.inRet ?_ | refine NX.inNormal ?_ | refine NX.inExit ?_ | refine NX.outExit (by decide) ?_))
      refine AW.cf rfl ?_
      with_reducible (repeat (first | refine AW.seq ?_ | refine AW.block ?_ | refine AW.skip ?_ | refine AW.exit ?_ | refine AW.ret ?_ | refine AW.label ?_ | refine NX.then ?_ | refine NX.ret ?_ | refine NX.exit ?_ | refine NX.inRet ?_ | refine NX.inNormal ?_ | refine NX.inExit ?_ | refine NX.outExit (by decide) ?_))
      refine AW.re ty (by kernel_rfl) (by first | exact cx_N _ _ _ | assumption) (by first | exact cx_pz _ _ _ | assumption) 20 (by decide) (fun K hK => ?_)
      (try simp only [List.toList_toArray, toList_lit]); repeat (with_reducible refine AR.step (fun K1 K2 hK1 hK2 => ?_); simp; (first | refine hK1.out _ _ ?_ | refine hK2.out _ ?_ | refine ⟨by kernel_rfl, hK2.out _ ?_⟩); clear hK1 hK2 K1 K2; simp); (try with_reducible refine AR.nil ?_)
      refine AR.step (fun K1 K2 hK1 hK2 => ?_)
      simp
      refine orr_l ⟨by kernel_rfl, .inr (.inl ⟨_, _, _, cf1, ?_⟩)⟩
      (try simp)
      refine hK1.out _ _ ?_
      clear hK1 hK2 K1 K2
      (try simp)
      (try simp only [List.toList_toArray, toList_lit]); repeat (with_reducible refine AR.step (fun K1 K2 hK1 hK2 => ?_); simp; (first | refine hK1.out _ _ ?_ | refine hK2.out _ ?_ | refine ⟨by kernel_rfl, hK2.out _ ?_⟩); clear hK1 hK2 K1 K2; simp); (try with_reducible refine AR.nil ?_)
      refine AR.step (fun K1 K2 hK1 hK2 => ?_)
      simp
      refine orr_l ⟨by kernel_rfl, .inr (.inl ⟨_, _, _, cf2, ?_⟩)⟩
      (try simp)
      refine hK1.out _ _ ?_
      clear hK1 hK2 K1 K2
      (try simp)
      (try simp only [List.toList_toArray, toList_lit]); repeat (with_reducible refine AR.step (fun K1 K2 hK1 hK2 => ?_); simp; (first | refine hK1.out _ _ ?_ | refine hK2.out _ ?_ | refine ⟨by kernel_rfl, hK2.out _ ?_⟩); clear hK1 hK2 K1 K2; simp); (try with_reducible refine AR.nil ?_)
      refine ⟨chk_text _ _, hK.out _ ?_⟩
      clear hK K
      with_reducible (repeat (first | refine AW.seq ?_ | refine AW.block ?_ | refine AW.skip ?_ | refine AW.exit ?_ | refine AW.ret ?_ | refine AW.label ?_ | refine NX.then ?_ | refine NX.ret ?_ | refine NX.exit ?_ | refine NX.inRet ?_ | refine NX.inNormal ?_ | refine NX.inExit ?_ | refine NX.outExit (by decide) ?_))
      refine AW.re ty (by kernel_rfl) (by first | exact cx_N _ _ _ | assumption) (by first | exact cx_pz _ _ _ | assumption) 30 (by decide) (fun K hK => ?_)
      (try simp only [List.toList_toArray, toList_lit]); repeat (with_reducible refine AR.step (fun K1 K2 hK1 hK2 => ?_); simp; (first | refine hK1.out _ _ ?_ | refine hK2.out _ ?_ | refine ⟨by kernel_rfl, hK2.out _ ?_⟩); clear hK1 hK2 K1 K2; simp); (try with_reducible refine AR.nil ?_)
      refine AR.step (fun K1 K2 hK1 hK2 => ?_)
      simp
      refine orr_l ⟨by kernel_rfl, .inl ⟨_, cu, ?_⟩⟩
      (try simp)
      refine hK1.out _ _ ?_
      clear hK1 hK2 K1 K2
      (try simp)
      (try simp only [List.toList_toArray, toList_lit]); repeat (with_reducible refine AR.step (fun K1 K2 hK1 hK2 => ?_); simp; (first | refine hK1.out _ _ ?_ | refine hK2.out _ ?_ | refine ⟨by kernel_rfl, hK2.out _ ?_⟩); clear hK1 hK2 K1 K2; simp); (try with_reducible refine AR.nil ?_)
      refine ⟨chk_text _ _, hK.out _ ?_⟩
      clear hK K
      with_reducible (repeat (first | refine AW.seq ?_ | refine AW.block ?_ | refine AW.skip ?_ | refine AW.exit ?_ | refine AW.ret ?_ | refine AW.label ?_ | refine NX.then ?_ | refine NX.ret ?_ | refine NX.exit ?_ | refine NX.inRet ?_ | refine NX.inNormal ?_ | refine NX.inExit ?_ | refine NX.outExit (by decide) ?_))
      refine AW.re ty (by kernel_rfl) (by first | exact cx_N _ _ _ | assumption) (by first | exact cx_pz _ _ _ | assumption) 50 (by decide) (fun K hK => ?_)
      (try simp only [List.toList_toArray, toList_lit]); repeat (with_reducible refine AR.step (fun K1 K2 hK1 hK2 => ?_); simp; (first | refine hK1.out _ _ ?_ | refine hK2.out _ ?_ | refine ⟨by kernel_rfl, hK2.out _ ?_⟩); clear hK1 hK2 K1 K2; simp); (try with_reducible refine AR.nil ?_)
      refine AR.step (fun K1 K2 hK1 hK2 => ?_)
      simp
      refine orr_l ⟨by kernel_rfl, .inl ⟨_, cmi, ?_⟩⟩
      (try simp)
      refine hK1.out _ _ ?_
      clear hK1 hK2 K1 K2
      (try simp)
      (try simp only [List.toList_toArray, toList_lit]); repeat (with_reducible refine AR.step (fun K1 K2 hK1 hK2 => ?_); simp; (first | refine hK1.out _ _ ?_ | refine hK2.out _ ?_ | refine ⟨by kernel_rfl, hK2.out _ ?_⟩); clear hK1 hK2 K1 K2; simp); (try with_reducible refine AR.nil ?_)
      refine ⟨chk_text _ _, hK.out _ ?_⟩
      clear hK K
      with_reducible (repeat (first | refine AW.seq ?_ | refine AW.block ?_ | refine AW.skip ?_ | refine AW.exit ?_ | refine AW.ret ?_ | refine AW.label ?_ | refine NX.then ?_ | refine NX.ret ?_ | refine NX.exit ?_ | refine NX.inRet ?_ | refine NX.inNormal ?_ | refine NX.inExit ?_ | refine NX.outExit (by decide) ?_))
      refine AW.re ty (by kernel_rfl) (by first | exact cx_N _ _ _ | assumption) (by first | exact cx_pz _ _ _ | assumption) 70 (by decide) (fun K hK => ?_)
      (try simp only [List.toList_toArray, toList_lit]); repeat (with_reducible refine AR.step (fun K1 K2 hK1 hK2 => ?_); simp; (first | refine hK1.out _ _ ?_ | refine hK2.out _ ?_ | refine ⟨by kernel_rfl, hK2.out _ ?_⟩); clear hK1 hK2 K1 K2; simp); (try with_reducible refine AR.nil ?_)
      refine AR.step (fun K1 K2 hK1 hK2 => ?_)
      simp
      refine orr_l ⟨by kernel_rfl, .inl ⟨_, cme, ?_⟩⟩
      (try simp)
      refine hK1.out _ _ ?_
      clear hK1 hK2 K1 K2
      (try simp)
      (try simp only [List.toList_toArray, toList_lit]); repeat (with_reducible refine AR.step (fun K1 K2 hK1 hK2 => ?_); simp; (first | refine hK1.out _ _ ?_ | refine hK2.out _ ?_ | refine ⟨by kernel_rfl, hK2.out _ ?_⟩); clear hK1 hK2 K1 K2; simp); (try with_reducible refine AR.nil ?_)
      refine ⟨chk_text _ _, hK.out _ ?_⟩
      clear hK K
      with_reducible (repeat (first | refine AW.seq ?_ | refine AW.block ?_ | refine AW.skip ?_ | refine AW.exit ?_ | refine AW.ret ?_ | refine AW.label ?_ | refine NX.then ?_ | refine NX.ret ?_ | refine NX.exit ?_ | refine NX.inRet ?_ | refine NX.inNormal ?_ | refine NX.inExit ?_ | refine NX.outExit (by decide) ?_))
      refine AW.re ty (by kernel_rfl) (by first | exact cx_N _ _ _ | assumption) (by first | exact cx_pz _ _ _ | assumption) 90 (by decide) (fun K hK => ?_)
      (try simp only [List.toList_toArray, toList_lit]); repeat (with_reducible refine AR.step (fun K1 K2 hK1 hK2 => ?_); simp; (first | refine hK1.out _ _ ?_ | refine hK2.out _ ?_ | refine ⟨by kernel_rfl, hK2.out _ ?_⟩); clear hK1 hK2 K1 K2; simp); (try with_reducible refine AR.nil ?_)
      refine AR.step (fun K1 K2 hK1 hK2 => ?_)
      simp
      refine orr_l ⟨by kernel_rfl, .inl ⟨_, ca, ?_⟩⟩
      (try simp)
      refine hK1.out _ _ ?_
      clear hK1 hK2 K1 K2
      (try simp)
      (try simp only [List.toList_toArray, toList_lit]); repeat (with_reducible refine AR.step (fun K1 K2 hK1 hK2 => ?_); simp; (first | refine hK1.out _ _ ?_ | refine hK2.out _ ?_ | refine ⟨by kernel_rfl, hK2.out _ ?_⟩); clear hK1 hK2 K1 K2; simp); (try with_reducible refine AR.nil ?_)
      refine AR.step (fun K1 K2 hK1 hK2 => ?_)
      simp
      refine orr_l ⟨by kernel_rfl, .inl ⟨_, cb, ?_⟩⟩
      (try simp)
      refine hK1.out _ _ ?_
      clear hK1 hK2 K1 K2
      (try simp)
      (try simp only [List.toList_toArray, toList_lit]); repeat (with_reducible refine AR.step (fun K1 K2 hK1 hK2 => ?_); simp; (first | refine hK1.out _ _ ?_ | refine hK2.out _ ?_ | refine ⟨by kernel_rfl, hK2.out _ ?_⟩); clear hK1 hK2 K1 K2; simp); (try with_reducible refine AR.nil ?_)
      refine ⟨chk_text _ _, hK.out _ ?_⟩
      clear hK K
      with_reducible (repeat (first | refine AW.seq ?_ | refine AW.block ?_ | refine AW.skip ?_ | refine AW.exit ?_ | refine AW.ret ?_ | refine AW.label ?_ | refine NX.then ?_ | refine NX.ret ?_ | refine NX.exit ?_ | refine NX.inRet ?_ | refine NX.inNormal ?_ | refine NX.inExit ?_ | refine NX.outExit (by decide) ?_))
      refine AW.ct rfl ?_
      with_reducible (repeat (first | refine AW.seq ?_ | refine AW.block ?_ | refine AW.skip ?_ | refine AW.exit ?_ | refine AW.ret ?_ | refine AW.label ?_ | refine NX.then ?_ | refine NX.ret ?_ | refine NX.exit ?_ | refine NX.inRet ?_ | refine NX.inNormal ?_ | refine NX.inExit ?_ | refine NX.outExit (by decide) ?_))
      refine AW.re ty (by kernel_rfl) (by first | exact cx_N _ _ _ | assumption) (by first | exact cx_pz _ _ _ | assumption) 120 (by decide) (fun K hK => ?_)
      (try simp only [List.toList_toArray, toList_lit]); repeat (with_reducible refine AR.step (fun K1 K2 hK1 hK2 => ?_); simp; (first | refine hK1.out _ _ ?_ | refine hK2.out _ ?_ | refine ⟨by kernel_rfl, hK2.out _ ?_⟩); clear hK1 hK2 K1 K2; simp); (try with_reducible refine AR.nil ?_)
      refine ⟨chk_text _ _, hK.out _ ?_⟩
      clear hK K
      with_reducible (repeat (first | refine AW.seq ?_ | refine AW.block ?_ | refine AW.skip ?_ | refine AW.exit ?_ | refine AW.ret ?_ | refine AW.label ?_ | refine NX.then ?_ | refine NX.ret ?_ | refine NX.exit ?_ | refine NX.inRet ?_ | refine NX.inNormal ?_ | refine NX.inExit ?_ | refine NX.outExit (by decide) ?_))
      refine nx_ret (T := ty) (rs := [.tmp 4]) (zs := []) (ds := [dB true]) (rr := []) (.inr rfl) rfl (by kernel_rfl) (by kernel_rfl) (by simp) rfl
  | true =>
    have hra : rightL a = true := by simp only [Bool.and_eq_true] at hr; exact hr.1
    have hrb : rightL b = true := by simp only [Bool.and_eq_true] at hr; exact hr.2
    rw [hra] at ca
    rw [hrb] at cb
    have sa := right_rises hra
    have sb := right_rises hrb
    have l1' := keptH_len unF a b
    have l2' := keptH_len miF a b
    have l3' := keptH_len meF a b
    have cu := unionp_ct a b (by omega) hr
    have cmi := minus_ct a b (by omega) hr
    have cme := meet_ct a b (by omega) hr
    have ru := runion_ct a b (by omega) (by omega)
    rw [un_is sa sb] at ru
    have rmi := rkept_ct a b false (by omega)
    rw [mi_is sa sb] at rmi
    have rme := rkept_ct a b true (by omega)
    rw [me_is sa sb] at rme
    generalize keptH unF a b = u at *
    generalize keptH miF a b = m at *
    generalize keptH meF a b = n at *
    have eu := equal_ct u u
    rw [decide_eq_true rfl] at eu
    have em := equal_ct m m
    rw [decide_eq_true rfl] at em
    have en := equal_ct n n
    rw [decide_eq_true rfl] at en
    have ea := equal_ct a a
    rw [decide_eq_true rfl] at ea
    have eb := equal_ct b b
    rw [decide_eq_true rfl] at eb
    refine ct_intro Try.func12 rfl Try.ntmps12 (by simp) (fun W0 Z => ?_)
    with_reducible (repeat (first | refine AW.seq ?_ | refine AW.block ?_ | refine AW.skip ?_ | refine AW.exit ?_ | refine AW.ret ?_ | refine AW.label ?_ | refine NX.then ?_ | refine NX.ret ?_ | refine NX.exit ?_ | refine NX.inRet ?_ | refine NX.inNormal ?_ | refine NX.inExit ?_ | refine NX.outExit (by decide) ?_))
    refine AW.at_ (fun L hL => ?_)
    simp at hL
    subst hL
    refine AW.re ty (by kernel_rfl) (by first | exact cx_N _ _ _ | assumption) (by first | exact cx_pz _ _ _ | assumption) 1 (by decide) (fun K hK => ?_)
    (try simp only [List.toList_toArray, toList_lit]); repeat (with_reducible refine AR.step (fun K1 K2 hK1 hK2 => ?_); simp; (first | refine hK1.out _ _ ?_ | refine hK2.out _ ?_ | refine ⟨by kernel_rfl, hK2.out _ ?_⟩); clear hK1 hK2 K1 K2; simp); (try with_reducible refine AR.nil ?_)
    refine ⟨chk_text _ _, hK.out _ ?_⟩
    clear hK K
    with_reducible (repeat (first | refine AW.seq ?_ | refine AW.block ?_ | refine AW.skip ?_ | refine AW.exit ?_ | refine AW.ret ?_ | refine AW.label ?_ | refine NX.then ?_ | refine NX.ret ?_ | refine NX.exit ?_ | refine NX.inRet ?_ | refine NX.inNormal ?_ | refine NX.inExit ?_ | refine NX.outExit (by decide) ?_))
    refine AW.re ty (by kernel_rfl) (by first | exact cx_N _ _ _ | assumption) (by first | exact cx_pz _ _ _ | assumption) 10 (by decide) (fun K hK => ?_)
    (try simp only [List.toList_toArray, toList_lit]); repeat (with_reducible refine AR.step (fun K1 K2 hK1 hK2 => ?_); simp; (first | refine hK1.out _ _ ?_ | refine hK2.out _ ?_ | refine ⟨by kernel_rfl, hK2.out _ ?_⟩); clear hK1 hK2 K1 K2; simp); (try with_reducible refine AR.nil ?_)
    refine AR.step (fun K1 K2 hK1 hK2 => ?_)
    simp
    refine orr_l ⟨by kernel_rfl, .inl ⟨_, cw, ?_⟩⟩
    (try simp)
    refine hK1.out _ _ ?_
    clear hK1 hK2 K1 K2
    (try simp)
    (try simp only [List.toList_toArray, toList_lit]); repeat (with_reducible refine AR.step (fun K1 K2 hK1 hK2 => ?_); simp; (first | refine hK1.out _ _ ?_ | refine hK2.out _ ?_ | refine ⟨by kernel_rfl, hK2.out _ ?_⟩); clear hK1 hK2 K1 K2; simp); (try with_reducible refine AR.nil ?_)
    refine ⟨chk_text _ _, hK.out _ ?_⟩
    clear hK K
    with_reducible (repeat (first | refine AW.seq ?_ | refine AW.block ?_ | refine AW.skip ?_ | refine AW.exit ?_ | refine AW.ret ?_ | refine AW.label ?_ | refine NX.then ?_ | refine NX.ret ?_ | refine NX.exit ?_ | refine NX.inRet ?_ | refine NX.inNormal ?_ | refine NX.inExit ?_ | refine NX.outExit (by decide) ?_))
    refine AW.cf rfl ?_
    with_reducible (repeat (first | refine AW.seq ?_ | refine AW.block ?_ | refine AW.skip ?_ | refine AW.exit ?_ | refine AW.ret ?_ | refine AW.label ?_ | refine NX.then ?_ | refine NX.ret ?_ | refine NX.exit ?_ | refine NX.inRet ?_ | refine NX.inNormal ?_ | refine NX.inExit ?_ | refine NX.outExit (by decide) ?_))
    refine AW.re ty (by kernel_rfl) (by first | exact cx_N _ _ _ | assumption) (by first | exact cx_pz _ _ _ | assumption) 20 (by decide) (fun K hK => ?_)
    (try simp only [List.toList_toArray, toList_lit]); repeat (with_reducible refine AR.step (fun K1 K2 hK1 hK2 => ?_); simp; (first | refine hK1.out _ _ ?_ | refine hK2.out _ ?_ | refine ⟨by kernel_rfl, hK2.out _ ?_⟩); clear hK1 hK2 K1 K2; simp); (try with_reducible refine AR.nil ?_)
    refine AR.step (fun K1 K2 hK1 hK2 => ?_)
    simp
    refine orr_l ⟨by kernel_rfl, .inr (.inl ⟨_, _, _, cf1, ?_⟩)⟩
    (try simp)
    refine hK1.out _ _ ?_
    clear hK1 hK2 K1 K2
    (try simp)
    (try simp only [List.toList_toArray, toList_lit]); repeat (with_reducible refine AR.step (fun K1 K2 hK1 hK2 => ?_); simp; (first | refine hK1.out _ _ ?_ | refine hK2.out _ ?_ | refine ⟨by kernel_rfl, hK2.out _ ?_⟩); clear hK1 hK2 K1 K2; simp); (try with_reducible refine AR.nil ?_)
    refine AR.step (fun K1 K2 hK1 hK2 => ?_)
    simp
    refine orr_l ⟨by kernel_rfl, .inr (.inl ⟨_, _, _, cf2, ?_⟩)⟩
    (try simp)
    refine hK1.out _ _ ?_
    clear hK1 hK2 K1 K2
    (try simp)
    (try simp only [List.toList_toArray, toList_lit]); repeat (with_reducible refine AR.step (fun K1 K2 hK1 hK2 => ?_); simp; (first | refine hK1.out _ _ ?_ | refine hK2.out _ ?_ | refine ⟨by kernel_rfl, hK2.out _ ?_⟩); clear hK1 hK2 K1 K2; simp); (try with_reducible refine AR.nil ?_)
    refine ⟨chk_text _ _, hK.out _ ?_⟩
    clear hK K
    with_reducible (repeat (first | refine AW.seq ?_ | refine AW.block ?_ | refine AW.skip ?_ | refine AW.exit ?_ | refine AW.ret ?_ | refine AW.label ?_ | refine NX.then ?_ | refine NX.ret ?_ | refine NX.exit ?_ | refine NX.inRet ?_ | refine NX.inNormal ?_ | refine NX.inExit ?_ | refine NX.outExit (by decide) ?_))
    refine AW.re ty (by kernel_rfl) (by first | exact cx_N _ _ _ | assumption) (by first | exact cx_pz _ _ _ | assumption) 30 (by decide) (fun K hK => ?_)
    (try simp only [List.toList_toArray, toList_lit]); repeat (with_reducible refine AR.step (fun K1 K2 hK1 hK2 => ?_); simp; (first | refine hK1.out _ _ ?_ | refine hK2.out _ ?_ | refine ⟨by kernel_rfl, hK2.out _ ?_⟩); clear hK1 hK2 K1 K2; simp); (try with_reducible refine AR.nil ?_)
    refine AR.step (fun K1 K2 hK1 hK2 => ?_)
    simp
    refine orr_l ⟨by kernel_rfl, .inl ⟨_, cu, ?_⟩⟩
    (try simp)
    refine hK1.out _ _ ?_
    clear hK1 hK2 K1 K2
    (try simp)
    (try simp only [List.toList_toArray, toList_lit]); repeat (with_reducible refine AR.step (fun K1 K2 hK1 hK2 => ?_); simp; (first | refine hK1.out _ _ ?_ | refine hK2.out _ ?_ | refine ⟨by kernel_rfl, hK2.out _ ?_⟩); clear hK1 hK2 K1 K2; simp); (try with_reducible refine AR.nil ?_)
    refine ⟨chk_text _ _, hK.out _ ?_⟩
    clear hK K
    with_reducible (repeat (first | refine AW.seq ?_ | refine AW.block ?_ | refine AW.skip ?_ | refine AW.exit ?_ | refine AW.ret ?_ | refine AW.label ?_ | refine NX.then ?_ | refine NX.ret ?_ | refine NX.exit ?_ | refine NX.inRet ?_ | refine NX.inNormal ?_ | refine NX.inExit ?_ | refine NX.outExit (by decide) ?_))
    refine AW.re ty (by kernel_rfl) (by first | exact cx_N _ _ _ | assumption) (by first | exact cx_pz _ _ _ | assumption) 50 (by decide) (fun K hK => ?_)
    (try simp only [List.toList_toArray, toList_lit]); repeat (with_reducible refine AR.step (fun K1 K2 hK1 hK2 => ?_); simp; (first | refine hK1.out _ _ ?_ | refine hK2.out _ ?_ | refine ⟨by kernel_rfl, hK2.out _ ?_⟩); clear hK1 hK2 K1 K2; simp); (try with_reducible refine AR.nil ?_)
    refine AR.step (fun K1 K2 hK1 hK2 => ?_)
    simp
    refine orr_l ⟨by kernel_rfl, .inl ⟨_, cmi, ?_⟩⟩
    (try simp)
    refine hK1.out _ _ ?_
    clear hK1 hK2 K1 K2
    (try simp)
    (try simp only [List.toList_toArray, toList_lit]); repeat (with_reducible refine AR.step (fun K1 K2 hK1 hK2 => ?_); simp; (first | refine hK1.out _ _ ?_ | refine hK2.out _ ?_ | refine ⟨by kernel_rfl, hK2.out _ ?_⟩); clear hK1 hK2 K1 K2; simp); (try with_reducible refine AR.nil ?_)
    refine ⟨chk_text _ _, hK.out _ ?_⟩
    clear hK K
    with_reducible (repeat (first | refine AW.seq ?_ | refine AW.block ?_ | refine AW.skip ?_ | refine AW.exit ?_ | refine AW.ret ?_ | refine AW.label ?_ | refine NX.then ?_ | refine NX.ret ?_ | refine NX.exit ?_ | refine NX.inRet ?_ | refine NX.inNormal ?_ | refine NX.inExit ?_ | refine NX.outExit (by decide) ?_))
    refine AW.re ty (by kernel_rfl) (by first | exact cx_N _ _ _ | assumption) (by first | exact cx_pz _ _ _ | assumption) 70 (by decide) (fun K hK => ?_)
    (try simp only [List.toList_toArray, toList_lit]); repeat (with_reducible refine AR.step (fun K1 K2 hK1 hK2 => ?_); simp; (first | refine hK1.out _ _ ?_ | refine hK2.out _ ?_ | refine ⟨by kernel_rfl, hK2.out _ ?_⟩); clear hK1 hK2 K1 K2; simp); (try with_reducible refine AR.nil ?_)
    refine AR.step (fun K1 K2 hK1 hK2 => ?_)
    simp
    refine orr_l ⟨by kernel_rfl, .inl ⟨_, cme, ?_⟩⟩
    (try simp)
    refine hK1.out _ _ ?_
    clear hK1 hK2 K1 K2
    (try simp)
    (try simp only [List.toList_toArray, toList_lit]); repeat (with_reducible refine AR.step (fun K1 K2 hK1 hK2 => ?_); simp; (first | refine hK1.out _ _ ?_ | refine hK2.out _ ?_ | refine ⟨by kernel_rfl, hK2.out _ ?_⟩); clear hK1 hK2 K1 K2; simp); (try with_reducible refine AR.nil ?_)
    refine ⟨chk_text _ _, hK.out _ ?_⟩
    clear hK K
    with_reducible (repeat (first | refine AW.seq ?_ | refine AW.block ?_ | refine AW.skip ?_ | refine AW.exit ?_ | refine AW.ret ?_ | refine AW.label ?_ | refine NX.then ?_ | refine NX.ret ?_ | refine NX.exit ?_ | refine NX.inRet ?_ | refine NX.inNormal ?_ | refine NX.inExit ?_ | refine NX.outExit (by decide) ?_))
    refine AW.re ty (by kernel_rfl) (by first | exact cx_N _ _ _ | assumption) (by first | exact cx_pz _ _ _ | assumption) 90 (by decide) (fun K hK => ?_)
    (try simp only [List.toList_toArray, toList_lit]); repeat (with_reducible refine AR.step (fun K1 K2 hK1 hK2 => ?_); simp; (first | refine hK1.out _ _ ?_ | refine hK2.out _ ?_ | refine ⟨by kernel_rfl, hK2.out _ ?_⟩); clear hK1 hK2 K1 K2; simp); (try with_reducible refine AR.nil ?_)
    refine AR.step (fun K1 K2 hK1 hK2 => ?_)
    simp
    refine orr_l ⟨by kernel_rfl, .inl ⟨_, ca, ?_⟩⟩
    (try simp)
    refine hK1.out _ _ ?_
    clear hK1 hK2 K1 K2
    (try simp)
    (try simp only [List.toList_toArray, toList_lit]); repeat (with_reducible refine AR.step (fun K1 K2 hK1 hK2 => ?_); simp; (first | refine hK1.out _ _ ?_ | refine hK2.out _ ?_ | refine ⟨by kernel_rfl, hK2.out _ ?_⟩); clear hK1 hK2 K1 K2; simp); (try with_reducible refine AR.nil ?_)
    refine AR.step (fun K1 K2 hK1 hK2 => ?_)
    simp
    refine orr_l ⟨by kernel_rfl, .inl ⟨_, cb, ?_⟩⟩
    (try simp)
    refine hK1.out _ _ ?_
    clear hK1 hK2 K1 K2
    (try simp)
    (try simp only [List.toList_toArray, toList_lit]); repeat (with_reducible refine AR.step (fun K1 K2 hK1 hK2 => ?_); simp; (first | refine hK1.out _ _ ?_ | refine hK2.out _ ?_ | refine ⟨by kernel_rfl, hK2.out _ ?_⟩); clear hK1 hK2 K1 K2; simp); (try with_reducible refine AR.nil ?_)
    refine ⟨chk_text _ _, hK.out _ ?_⟩
    clear hK K
    with_reducible (repeat (first | refine AW.seq ?_ | refine AW.block ?_ | refine AW.skip ?_ | refine AW.exit ?_ | refine AW.ret ?_ | refine AW.label ?_ | refine NX.then ?_ | refine NX.ret ?_ | refine NX.exit ?_ | refine NX.inRet ?_ | refine NX.inNormal ?_ | refine NX.inExit ?_ | refine NX.outExit (by decide) ?_))
    refine AW.cf rfl ?_
    with_reducible (repeat (first | refine AW.seq ?_ | refine AW.block ?_ | refine AW.skip ?_ | refine AW.exit ?_ | refine AW.ret ?_ | refine AW.label ?_ | refine NX.then ?_ | refine NX.ret ?_ | refine NX.exit ?_ | refine NX.inRet ?_ | refine NX.inNormal ?_ | refine NX.inExit ?_ | refine NX.outExit (by decide) ?_))
    refine AW.re ty (by kernel_rfl) (by first | exact cx_N _ _ _ | assumption) (by first | exact cx_pz _ _ _ | assumption) 120 (by decide) (fun K hK => ?_)
    (try simp only [List.toList_toArray, toList_lit]); repeat (with_reducible refine AR.step (fun K1 K2 hK1 hK2 => ?_); simp; (first | refine hK1.out _ _ ?_ | refine hK2.out _ ?_ | refine ⟨by kernel_rfl, hK2.out _ ?_⟩); clear hK1 hK2 K1 K2; simp); (try with_reducible refine AR.nil ?_)
    refine AR.step (fun K1 K2 hK1 hK2 => ?_)
    simp
    refine orr_l ⟨by kernel_rfl, .inr (.inl ⟨_, _, _, ru, ?_⟩)⟩
    (try simp)
    refine hK1.out _ _ ?_
    clear hK1 hK2 K1 K2
    (try simp)
    (try simp only [List.toList_toArray, toList_lit]); repeat (with_reducible refine AR.step (fun K1 K2 hK1 hK2 => ?_); simp; (first | refine hK1.out _ _ ?_ | refine hK2.out _ ?_ | refine ⟨by kernel_rfl, hK2.out _ ?_⟩); clear hK1 hK2 K1 K2; simp); (try with_reducible refine AR.nil ?_)
    refine AR.step (fun K1 K2 hK1 hK2 => ?_)
    simp
    refine orr_l ⟨by kernel_rfl, .inl ⟨_, eu, ?_⟩⟩
    (try simp)
    refine hK1.out _ _ ?_
    clear hK1 hK2 K1 K2
    (try simp)
    (try simp only [List.toList_toArray, toList_lit]); repeat (with_reducible refine AR.step (fun K1 K2 hK1 hK2 => ?_); simp; (first | refine hK1.out _ _ ?_ | refine hK2.out _ ?_ | refine ⟨by kernel_rfl, hK2.out _ ?_⟩); clear hK1 hK2 K1 K2; simp); (try with_reducible refine AR.nil ?_)
    refine AR.step (fun K1 K2 hK1 hK2 => ?_)
    simp
    refine orr_l ⟨by kernel_rfl, .inr (.inl ⟨_, _, _, rmi, ?_⟩)⟩
    (try simp)
    refine hK1.out _ _ ?_
    clear hK1 hK2 K1 K2
    (try simp)
    (try simp only [List.toList_toArray, toList_lit]); repeat (with_reducible refine AR.step (fun K1 K2 hK1 hK2 => ?_); simp; (first | refine hK1.out _ _ ?_ | refine hK2.out _ ?_ | refine ⟨by kernel_rfl, hK2.out _ ?_⟩); clear hK1 hK2 K1 K2; simp); (try with_reducible refine AR.nil ?_)
    refine AR.step (fun K1 K2 hK1 hK2 => ?_)
    simp
    refine orr_l ⟨by kernel_rfl, .inl ⟨_, em, ?_⟩⟩
    (try simp)
    refine hK1.out _ _ ?_
    clear hK1 hK2 K1 K2
    (try simp)
    (try simp only [List.toList_toArray, toList_lit]); repeat (with_reducible refine AR.step (fun K1 K2 hK1 hK2 => ?_); simp; (first | refine hK1.out _ _ ?_ | refine hK2.out _ ?_ | refine ⟨by kernel_rfl, hK2.out _ ?_⟩); clear hK1 hK2 K1 K2; simp); (try with_reducible refine AR.nil ?_)
    refine AR.step (fun K1 K2 hK1 hK2 => ?_)
    simp
    refine orr_l ⟨by kernel_rfl, .inr (.inl ⟨_, _, _, rme, ?_⟩)⟩
    (try simp)
    refine hK1.out _ _ ?_
    clear hK1 hK2 K1 K2
    (try simp)
    (try simp only [List.toList_toArray, toList_lit]); repeat (with_reducible refine AR.step (fun K1 K2 hK1 hK2 => ?_); simp; (first | refine hK1.out _ _ ?_ | refine hK2.out _ ?_ | refine ⟨by kernel_rfl, hK2.out _ ?_⟩); clear hK1 hK2 K1 K2; simp); (try with_reducible refine AR.nil ?_)
    refine AR.step (fun K1 K2 hK1 hK2 => ?_)
    simp
    refine orr_l ⟨by kernel_rfl, .inl ⟨_, en, ?_⟩⟩
    (try simp)
    refine hK1.out _ _ ?_
    clear hK1 hK2 K1 K2
    (try simp)
    (try simp only [List.toList_toArray, toList_lit]); repeat (with_reducible refine AR.step (fun K1 K2 hK1 hK2 => ?_); simp; (first | refine hK1.out _ _ ?_ | refine hK2.out _ ?_ | refine ⟨by kernel_rfl, hK2.out _ ?_⟩); clear hK1 hK2 K1 K2; simp); (try with_reducible refine AR.nil ?_)
    refine ⟨chk_text _ _, hK.out _ ?_⟩
    clear hK K
    with_reducible (repeat (first | refine AW.seq ?_ | refine AW.block ?_ | refine AW.skip ?_ | refine AW.exit ?_ | refine AW.ret ?_ | refine AW.label ?_ | refine NX.then ?_ | refine NX.ret ?_ | refine NX.exit ?_ | refine NX.inRet ?_ | refine NX.inNormal ?_ | refine NX.inExit ?_ | refine NX.outExit (by decide) ?_))
    refine AW.cf rfl ?_
    with_reducible (repeat (first | refine AW.seq ?_ | refine AW.block ?_ | refine AW.skip ?_ | refine AW.exit ?_ | refine AW.ret ?_ | refine AW.label ?_ | refine NX.then ?_ | refine NX.ret ?_ | refine NX.exit ?_ | refine NX.inRet ?_ | refine NX.inNormal ?_ | refine NX.inExit ?_ | refine NX.outExit (by decide) ?_))
    refine AW.re ty (by kernel_rfl) (by first | exact cx_N _ _ _ | assumption) (by first | exact cx_pz _ _ _ | assumption) 170 (by decide) (fun K hK => ?_)
    (try simp only [List.toList_toArray, toList_lit]); repeat (with_reducible refine AR.step (fun K1 K2 hK1 hK2 => ?_); simp; (first | refine hK1.out _ _ ?_ | refine hK2.out _ ?_ | refine ⟨by kernel_rfl, hK2.out _ ?_⟩); clear hK1 hK2 K1 K2; simp); (try with_reducible refine AR.nil ?_)
    refine ⟨chk_text _ _, hK.out _ ?_⟩
    clear hK K
    with_reducible (repeat (first | refine AW.seq ?_ | refine AW.block ?_ | refine AW.skip ?_ | refine AW.exit ?_ | refine AW.ret ?_ | refine AW.label ?_ | refine NX.then ?_ | refine NX.ret ?_ | refine NX.exit ?_ | refine NX.inRet ?_ | refine NX.inNormal ?_ | refine NX.inExit ?_ | refine NX.outExit (by decide) ?_))
    refine AW.view (L' := jnS l1 l2 a b (.s 1 [[RD u], [RD m], [RD n]]) 0) (fun _ _ h => AS.fold (fold_of (V := vw [] [(900, [173, 32, 52, 72])] [] []) (by first | exact cx_pz _ _ _ | assumption) (by kernel_rfl) (by rfl) (by simp [jnS, jnB, foks_nil, foks_cons, fok_tmp, fok_vt, fok_cell, fok_nm, fok_zn, fok_hd, fok_df, Fv_c, Fv_seg, Fv_tup, Fv_agg, Fv_ptr, Fv_ptrs, Fv_fn, Fv_fnd, Fv_own, Fv_ownd, Fv_nown, Fv_vown, FvL_nil, FvL_cons, kvp_av, hdp_some, subz, frz, Uz, Nm, Uh, vw_nb, vw_zo, vw_zf, vw_hb, tb_nil, tb_cons, fzc_nil, fzc_cons, fzcaps_nil, fzcaps_cons])) h) ?_
    refine AW.conv 108 (d' := uD3 u.length m.length n.length) rfl (fun Z w v h => ud_D3 u m n h) ?_
    have hcs : ∀ k, k < 3 → ∃ q, q ≤ 100 ∧ ([[.s 2 (uR u.length)], [.s 2 (uR m.length)], [.s 2 (uR n.length)]] : List (List D))[k]? = some [.s 2 (uR q)] := fun k hk => by
      match k, hk with
      | 0, _ => exact ⟨u.length, by omega, rfl⟩
      | 1, _ => exact ⟨m.length, by omega, rfl⟩
      | 2, _ => exact ⟨n.length, by omega, rfl⟩
    refine AW.loop (X := { k : Nat // k ≤ 3 }) (fun x => jnS l1 l2 a b (uD3 u.length m.length n.length) x.1) (fun x => 3 - x.1) ⟨0, by simp⟩ (fun _ _ h => AS.fold (fold_of (V := vw [] [] [] []) (by first | exact cx_pz _ _ _ | assumption) (by kernel_rfl) (by rfl) (by simp [jnS, jnB, foks_nil, foks_cons, fok_tmp, fok_vt, fok_cell, fok_nm, fok_zn, fok_hd, fok_df, Fv_c, Fv_seg, Fv_tup, Fv_agg, Fv_ptr, Fv_ptrs, Fv_fn, Fv_fnd, Fv_own, Fv_ownd, Fv_nown, Fv_vown, FvL_nil, FvL_cons, kvp_av, hdp_some, subz, frz, Uz, Nm, Uh, vw_nb, vw_zo, vw_zf, vw_hb, tb_nil, tb_cons, fzc_nil, fzc_cons, fzcaps_nil, fzcaps_cons])) h) (fun x => ?_)
    obtain ⟨k, hk⟩ := x
    refine AW.at_ (fun L hL => ?_)
    simp [jnS, jnB] at hL
    subst hL
    with_reducible (repeat (first | refine AW.seq ?_ | refine AW.block ?_ | refine AW.skip ?_ | refine AW.exit ?_ | refine AW.ret ?_ | refine AW.label ?_ | refine NX.then ?_ | refine NX.ret ?_ | refine NX.exit ?_ | refine NX.inRet ?_ | refine NX.inNormal ?_ | refine NX.inExit ?_ | refine NX.outExit (by decide) ?_))
    by_cases hgo : k < 3
    · have hgo' : (k : Int) < 3 := by omega
      have w5 : IntKind.i64.wrap ((k : Int) + 1) = ((k + 1 : Nat) : Int) := by rw [i64_ok _ (by omega) (by omega)]; omega
      obtain ⟨q, hq, hrow⟩ := hcs k hgo
      refine AW.re ty (by kernel_rfl) (by first | exact cx_N _ _ _ | assumption) (by first | exact cx_pz _ _ _ | assumption) 200 (by decide) (fun K hK => ?_)
      (try simp only [List.toList_toArray, toList_lit]); repeat (with_reducible refine AR.step (fun K1 K2 hK1 hK2 => ?_); simp [hgo']; (first | refine hK1.out _ _ ?_ | refine hK2.out _ ?_ | refine ⟨by kernel_rfl, hK2.out _ ?_⟩); clear hK1 hK2 K1 K2; simp [hgo']); (try with_reducible refine AR.nil ?_)
      refine ⟨chk_text _ _, hK.out _ ?_⟩
      clear hK K
      with_reducible (repeat (first | refine AW.seq ?_ | refine AW.block ?_ | refine AW.skip ?_ | refine AW.exit ?_ | refine AW.ret ?_ | refine AW.label ?_ | refine NX.then ?_ | refine NX.ret ?_ | refine NX.exit ?_ | refine NX.inRet ?_ | refine NX.inNormal ?_ | refine NX.inExit ?_ | refine NX.outExit (by decide) ?_))
      refine AW.ct rfl ?_
      with_reducible (repeat (first | refine AW.seq ?_ | refine AW.block ?_ | refine AW.skip ?_ | refine AW.exit ?_ | refine AW.ret ?_ | refine AW.label ?_ | refine NX.then ?_ | refine NX.ret ?_ | refine NX.exit ?_ | refine NX.inRet ?_ | refine NX.inNormal ?_ | refine NX.inExit ?_ | refine NX.outExit (by decide) ?_))
      refine AW.re ty (by kernel_rfl) (by first | exact cx_N _ _ _ | assumption) (by first | exact cx_pz _ _ _ | assumption) 210 (by decide) (fun K hK => ?_)
      (try simp only [List.toList_toArray, toList_lit]); repeat (with_reducible refine AR.step (fun K1 K2 hK1 hK2 => ?_); simp [uD3]; (first | refine hK1.out _ _ ?_ | refine hK2.out _ ?_ | refine ⟨by kernel_rfl, hK2.out _ ?_⟩); clear hK1 hK2 K1 K2; simp [uD3]); (try with_reducible refine AR.nil ?_)
      refine AR.step (fun K1 K2 hK1 hK2 => ?_)
      simp [uD3]
      refine ⟨k, [.s 2 (uR q)], rfl, hrow, ?_⟩
      refine hK1.out _ _ ?_
      clear hK1 hK2 K1 K2
      (try simp [uD3])
      (try simp only [List.toList_toArray, toList_lit]); repeat (with_reducible refine AR.step (fun K1 K2 hK1 hK2 => ?_); simp [uD3]; (first | refine hK1.out _ _ ?_ | refine hK2.out _ ?_ | refine ⟨by kernel_rfl, hK2.out _ ?_⟩); clear hK1 hK2 K1 K2; simp [uD3]); (try with_reducible refine AR.nil ?_)
      refine ⟨chk_text _ _, hK.out _ ?_⟩
      clear hK K
      with_reducible (repeat (first | refine AW.seq ?_ | refine AW.block ?_ | refine AW.skip ?_ | refine AW.exit ?_ | refine AW.ret ?_ | refine AW.label ?_ | refine NX.then ?_ | refine NX.ret ?_ | refine NX.exit ?_ | refine NX.inRet ?_ | refine NX.inNormal ?_ | refine NX.inExit ?_ | refine NX.outExit (by decide) ?_))
      refine AW.re ty (by kernel_rfl) (by first | exact cx_N _ _ _ | assumption) (by first | exact cx_pz _ _ _ | assumption) 220 (by decide) (fun K hK => ?_)
      (try simp only [List.toList_toArray, toList_lit]); repeat (with_reducible refine AR.step (fun K1 K2 hK1 hK2 => ?_); simp [uR_len]; (first | refine hK1.out _ _ ?_ | refine hK2.out _ ?_ | refine ⟨by kernel_rfl, hK2.out _ ?_⟩); clear hK1 hK2 K1 K2; simp [uR_len]); (try with_reducible refine AR.nil ?_)
      refine ⟨chk_text _ _, hK.out _ ?_⟩
      clear hK K
      with_reducible (repeat (first | refine AW.seq ?_ | refine AW.block ?_ | refine AW.skip ?_ | refine AW.exit ?_ | refine AW.ret ?_ | refine AW.label ?_ | refine NX.then ?_ | refine NX.ret ?_ | refine NX.exit ?_ | refine NX.inRet ?_ | refine NX.inNormal ?_ | refine NX.inExit ?_ | refine NX.outExit (by decide) ?_))
      refine AW.loop (X := { j : Nat // j ≤ q }) (fun z => jnT l1 l2 a b (uD3 u.length m.length n.length) k q z.1) (fun z => q - z.1) ⟨0, by simp⟩ (fun _ _ h => AS.fold (fold_of (V := vw [] [] [] []) (by first | exact cx_pz _ _ _ | assumption) (by kernel_rfl) (by rfl) (by simp [jnT, jnS, jnB, uD3, foks_nil, foks_cons, fok_tmp, fok_vt, fok_cell, fok_nm, fok_zn, fok_hd, fok_df, Fv_c, Fv_seg, Fv_tup, Fv_agg, Fv_ptr, Fv_ptrs, Fv_fn, Fv_fnd, Fv_own, Fv_ownd, Fv_nown, Fv_vown, FvL_nil, FvL_cons, kvp_av, hdp_some, subz, frz, Uz, Nm, Uh, vw_nb, vw_zo, vw_zf, vw_hb, tb_nil, tb_cons, fzc_nil, fzc_cons, fzcaps_nil, fzcaps_cons])) h) (fun z => ?_)
      obtain ⟨j, hj⟩ := z
      refine AW.at_ (fun L hL => ?_)
      simp [jnT, jnS, jnB] at hL
      subst hL
      with_reducible (repeat (first | refine AW.seq ?_ | refine AW.block ?_ | refine AW.skip ?_ | refine AW.exit ?_ | refine AW.ret ?_ | refine AW.label ?_ | refine NX.then ?_ | refine NX.ret ?_ | refine NX.exit ?_ | refine NX.inRet ?_ | refine NX.inNormal ?_ | refine NX.inExit ?_ | refine NX.outExit (by decide) ?_))
      by_cases hgo2 : j < q
      · have w6 : IntKind.i64.wrap ((j : Int) + 1) = ((j + 1 : Nat) : Int) := by rw [i64_ok _ (by omega) (by omega)]; omega
        refine AW.re ty (by kernel_rfl) (by first | exact cx_N _ _ _ | assumption) (by first | exact cx_pz _ _ _ | assumption) 300 (by decide) (fun K hK => ?_)
        (try simp only [List.toList_toArray, toList_lit]); repeat (with_reducible refine AR.step (fun K1 K2 hK1 hK2 => ?_); simp [hgo2]; (first | refine hK1.out _ _ ?_ | refine hK2.out _ ?_ | refine ⟨by kernel_rfl, hK2.out _ ?_⟩); clear hK1 hK2 K1 K2; simp [hgo2]); (try with_reducible refine AR.nil ?_)
        refine ⟨chk_text _ _, hK.out _ ?_⟩
        clear hK K
        with_reducible (repeat (first | refine AW.seq ?_ | refine AW.block ?_ | refine AW.skip ?_ | refine AW.exit ?_ | refine AW.ret ?_ | refine AW.label ?_ | refine NX.then ?_ | refine NX.ret ?_ | refine NX.exit ?_ | refine NX.inRet ?_ | refine NX.inNormal ?_ | refine NX.inExit ?_ | refine NX.outExit (by decide) ?_))
        refine AW.ct rfl ?_
        with_reducible (repeat (first | refine AW.seq ?_ | refine AW.block ?_ | refine AW.skip ?_ | refine AW.exit ?_ | refine AW.ret ?_ | refine AW.label ?_ | refine NX.then ?_ | refine NX.ret ?_ | refine NX.exit ?_ | refine NX.inRet ?_ | refine NX.inNormal ?_ | refine NX.inExit ?_ | refine NX.outExit (by decide) ?_))
        refine AW.re ty (by kernel_rfl) (by first | exact cx_N _ _ _ | assumption) (by first | exact cx_pz _ _ _ | assumption) 310 (by decide) (fun K hK => ?_)
        (try simp only [List.toList_toArray, toList_lit]); repeat (with_reducible refine AR.step (fun K1 K2 hK1 hK2 => ?_); simp [hgo2]; (first | refine hK1.out _ _ ?_ | refine hK2.out _ ?_ | refine ⟨by kernel_rfl, hK2.out _ ?_⟩); clear hK1 hK2 K1 K2; simp [hgo2]); (try with_reducible refine AR.nil ?_)
        refine ⟨chk_text _ _, hK.out _ ?_⟩
        clear hK K
        with_reducible (repeat (first | refine AW.seq ?_ | refine AW.block ?_ | refine AW.skip ?_ | refine AW.exit ?_ | refine AW.ret ?_ | refine AW.label ?_ | refine NX.then ?_ | refine NX.ret ?_ | refine NX.exit ?_ | refine NX.inRet ?_ | refine NX.inNormal ?_ | refine NX.inExit ?_ | refine NX.outExit (by decide) ?_))
        refine AW.re ty (by kernel_rfl) (by first | exact cx_N _ _ _ | assumption) (by first | exact cx_pz _ _ _ | assumption) 320 (by decide) (fun K hK => ?_)
        (try simp only [List.toList_toArray, toList_lit]); repeat (with_reducible refine AR.step (fun K1 K2 hK1 hK2 => ?_); simp; (first | refine hK1.out _ _ ?_ | refine hK2.out _ ?_ | refine ⟨by kernel_rfl, hK2.out _ ?_⟩); clear hK1 hK2 K1 K2; simp); (try with_reducible refine AR.nil ?_)
        refine AR.step (fun K1 K2 hK1 hK2 => ?_)
        simp
        refine ⟨j, [.st isU, .st isU], rfl, uR_get hgo2, ?_⟩
        refine hK1.out _ _ ?_
        clear hK1 hK2 K1 K2
        (try simp)
        (try simp only [List.toList_toArray, toList_lit]); repeat (with_reducible refine AR.step (fun K1 K2 hK1 hK2 => ?_); simp; (first | refine hK1.out _ _ ?_ | refine hK2.out _ ?_ | refine ⟨by kernel_rfl, hK2.out _ ?_⟩); clear hK1 hK2 K1 K2; simp); (try with_reducible refine AR.nil ?_)
        refine AR.step (fun K1 K2 hK1 hK2 => ?_)
        simp
        refine hatch_add rfl rfl rfl ?_
        refine hK1.out _ _ ?_
        clear hK1 hK2 K1 K2
        (try simp)
        (try simp only [List.toList_toArray, toList_lit]); repeat (with_reducible refine AR.step (fun K1 K2 hK1 hK2 => ?_); simp; (first | refine hK1.out _ _ ?_ | refine hK2.out _ ?_ | refine ⟨by kernel_rfl, hK2.out _ ?_⟩); clear hK1 hK2 K1 K2; simp); (try with_reducible refine AR.nil ?_)
        refine AR.step (fun K1 K2 hK1 hK2 => ?_)
        simp
        refine ⟨j, [.st isU, .st isU], rfl, uR_get hgo2, ?_⟩
        refine hK1.out _ _ ?_
        clear hK1 hK2 K1 K2
        (try simp)
        (try simp only [List.toList_toArray, toList_lit]); repeat (with_reducible refine AR.step (fun K1 K2 hK1 hK2 => ?_); simp; (first | refine hK1.out _ _ ?_ | refine hK2.out _ ?_ | refine ⟨by kernel_rfl, hK2.out _ ?_⟩); clear hK1 hK2 K1 K2; simp); (try with_reducible refine AR.nil ?_)
        refine AR.step (fun K1 K2 hK1 hK2 => ?_)
        simp [kept]
        refine hatch_st [(108, uD3 u.length m.length n.length), (14, .s 2 (uR q))] (T := ty) rfl rfl rfl rfl rfl rfl rfl (by simp) (by simp [nums_uR, nums_D3]) ?_
        refine hK1.out _ _ ?_
        clear hK1 hK2 K1 K2
        (try simp [kept])
        (try simp only [List.toList_toArray, toList_lit]); repeat (with_reducible refine AR.step (fun K1 K2 hK1 hK2 => ?_); simp [kept]; (first | refine hK1.out _ _ ?_ | refine hK2.out _ ?_ | refine ⟨by kernel_rfl, hK2.out _ ?_⟩); clear hK1 hK2 K1 K2; simp [kept]); (try with_reducible refine AR.nil ?_)
        refine ⟨chk_text _ _, hK.out _ ?_⟩
        clear hK K
        with_reducible (repeat (first | refine AW.seq ?_ | refine AW.block ?_ | refine AW.skip ?_ | refine AW.exit ?_ | refine AW.ret ?_ | refine AW.label ?_ | refine NX.then ?_ | refine NX.ret ?_ | refine NX.exit ?_ | refine NX.inRet ?_ | refine NX.inNormal ?_ | refine NX.inExit ?_ | refine NX.outExit (by decide) ?_))
        refine AW.re ty (by kernel_rfl) (by first | exact cx_N _ _ _ | assumption) (by first | exact cx_pz _ _ _ | assumption) 340 (by decide) (fun K hK => ?_)
        (try simp only [List.toList_toArray, toList_lit]); repeat (with_reducible refine AR.step (fun K1 K2 hK1 hK2 => ?_); simp [w6]; (first | refine hK1.out _ _ ?_ | refine hK2.out _ ?_ | refine ⟨by kernel_rfl, hK2.out _ ?_⟩); clear hK1 hK2 K1 K2; simp [w6]); (try with_reducible refine AR.nil ?_)
        refine ⟨chk_text _ _, hK.out _ ?_⟩
        clear hK K
        with_reducible (repeat (first | refine AW.seq ?_ | refine AW.block ?_ | refine AW.skip ?_ | refine AW.exit ?_ | refine AW.ret ?_ | refine AW.label ?_ | refine NX.then ?_ | refine NX.ret ?_ | refine NX.exit ?_ | refine NX.inRet ?_ | refine NX.inNormal ?_ | refine NX.inExit ?_ | refine NX.outExit (by decide) ?_))
        exact NX.round ⟨j + 1, hgo2⟩ (by show q - (j + 1) < q - j; omega) (fun _ _ h => AS.fold (fold_of (V := vw [] [(900, [328])] [] []) (by first | exact cx_pz _ _ _ | assumption) (by kernel_rfl) (by rfl) (by simp [jnT, jnS, jnB, foks_nil, foks_cons, fok_tmp, fok_vt, fok_cell, fok_nm, fok_zn, fok_hd, fok_df, Fv_c, Fv_seg, Fv_tup, Fv_agg, Fv_ptr, Fv_ptrs, Fv_fn, Fv_fnd, Fv_own, Fv_ownd, Fv_nown, Fv_vown, FvL_nil, FvL_cons, kvp_av, hdp_some, subz, frz, Uz, Nm, Uh, vw_nb, vw_zo, vw_zf, vw_hb, tb_nil, tb_cons, fzc_nil, fzc_cons, fzcaps_nil, fzcaps_cons])) h)
      · obtain rfl : j = q := by omega
        refine AW.re ty (by kernel_rfl) (by first | exact cx_N _ _ _ | assumption) (by first | exact cx_pz _ _ _ | assumption) 350 (by decide) (fun K hK => ?_)
        (try simp only [List.toList_toArray, toList_lit]); repeat (with_reducible refine AR.step (fun K1 K2 hK1 hK2 => ?_); simp; (first | refine hK1.out _ _ ?_ | refine hK2.out _ ?_ | refine ⟨by kernel_rfl, hK2.out _ ?_⟩); clear hK1 hK2 K1 K2; simp); (try with_reducible refine AR.nil ?_)
        refine ⟨chk_text _ _, hK.out _ ?_⟩
        clear hK K
        with_reducible (repeat (first | refine AW.seq ?_ | refine AW.block ?_ | refine AW.skip ?_ | refine AW.exit ?_ | refine AW.ret ?_ | refine AW.label ?_ | refine NX.then ?_ | refine NX.ret ?_ | refine NX.exit ?_ | refine NX.inRet ?_ | refine NX.inNormal ?_ | refine NX.inExit ?_ | refine NX.outExit (by decide) ?_))
        refine AW.cf rfl ?_
        with_reducible (repeat (first | refine AW.seq ?_ | refine AW.block ?_ | refine AW.skip ?_ | refine AW.exit ?_ | refine AW.ret ?_ | refine AW.label ?_ | refine NX.then ?_ | refine NX.ret ?_ | refine NX.exit ?_ | refine NX.inRet ?_ | refine NX.inNormal ?_ | refine NX.inExit ?_ | refine NX.outExit (by decide) ?_))
        refine AW.re ty (by kernel_rfl) (by first | exact cx_N _ _ _ | assumption) (by first | exact cx_pz _ _ _ | assumption) 400 (by decide) (fun K hK => ?_)
        (try simp only [List.toList_toArray, toList_lit]); repeat (with_reducible refine AR.step (fun K1 K2 hK1 hK2 => ?_); simp [w5]; (first | refine hK1.out _ _ ?_ | refine hK2.out _ ?_ | refine ⟨by kernel_rfl, hK2.out _ ?_⟩); clear hK1 hK2 K1 K2; simp [w5]); (try with_reducible refine AR.nil ?_)
        refine ⟨chk_text _ _, hK.out _ ?_⟩
        clear hK K
        with_reducible (repeat (first | refine AW.seq ?_ | refine AW.block ?_ | refine AW.skip ?_ | refine AW.exit ?_ | refine AW.ret ?_ | refine AW.label ?_ | refine NX.then ?_ | refine NX.ret ?_ | refine NX.exit ?_ | refine NX.inRet ?_ | refine NX.inNormal ?_ | refine NX.inExit ?_ | refine NX.outExit (by decide) ?_))
        exact NX.round ⟨k + 1, hgo⟩ (by show 3 - (k + 1) < 3 - k; omega) (fun _ _ h => AS.fold (fold_of (V := vw [] [] [] []) (by first | exact cx_pz _ _ _ | assumption) (by kernel_rfl) (by rfl) (by simp [jnS, jnB, foks_nil, foks_cons, fok_tmp, fok_vt, fok_cell, fok_nm, fok_zn, fok_hd, fok_df, Fv_c, Fv_seg, Fv_tup, Fv_agg, Fv_ptr, Fv_ptrs, Fv_fn, Fv_fnd, Fv_own, Fv_ownd, Fv_nown, Fv_vown, FvL_nil, FvL_cons, kvp_av, hdp_some, subz, frz, Uz, Nm, Uh, vw_nb, vw_zo, vw_zf, vw_hb, tb_nil, tb_cons, fzc_nil, fzc_cons, fzcaps_nil, fzcaps_cons])) h)
    · obtain rfl : k = 3 := by omega
      refine AW.re ty (by kernel_rfl) (by first | exact cx_N _ _ _ | assumption) (by first | exact cx_pz _ _ _ | assumption) 500 (by decide) (fun K hK => ?_)
      (try simp only [List.toList_toArray, toList_lit]); repeat (with_reducible refine AR.step (fun K1 K2 hK1 hK2 => ?_); simp; (first | refine hK1.out _ _ ?_ | refine hK2.out _ ?_ | refine ⟨by kernel_rfl, hK2.out _ ?_⟩); clear hK1 hK2 K1 K2; simp); (try with_reducible refine AR.nil ?_)
      refine ⟨chk_text _ _, hK.out _ ?_⟩
      clear hK K
      with_reducible (repeat (first | refine AW.seq ?_ | refine AW.block ?_ | refine AW.skip ?_ | refine AW.exit ?_ | refine AW.ret ?_ | refine AW.label ?_ | refine NX.then ?_ | refine NX.ret ?_ | refine NX.exit ?_ | refine NX.inRet ?_ | refine NX.inNormal ?_ | refine NX.inExit ?_ | refine NX.outExit (by decide) ?_))
      refine AW.cf rfl ?_
      with_reducible (repeat (first | refine AW.seq ?_ | refine AW.block ?_ | refine AW.skip ?_ | refine AW.exit ?_ | refine AW.ret ?_ | refine AW.label ?_ | refine NX.then ?_ | refine NX.ret ?_ | refine NX.exit ?_ | refine NX.inRet ?_ | refine NX.inNormal ?_ | refine NX.inExit ?_ | refine NX.outExit (by decide) ?_))
      refine AW.re ty (by kernel_rfl) (by first | exact cx_N _ _ _ | assumption) (by first | exact cx_pz _ _ _ | assumption) 510 (by decide) (fun K hK => ?_)
      (try simp only [List.toList_toArray, toList_lit]); repeat (with_reducible refine AR.step (fun K1 K2 hK1 hK2 => ?_); simp; (first | refine hK1.out _ _ ?_ | refine hK2.out _ ?_ | refine ⟨by kernel_rfl, hK2.out _ ?_⟩); clear hK1 hK2 K1 K2; simp); (try with_reducible refine AR.nil ?_)
      refine AR.step (fun K1 K2 hK1 hK2 => ?_)
      simp
      refine orr_l ⟨by kernel_rfl, .inr (.inl ⟨_, _, _, cf1, ?_⟩)⟩
      (try simp)
      refine hK1.out _ _ ?_
      clear hK1 hK2 K1 K2
      (try simp)
      (try simp only [List.toList_toArray, toList_lit]); repeat (with_reducible refine AR.step (fun K1 K2 hK1 hK2 => ?_); simp; (first | refine hK1.out _ _ ?_ | refine hK2.out _ ?_ | refine ⟨by kernel_rfl, hK2.out _ ?_⟩); clear hK1 hK2 K1 K2; simp); (try with_reducible refine AR.nil ?_)
      refine AR.step (fun K1 K2 hK1 hK2 => ?_)
      simp
      refine orr_l ⟨by kernel_rfl, .inl ⟨_, ea, ?_⟩⟩
      (try simp)
      refine hK1.out _ _ ?_
      clear hK1 hK2 K1 K2
      (try simp)
      (try simp only [List.toList_toArray, toList_lit]); repeat (with_reducible refine AR.step (fun K1 K2 hK1 hK2 => ?_); simp; (first | refine hK1.out _ _ ?_ | refine hK2.out _ ?_ | refine ⟨by kernel_rfl, hK2.out _ ?_⟩); clear hK1 hK2 K1 K2; simp); (try with_reducible refine AR.nil ?_)
      refine AR.step (fun K1 K2 hK1 hK2 => ?_)
      simp
      refine orr_l ⟨by kernel_rfl, .inr (.inl ⟨_, _, _, cf2, ?_⟩)⟩
      (try simp)
      refine hK1.out _ _ ?_
      clear hK1 hK2 K1 K2
      (try simp)
      (try simp only [List.toList_toArray, toList_lit]); repeat (with_reducible refine AR.step (fun K1 K2 hK1 hK2 => ?_); simp; (first | refine hK1.out _ _ ?_ | refine hK2.out _ ?_ | refine ⟨by kernel_rfl, hK2.out _ ?_⟩); clear hK1 hK2 K1 K2; simp); (try with_reducible refine AR.nil ?_)
      refine AR.step (fun K1 K2 hK1 hK2 => ?_)
      simp
      refine orr_l ⟨by kernel_rfl, .inl ⟨_, eb, ?_⟩⟩
      (try simp)
      refine hK1.out _ _ ?_
      clear hK1 hK2 K1 K2
      (try simp)
      (try simp only [List.toList_toArray, toList_lit]); repeat (with_reducible refine AR.step (fun K1 K2 hK1 hK2 => ?_); simp; (first | refine hK1.out _ _ ?_ | refine hK2.out _ ?_ | refine ⟨by kernel_rfl, hK2.out _ ?_⟩); clear hK1 hK2 K1 K2; simp); (try with_reducible refine AR.nil ?_)
      refine ⟨chk_text _ _, hK.out _ ?_⟩
      clear hK K
      with_reducible (repeat (first | refine AW.seq ?_ | refine AW.block ?_ | refine AW.skip ?_ | refine AW.exit ?_ | refine AW.ret ?_ | refine AW.label ?_ | refine NX.then ?_ | refine NX.ret ?_ | refine NX.exit ?_ | refine NX.inRet ?_ | refine NX.inNormal ?_ | refine NX.inExit ?_ | refine NX.outExit (by decide) ?_))
      refine nx_ret (T := ty) (rs := [.tmp 4]) (zs := []) (ds := [dB true]) (rr := []) (.inr rfl) rfl (by kernel_rfl) (by kernel_rfl) (by simp) rfl
end Go.Proofs.Ytlkdkhmdmgchbaa
