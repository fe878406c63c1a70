/- The second logic: runs parted, in plain words; index, between. -/
import Derived.Test.YtlkdkhmdmgchbaaJD
import Derived.Test.YtlkdkhmdmgchbaaJP
import Derived.Shelf.SlicesQ.Reverse
import Derived.Test.YtlkdkhmdmgchbaaJS
namespace Go.Proofs.Ytlkdkhmdmgchbaa
set_option linter.unusedSimpArgs false
set_option linter.unusedVariables false
open Go.RowKit Go.Shelf Go.Lib Go.Sort
theorem holds_own {w : World} {g : Nat} {cur : Array Value} {E : TypeId} {l : List Pr} (hg : w.heap[g]? = some (.cells cur E (0, 0))) (h4 : cur.toList.take (l.length * 2) = flatP l) : HoldsK encP 2 w g 0 l.toArray := by
  intro j hj
  rw [flatK_P] at hj ⊢
  have hj' : j < (flatP l).length := by simpa using hj
  have e : cur[j]? = (flatP l)[j]? := by
    rw [← h4, List.getElem?_take, if_pos (by rw [flatP_len] at hj'; exact hj')]
    simp
  refine ⟨?_, ?_⟩
  · unfold World.cell?
    simp only [hg, Nat.zero_add, e, List.getElem?_eq_getElem hj']
    simp [getElem!_def, hj']
  · unfold World.frozen?
    simp only [hg]
    simp
theorem reverse_ku (l : List Pr) (hn : l.length ≤ 1000000000) : Ku Try.prog 63 [] 52 2 (l.map PD) (l.reverse.map PD) := by
  intro Z w v vs hrow hnz hr
  have how := rowat_to hrow trivial
  obtain rfl : vs = #[] := Array.size_eq_zero_iff.1 hr.1
  rcases how.2 with ⟨rfl, h0⟩ | ⟨g, cap, cur, rfl, -, hg, h1, h2, h3, h4⟩
  · have hl : l = [] := List.length_eq_zero_iff.1 h0
    subst hl
    have hcon := AnyQ.slices_Reverse_empty Try.revPr none 0 w
    change Calls Try.prog 63 _ _ _ at hcon
    refine hcon.mono ?_
    rintro e w' ⟨rfl, rfl⟩
    exact ⟨rfl, Keeps.refl _ _, hrow⟩
  · have hlt : g < w.heap.size := (Array.getElem?_eq_some_iff.1 hg).1
    have hcon := AnyQ.slices_Reverse Try.revPr 2 Try.isAgg52 Try.sizeOf52 encP (fun _ => rfl) (fun x v hv => by simp [encP] at hv; rcases hv with rfl | rfl <;> rfl) g 0 cap l.toArray w (holds_own hg h4) (by simp; omega)
    change Calls Try.prog 63 _ _ _ at hcon
    have hs : l.toArray.size = l.length := by simp
    rw [hs] at hcon
    refine hcon.mono ?_
    rintro e w' ⟨rfl, n, hw⟩
    obtain ⟨k1, cur', k2, k3, k4⟩ := sort_world_row (n := n) (os := #[]) (l' := l.reverse) hg (by rw [List.length_reverse]; omega)
    have hw : w' = sortWorldK encP 2 w g 0 n l.reverse.toArray #[] := by
      rw [hw]
      unfold sortWorldK
      rw [Go.Sort.grow_empty]
      simp
    rw [← hw] at k1 k2
    refine ⟨rfl, ⟨k1.os, k1.tape, k1.output, k1.size, fun k hk hb => k1.block k hk (fun e => hb (by rw [e]; rfl))⟩, rowat_of _ _ _ _ _ ?_⟩
    rw [List.length_reverse] at k4 ⊢
    exact ⟨by rw [flatP_len, List.length_reverse], .inr ⟨g, cap, cur', rfl, Nat.zero_le _, k2, h1, h2, k3.trans h3, k4⟩⟩
theorem right_ofL {l : List Pr} (hn : l.length ≤ 1048576) : rightL (ofL l) = true := by
  unfold rightL
  have := ofL_len l
  simp only [Bool.and_eq_true, decide_eq_true_eq]
  exact ⟨ofL_rises l, by omega⟩
theorem ofL_rev (l : List Pr) : ofL l.reverse = ofL l := rises_ext (ofL_rises _) (ofL_rises _) fun p => by rw [ofL_mem, ofL_mem]; simp
theorem turn_turn (p : Pr) : turnP (turnP p) = p := rfl
theorem turn_mem (l : List Pr) (p : Pr) : p ∈ ofL ((ofL l).map turnP) ↔ turnP p ∈ l := by
  rw [ofL_mem, List.mem_map]
  constructor
  · rintro ⟨q, hq, rfl⟩
    rw [turn_turn]
    exact (ofL_mem l q).1 hq
  · intro h
    exact ⟨turnP p, (ofL_mem l _).2 h, turn_turn p⟩
theorem turn_back (l : List Pr) : ofL ((ofL ((ofL l).map turnP)).map turnP) = ofL l := rises_ext (ofL_rises _) (ofL_rises _) fun p => by
  rw [ofL_mem, List.mem_map, ofL_mem]
  constructor
  · rintro ⟨q, hq, rfl⟩
    exact (turn_mem l q).1 hq
  · intro h
    exact ⟨turnP p, (turn_mem l _).2 (by rw [turn_turn]; exact h), turn_turn p⟩
theorem lt_irr (p : Pr) : ¬ lt p p := by unfold lt; omega
theorem rises_nodup {l : List Pr} (h : Rises l) : l.Nodup := by
  unfold List.Nodup
  exact List.Pairwise.imp (fun {a b} hab e => by subst e; exact lt_irr _ hab) h
theorem turn_len (l : List Pr) : (ofL ((ofL l).map turnP)).length = (ofL l).length := by
  have h1 := rises_nodup (ofL_rises ((ofL l).map turnP))
  have h2 : ((ofL l).map turnP).Nodup := by
    unfold List.Nodup
    rw [List.pairwise_map]
    exact List.Pairwise.imp (fun {a b} hab e => hab (by have := congrArg turnP e; simpa [turn_turn] using this)) (rises_nodup (ofL_rises l))
  have p := (List.perm_ext_iff_of_nodup h1 h2).2 fun a => ofL_mem _ a
  rw [p.length_eq, List.length_map]
end Go.Proofs.Ytlkdkhmdmgchbaa
namespace Go.Proofs.Ytlkdkhmdmgchbaa
set_option linter.unusedSimpArgs false
set_option linter.unusedVariables false
open Go.RowKit
/-! ### what is met and what is left -/
abbrev miF : Bool → Bool → Bool := fun x y => x && !y
abbrev meF : Bool → Bool → Bool := fun x y => x && y
abbrev unF : Bool → Bool → Bool := fun x y => or x y
section
variable {a b : List Pr} (ha : Rises a) (hb : Rises b)
include ha hb
theorem mi_mem (p : Pr) : p ∈ keptH miF a b ↔ p ∈ a ∧ p ∉ b := by
  rw [keptH_mem _ ha hb]
  simp only [miF, Bool.and_eq_true, decide_eq_true_eq, Bool.not_eq_true', decide_eq_false_iff_not]
  exact ⟨fun h => h.2, fun h => ⟨.inl h.1, h⟩⟩
theorem me_mem (p : Pr) : p ∈ keptH meF a b ↔ p ∈ a ∧ p ∈ b := by
  rw [keptH_mem _ ha hb]
  simp only [meF, Bool.and_eq_true, decide_eq_true_eq]
  exact ⟨fun h => h.2, fun h => ⟨.inl h.1, h⟩⟩
theorem un_mem (p : Pr) : p ∈ keptH unF a b ↔ p ∈ a ∨ p ∈ b := by
  rw [keptH_mem _ ha hb]
  simp only [unF, Bool.or_eq_true, decide_eq_true_eq]
  exact ⟨fun h => h.2, fun h => ⟨h, h⟩⟩
theorem parts_back : keptH unF (keptH miF a b) (keptH meF a b) = a := by
  have h1 := keptH_rises miF ha hb
  have h2 := keptH_rises meF ha hb
  refine rises_ext (keptH_rises unF h1 h2) ha fun p => ?_
  rw [un_mem h1 h2, mi_mem ha hb, me_mem ha hb]
  by_cases h : p ∈ b <;> simp [h]
theorem un_swap : keptH unF b a = keptH unF a b := rises_ext (keptH_rises _ hb ha) (keptH_rises _ ha hb) fun p => by rw [un_mem hb ha, un_mem ha hb]; exact Or.comm
theorem un_len : (keptH unF a b).length = a.length + b.length - (keptH meF a b).length ∧ (keptH meF a b).length ≤ a.length := by
  have n1 := rises_nodup (keptH_rises miF ha hb)
  have n2 := rises_nodup (keptH_rises meF ha hb)
  have n3 := rises_nodup (keptH_rises unF ha hb)
  have na := rises_nodup ha
  have nb := rises_nodup hb
  have e1 : a.length = (keptH miF a b).length + (keptH meF a b).length := by
    have nd : (keptH miF a b ++ keptH meF a b).Nodup := List.nodup_append.2 ⟨n1, n2, fun x hx y hy e => by
      subst e
      exact ((mi_mem ha hb x).1 hx).2 ((me_mem ha hb x).1 hy).2⟩
    have := ((List.perm_ext_iff_of_nodup na nd).2 fun p => by
      rw [List.mem_append, mi_mem ha hb, me_mem ha hb]
      by_cases h : p ∈ b <;> simp [h]).length_eq
    rw [this, List.length_append]
  have e2 : (keptH unF a b).length = (keptH miF a b).length + b.length := by
    have nd : (keptH miF a b ++ b).Nodup := List.nodup_append.2 ⟨n1, nb, fun x hx y hy e => by
      subst e
      exact ((mi_mem ha hb x).1 hx).2 hy⟩
    have := ((List.perm_ext_iff_of_nodup n3 nd).2 fun p => by
      rw [List.mem_append, mi_mem ha hb, un_mem ha hb]
      by_cases h : p ∈ b <;> simp [h]).length_eq
    rw [this, List.length_append]
  omega
end
theorem right_kept (h : Bool → Bool → Bool) {a b : List Pr} (ha : Rises a) (hb : Rises b) (hn : a.length + b.length ≤ 1048576) : rightL (keptH h a b) = true := by
  unfold rightL
  have := keptH_len h a b
  simp only [Bool.and_eq_true, decide_eq_true_eq]
  exact ⟨keptH_rises h ha hb, by omega⟩
theorem right_rises {l : List Pr} (h : rightL l = true) : Rises l := by
  unfold rightL at h
  simp only [Bool.and_eq_true, decide_eq_true_eq] at h
  exact h.1
end Go.Proofs.Ytlkdkhmdmgchbaa
namespace Go.Proofs.Ytlkdkhmdmgchbaa
set_option linter.unusedSimpArgs false
set_option linter.unusedVariables false
open Go.RowKit
attribute [local simp ↓] arun_nil ob_some kva_av kfree_free khfree_free khown_own klive_live knm_false chk_true ya_true gsel_tt gsel_ff gsel_tf gsel_ft vb_bool vi_int vstr_string avps_ptr avps_seg avp_ptr avagg_agg avtup_tup avb_bool avown_own shs_struct shsa_struct shsa_arr sharr_arr shl_slice shla_slice shla_arr shls_slice shls_str shi_int bc_true bc_false hd1_cons opc_some opc_none opn_some opn_none unc_not unc_neg gd_none gd_some as_move as_assign as_pick as_bin as_un as_conv as_load as_faddr as_field as_extract as_iaddr as_slice as_alloc as_box as_store as_build as_rows as_call as_append as_lookup as_mapUpdate as_makeMap as_range as_next as_entry as_index as_fn as_len as_min as_max stMove stPick stBin stUn stConv stLoad stFaddr stField stExtract stIaddr stSlice stAlloc stBox stStore stBuild stIndex stRows stCall stAppend stFn stLen stMin stMax opd_tmp opd_const opd_func rawL_nil rawL_cons raw_c raw_st raw_a opr_e zr_nil zr_cons lvd_live hod_own obd_some obd_none kvd_av chd_true vid_int lk_cons lk_nil ins_nil ins_cons cells_zero cells_succ spread1_c spread1_own spread1_ptr spread1_fn spread1_seg spreadL_nil spreadL_cons spread_agg spread_c spread_own spread_seg spread_ptr spread_fn ex_zero ex_succ ops_e opb_none opb_int spreadD_agg spreadD_c spreadD_own spreadD_seg fillO_nil fillO_cons argsOf_nil argsOf_cons dvOf_c dvOf_seg dvOf_own dvOf_agg zrL_nil zrL_cons hdd_c hdd_seg hdd_own clz_e clv_raw clv_f callD_e dst0_n dst0_nil dst0_own goneH_e capc_ptr capc_seg capc_c capN_nil capN_cons capD_nil capD_cons deadZ_nil deadZ_cons
attribute [local simp] dok_some dok_none dflt_tmp dflt_vt dflt_cell dflt_zn dflt_nm dflt_hd dflt_df puts_nil puts_cons wr_some wr_none cst_agg cst_int cst_bool cst_string cst_slice cst_tuple cst_nilFunc cst_pointer cst_func bin_add bin_sub bin_mul bin_quo bin_rem bin_eql bin_neq bin_lss bin_leq bin_gtr bin_geq bin_bool bin_aggs binT_bool binT_aggs shbd_bool eqb_eql eqb_neq bin_slice bin_str_eql bin_str_neq bin_str_lss bin_str_add nz_v nz_n nz_s nz_p nz_f nz_st atz_v atz_n atz_s atz_p atz_f atz_st atz_agg atR_one atR_tup crow_nil crow_cons slc_c slc_n slc_own slc_nil raws setR placesT_nil placesT_cons zc chunk zsAll ocD_v ocD_n ocD_s ocD_p ocD_f ocD_st nrm_v nrm_n nrm_s nrm_p nrm_f nrm_st isV_one isV_tup isV_c isV_agg isV_v isV_n isV_s isV_p isV_f isV_st argRows Sh.agg zds_nil zds_e zds_v zds_s vcells_agg vcells_int vcells_bool vcells_string vcells_slice vcells_pointer toList_lit map_nilL map_consL nzr_e rowsOc_nil rowsOc_cons rowsOc_RD nzr_RD ty2 ty3 ty4 ty5 ty6 ty7 ty8 ty9 ty10 ty11 ty12 ty13 ty14 ty15 ty16 ty17 ty18 ty19 ty20 ty21 ty22 ty23 ty24 ty25 ty26 ty27 ty30 ty40 ty48 ty50 ty51 ty52 ty55 ty57 ty62 ty63 ty85 ty94 ty101 ty121 ty122 ty123 ty124 ty125 ty126 ty128 ty148 ty149 ty151 ty164 ty165 ty179 ty182 ty196 ty203 ty205 ty209 ty211 ty215 ty216 ty217 ty218 ty219 ty220 ty221 ty223 ty224 ty225 ty226 ty227 Value.oneCell'
set_option maxRecDepth 100000
/-- where a pair stands first, or -1. -/
def idxP (l : List Pr) (p : Pr) : Int := if (l.takeWhile fun q => !decide (p = q)).length < l.length then ((l.takeWhile fun q => !decide (p = q)).length : Nat) else -1
theorem tw_self {f : Pr → Bool} : ∀ {l : List Pr}, l.takeWhile f = l ↔ ∀ q ∈ l, f q = true
  | [] => by simp
  | x :: l => by
    have ih := tw_self (f := f) (l := l)
    by_cases h : f x = true
    · simp [List.takeWhile_cons, h, ih]
    · simp [List.takeWhile_cons, h]
theorem idxP_mem (l : List Pr) (p : Pr) : decide (0 ≤ idxP l p) = decide (p ∈ l) := by
  rw [decide_eq_decide]
  unfold idxP
  constructor
  · intro h
    split at h
    · rename_i hlt
      refine Decidable.byContradiction fun hn => ?_
      have : l.takeWhile (fun q => !decide (p = q)) = l := tw_self.2 fun q hq => by
        simp only [Bool.not_eq_true', decide_eq_false_iff_not]
        intro e; subst e; exact hn hq
      rw [this] at hlt; omega
    · omega
  · intro h
    split
    · omega
    · rename_i hlt
      have hp : l.takeWhile (fun q => !decide (p = q)) = l := (List.takeWhile_prefix _).eq_of_length (by have := (List.takeWhile_prefix (l := l) fun q => !decide (p = q)).length_le; omega)
      have := tw_self.1 hp p h
      simp at this
def inS (l : List Pr) (p : Pr) (k : Nat) : Row := [(.zn 0, .zn .live), (.tmp 0, .av (.c [0] (RD l))), (.nm 1, .nm true), (.cell 1 0, .av (.c [] (.v (.int .u64 p.1)))), (.cell 1 1, .av (.c [] (.v (.int .u64 p.2)))), (.tmp 3, .av (.ptr 1 0)), (.tmp 7, .av (.c [] (.v (.int .i64 l.length)))), (.tmp 8, .av (.c [] (.v (.int .i64 k))))]
set_option maxHeartbeats 4000000 in
theorem indexp_ct (l : List Pr) (p : Pr) (hn : l.length ≤ 1000000) : Ct Try.prog 134 [.c (RD l), PV p] none (.one (dI (idxP l p))) := by
  refine ct_intro Try.func134 rfl Try.ntmps134 (by simp) (fun W0 Z => ?_)
  with_reducible (repeat (first | refine AW.seq ?_ | refine AW.block ?_ | refine AW.skip ?_ | refine AW.exit ?_ | refine AW.ret ?_ | refine AW.label ?_ | refine NX.then ?_ | refine NX.ret ?_ | refine NX.exit ?_ | refine NX.inRet ?_ | refine NX.inNormal ?_ | refine NX.inExit ?_ | refine NX.outExit (by decide) ?_))
  refine AW.at_ (fun L hL => ?_)
  simp at hL
  subst hL
  refine AW.re ty (by kernel_rfl) (by first | exact cx_N _ _ _ | assumption) (by first | exact cx_pz _ _ _ | assumption) 1 (by decide) (fun K hK => ?_)
  (try simp only [List.toList_toArray, toList_lit]); repeat (with_reducible refine AR.step (fun K1 K2 hK1 hK2 => ?_); simp; (first | refine hK1.out _ _ ?_ | refine hK2.out _ ?_ | refine ⟨by kernel_rfl, hK2.out _ ?_⟩); clear hK1 hK2 K1 K2; simp); (try with_reducible refine AR.nil ?_)
  refine ⟨chk_text _ _, hK.out _ ?_⟩
  clear hK K
  with_reducible (repeat (first | refine AW.seq ?_ | refine AW.block ?_ | refine AW.skip ?_ | refine AW.exit ?_ | refine AW.ret ?_ | refine AW.label ?_ | refine NX.then ?_ | refine NX.ret ?_ | refine NX.exit ?_ | refine NX.inRet ?_ | refine NX.inNormal ?_ | refine NX.inExit ?_ | refine NX.outExit (by decide) ?_))
  refine AW.re ty (by kernel_rfl) (by first | exact cx_N _ _ _ | assumption) (by first | exact cx_pz _ _ _ | assumption) 10 (by decide) (fun K hK => ?_)
  (try simp only [List.toList_toArray, toList_lit]); repeat (with_reducible refine AR.step (fun K1 K2 hK1 hK2 => ?_); simp; (first | refine hK1.out _ _ ?_ | refine hK2.out _ ?_ | refine ⟨by kernel_rfl, hK2.out _ ?_⟩); clear hK1 hK2 K1 K2; simp); (try with_reducible refine AR.nil ?_)
  refine ⟨chk_text _ _, hK.out _ ?_⟩
  clear hK K
  with_reducible (repeat (first | refine AW.seq ?_ | refine AW.block ?_ | refine AW.skip ?_ | refine AW.exit ?_ | refine AW.ret ?_ | refine AW.label ?_ | refine NX.then ?_ | refine NX.ret ?_ | refine NX.exit ?_ | refine NX.inRet ?_ | refine NX.inNormal ?_ | refine NX.inExit ?_ | refine NX.outExit (by decide) ?_))
  refine AW.loop (X := { k : Nat // k ≤ l.length ∧ ∀ q ∈ l.take k, p ≠ q }) (fun x => inS l p x.1) (fun x => l.length - x.1) ⟨0, by simp⟩ (fun _ _ h => AS.fold (fold_of (V := vw [] [] [] []) (by first | exact cx_pz _ _ _ | assumption) (by kernel_rfl) (by rfl) (by simp [inS, foks_nil, foks_cons, fok_tmp, fok_vt, fok_cell, fok_nm, fok_zn, fok_hd, fok_df, Fv_c, Fv_seg, Fv_tup, Fv_agg, Fv_ptr, Fv_ptrs, Fv_fn, Fv_fnd, Fv_own, Fv_ownd, Fv_nown, Fv_vown, FvL_nil, FvL_cons, kvp_av, hdp_some, subz, frz, Uz, Nm, Uh, vw_nb, vw_zo, vw_zf, vw_hb, tb_nil, tb_cons, fzc_nil, fzc_cons, fzcaps_nil, fzcaps_cons])) h) (fun x => ?_)
  obtain ⟨k, hk, hkt⟩ := x
  refine AW.at_ (fun L hL => ?_)
  simp [inS] at hL
  subst hL
  with_reducible (repeat (first | refine AW.seq ?_ | refine AW.block ?_ | refine AW.skip ?_ | refine AW.exit ?_ | refine AW.ret ?_ | refine AW.label ?_ | refine NX.then ?_ | refine NX.ret ?_ | refine NX.exit ?_ | refine NX.inRet ?_ | refine NX.inNormal ?_ | refine NX.inExit ?_ | refine NX.outExit (by decide) ?_))
  have tw : ∀ k, k ≤ l.length → (∀ q ∈ l.take k, p ≠ q) → l.takeWhile (fun q => !decide (p = q)) = l.take k ++ (l.drop k).takeWhile (fun q => !decide (p = q)) := fun k hk h => by
    have e : l = l.take k ++ l.drop k := (List.take_append_drop k l).symm
    conv => lhs; rw [e]
    exact List.takeWhile_append_of_pos (by simpa using h)
  by_cases hgo : k < l.length
  · have w5 : IntKind.i64.wrap ((k : Int) + 1) = ((k + 1 : Nat) : Int) := by rw [i64_ok _ (by omega) (by omega)]; omega
    obtain ⟨x, hx⟩ : ∃ x, l[k] = x := ⟨_, rfl⟩
    have ta := List.take_succ_eq_append_getElem hgo
    refine AW.re ty (by kernel_rfl) (by first | exact cx_N _ _ _ | assumption) (by first | exact cx_pz _ _ _ | assumption) 200 (by decide) (fun K hK => ?_)
    (try simp only [List.toList_toArray, toList_lit]); repeat (with_reducible refine AR.step (fun K1 K2 hK1 hK2 => ?_); simp [hgo]; (first | refine hK1.out _ _ ?_ | refine hK2.out _ ?_ | refine ⟨by kernel_rfl, hK2.out _ ?_⟩); clear hK1 hK2 K1 K2; simp [hgo]); (try with_reducible refine AR.nil ?_)
    refine ⟨chk_text _ _, hK.out _ ?_⟩
    clear hK K
    with_reducible (repeat (first | refine AW.seq ?_ | refine AW.block ?_ | refine AW.skip ?_ | refine AW.exit ?_ | refine AW.ret ?_ | refine AW.label ?_ | refine NX.then ?_ | refine NX.ret ?_ | refine NX.exit ?_ | refine NX.inRet ?_ | refine NX.inNormal ?_ | refine NX.inExit ?_ | refine NX.outExit (by decide) ?_))
    refine AW.ct rfl ?_
    with_reducible (repeat (first | refine AW.seq ?_ | refine AW.block ?_ | refine AW.skip ?_ | refine AW.exit ?_ | refine AW.ret ?_ | refine AW.label ?_ | refine NX.then ?_ | refine NX.ret ?_ | refine NX.exit ?_ | refine NX.inRet ?_ | refine NX.inNormal ?_ | refine NX.inExit ?_ | refine NX.outExit (by decide) ?_))
    refine AW.re ty (by kernel_rfl) (by first | exact cx_N _ _ _ | assumption) (by first | exact cx_pz _ _ _ | assumption) 210 (by decide) (fun K hK => ?_)
    (try simp only [List.toList_toArray, toList_lit]); repeat (with_reducible refine AR.step (fun K1 K2 hK1 hK2 => ?_); simp [hgo]; (first | refine hK1.out _ _ ?_ | refine hK2.out _ ?_ | refine ⟨by kernel_rfl, hK2.out _ ?_⟩); clear hK1 hK2 K1 K2; simp [hgo]); (try with_reducible refine AR.nil ?_)
    refine ⟨chk_text _ _, hK.out _ ?_⟩
    clear hK K
    with_reducible (repeat (first | refine AW.seq ?_ | refine AW.block ?_ | refine AW.skip ?_ | refine AW.exit ?_ | refine AW.ret ?_ | refine AW.label ?_ | refine NX.then ?_ | refine NX.ret ?_ | refine NX.exit ?_ | refine NX.inRet ?_ | refine NX.inNormal ?_ | refine NX.inExit ?_ | refine NX.outExit (by decide) ?_))
    by_cases hxp : p = x
    · have hb : decide (p = x) = true := by rw [decide_eq_true_iff]; exact hxp
      have e : l.takeWhile (fun q => !decide (p = q)) = l.take k := by
        rw [tw k hk hkt, List.drop_eq_getElem_cons hgo, hx, List.takeWhile_cons]
        simp [hxp]
      have hi : idxP l p = k := by
        unfold idxP
        rw [e, List.length_take, Nat.min_eq_left hk, if_pos hgo]
      rw [hi]
      refine AW.re ty (by kernel_rfl) (by first | exact cx_N _ _ _ | assumption) (by first | exact cx_pz _ _ _ | assumption) 220 (by decide) (fun K hK => ?_)
      (try simp only [List.toList_toArray, toList_lit]); repeat (with_reducible refine AR.step (fun K1 K2 hK1 hK2 => ?_); simp [hgo]; (first | refine hK1.out _ _ ?_ | refine hK2.out _ ?_ | refine ⟨by kernel_rfl, hK2.out _ ?_⟩); clear hK1 hK2 K1 K2; simp [hgo]); (try with_reducible refine AR.nil ?_)
      refine AR.step (fun K1 K2 hK1 hK2 => ?_)
      simp [hgo]
      refine ⟨k, PD x, rfl, by simp [hgo, hx], ?_⟩
      refine hK1.out _ _ ?_
      clear hK1 hK2 K1 K2
      (try simp [hgo])
      (try simp only [List.toList_toArray, toList_lit]); repeat (with_reducible refine AR.step (fun K1 K2 hK1 hK2 => ?_); simp [hgo]; (first | refine hK1.out _ _ ?_ | refine hK2.out _ ?_ | refine ⟨by kernel_rfl, hK2.out _ ?_⟩); clear hK1 hK2 K1 K2; simp [hgo]); (try with_reducible refine AR.nil ?_)
      refine AR.step (fun K1 K2 hK1 hK2 => ?_)
      simp [hgo]
      refine sba_eql p x hb ?_
      refine hK1.out _ _ ?_
      clear hK1 hK2 K1 K2
      (try simp [hgo])
      (try simp only [List.toList_toArray, toList_lit]); repeat (with_reducible refine AR.step (fun K1 K2 hK1 hK2 => ?_); simp [hgo]; (first | refine hK1.out _ _ ?_ | refine hK2.out _ ?_ | refine ⟨by kernel_rfl, hK2.out _ ?_⟩); clear hK1 hK2 K1 K2; simp [hgo]); (try with_reducible refine AR.nil ?_)
      refine ⟨chk_drawn (by kernel_rfl) (by kernel_rfl), hK.out _ ?_⟩
      clear hK K
      with_reducible (repeat (first | refine AW.seq ?_ | refine AW.block ?_ | refine AW.skip ?_ | refine AW.exit ?_ | refine AW.ret ?_ | refine AW.label ?_ | refine NX.then ?_ | refine NX.ret ?_ | refine NX.exit ?_ | refine NX.inRet ?_ | refine NX.inNormal ?_ | refine NX.inExit ?_ | refine NX.outExit (by decide) ?_))
      refine AW.ct rfl ?_
      with_reducible (repeat (first | refine AW.seq ?_ | refine AW.block ?_ | refine AW.skip ?_ | refine AW.exit ?_ | refine AW.ret ?_ | refine AW.label ?_ | refine NX.then ?_ | refine NX.ret ?_ | refine NX.exit ?_ | refine NX.inRet ?_ | refine NX.inNormal ?_ | refine NX.inExit ?_ | refine NX.outExit (by decide) ?_))
      refine AW.re ty (by kernel_rfl) (by first | exact cx_N _ _ _ | assumption) (by first | exact cx_pz _ _ _ | assumption) 230 (by decide) (fun K hK => ?_)
      (try simp only [List.toList_toArray, toList_lit]); repeat (with_reducible refine AR.step (fun K1 K2 hK1 hK2 => ?_); simp [hgo]; (first | refine hK1.out _ _ ?_ | refine hK2.out _ ?_ | refine ⟨by kernel_rfl, hK2.out _ ?_⟩); clear hK1 hK2 K1 K2; simp [hgo]); (try with_reducible refine AR.nil ?_)
      refine ⟨chk_text _ _, hK.out _ ?_⟩
      clear hK K
      with_reducible (repeat (first | refine AW.seq ?_ | refine AW.block ?_ | refine AW.skip ?_ | refine AW.exit ?_ | refine AW.ret ?_ | refine AW.label ?_ | refine NX.then ?_ | refine NX.ret ?_ | refine NX.exit ?_ | refine NX.inRet ?_ | refine NX.inNormal ?_ | refine NX.inExit ?_ | refine NX.outExit (by decide) ?_))
      refine nx_ret (T := ty) (rs := [.tmp 4]) (zs := []) (ds := [dI (k : Nat)]) (rr := []) (.inr rfl) rfl (by kernel_rfl) (by kernel_rfl) (by simp) rfl
    · have hb : decide (p = x) = false := by rw [decide_eq_false_iff_not]; exact hxp
      have hk2 : ∀ q ∈ l.take (k + 1), p ≠ q := by
        rw [ta, hx]
        intro q hq
        rw [List.mem_append, List.mem_singleton] at hq
        rcases hq with hq | rfl
        · exact hkt q hq
        · exact hxp
      refine AW.re ty (by kernel_rfl) (by first | exact cx_N _ _ _ | assumption) (by first | exact cx_pz _ _ _ | assumption) 220 (by decide) (fun K hK => ?_)
      (try simp only [List.toList_toArray, toList_lit]); repeat (with_reducible refine AR.step (fun K1 K2 hK1 hK2 => ?_); simp [hgo]; (first | refine hK1.out _ _ ?_ | refine hK2.out _ ?_ | refine ⟨by kernel_rfl, hK2.out _ ?_⟩); clear hK1 hK2 K1 K2; simp [hgo]); (try with_reducible refine AR.nil ?_)
      refine AR.step (fun K1 K2 hK1 hK2 => ?_)
      simp [hgo]
      refine ⟨k, PD x, rfl, by simp [hgo, hx], ?_⟩
      refine hK1.out _ _ ?_
      clear hK1 hK2 K1 K2
      (try simp [hgo])
      (try simp only [List.toList_toArray, toList_lit]); repeat (with_reducible refine AR.step (fun K1 K2 hK1 hK2 => ?_); simp [hgo]; (first | refine hK1.out _ _ ?_ | refine hK2.out _ ?_ | refine ⟨by kernel_rfl, hK2.out _ ?_⟩); clear hK1 hK2 K1 K2; simp [hgo]); (try with_reducible refine AR.nil ?_)
      refine AR.step (fun K1 K2 hK1 hK2 => ?_)
      simp [hgo]
      refine sba_eql p x hb ?_
      refine hK1.out _ _ ?_
      clear hK1 hK2 K1 K2
      (try simp [hgo])
      (try simp only [List.toList_toArray, toList_lit]); repeat (with_reducible refine AR.step (fun K1 K2 hK1 hK2 => ?_); simp [hgo]; (first | refine hK1.out _ _ ?_ | refine hK2.out _ ?_ | refine ⟨by kernel_rfl, hK2.out _ ?_⟩); clear hK1 hK2 K1 K2; simp [hgo]); (try with_reducible refine AR.nil ?_)
      refine ⟨chk_drawn (by kernel_rfl) (by kernel_rfl), hK.out _ ?_⟩
      clear hK K
      with_reducible (repeat (first | refine AW.seq ?_ | refine AW.block ?_ | refine AW.skip ?_ | refine AW.exit ?_ | refine AW.ret ?_ | refine AW.label ?_ | refine NX.then ?_ | refine NX.ret ?_ | refine NX.exit ?_ | refine NX.inRet ?_ | refine NX.inNormal ?_ | refine NX.inExit ?_ | refine NX.outExit (by decide) ?_))
      refine AW.cf rfl ?_
      with_reducible (repeat (first | refine AW.seq ?_ | refine AW.block ?_ | refine AW.skip ?_ | refine AW.exit ?_ | refine AW.ret ?_ | refine AW.label ?_ | refine NX.then ?_ | refine NX.ret ?_ | refine NX.exit ?_ | refine NX.inRet ?_ | refine NX.inNormal ?_ | refine NX.inExit ?_ | refine NX.outExit (by decide) ?_))
      refine AW.re ty (by kernel_rfl) (by first | exact cx_N _ _ _ | assumption) (by first | exact cx_pz _ _ _ | assumption) 240 (by decide) (fun K hK => ?_)
      (try simp only [List.toList_toArray, toList_lit]); repeat (with_reducible refine AR.step (fun K1 K2 hK1 hK2 => ?_); simp [w5]; (first | refine hK1.out _ _ ?_ | refine hK2.out _ ?_ | refine ⟨by kernel_rfl, hK2.out _ ?_⟩); clear hK1 hK2 K1 K2; simp [w5]); (try with_reducible refine AR.nil ?_)
      refine ⟨chk_text _ _, hK.out _ ?_⟩
      clear hK K
      with_reducible (repeat (first | refine AW.seq ?_ | refine AW.block ?_ | refine AW.skip ?_ | refine AW.exit ?_ | refine AW.ret ?_ | refine AW.label ?_ | refine NX.then ?_ | refine NX.ret ?_ | refine NX.exit ?_ | refine NX.inRet ?_ | refine NX.inNormal ?_ | refine NX.inExit ?_ | refine NX.outExit (by decide) ?_))
      exact NX.round ⟨k + 1, hgo, hk2⟩ (by show l.length - (k + 1) < l.length - k; omega) (fun _ _ h => AS.fold (fold_of (V := vw [] [] [] []) (by first | exact cx_pz _ _ _ | assumption) (by kernel_rfl) (by rfl) (by simp [inS, foks_nil, foks_cons, fok_tmp, fok_vt, fok_cell, fok_nm, fok_zn, fok_hd, fok_df, Fv_c, Fv_seg, Fv_tup, Fv_agg, Fv_ptr, Fv_ptrs, Fv_fn, Fv_fnd, Fv_own, Fv_ownd, Fv_nown, Fv_vown, FvL_nil, FvL_cons, kvp_av, hdp_some, subz, frz, Uz, Nm, Uh, vw_nb, vw_zo, vw_zf, vw_hb, tb_nil, tb_cons, fzc_nil, fzc_cons, fzcaps_nil, fzcaps_cons])) h)
  · obtain rfl : k = l.length := by omega
    have hi : idxP l p = -1 := by
      unfold idxP
      rw [tw l.length hk hkt]
      simp
    rw [hi]
    refine AW.re ty (by kernel_rfl) (by first | exact cx_N _ _ _ | assumption) (by first | exact cx_pz _ _ _ | assumption) 300 (by decide) (fun K hK => ?_)
    (try simp only [List.toList_toArray, toList_lit]); repeat (with_reducible refine AR.step (fun K1 K2 hK1 hK2 => ?_); simp; (first | refine hK1.out _ _ ?_ | refine hK2.out _ ?_ | refine ⟨by kernel_rfl, hK2.out _ ?_⟩); clear hK1 hK2 K1 K2; simp); (try with_reducible refine AR.nil ?_)
    refine ⟨chk_text _ _, hK.out _ ?_⟩
    clear hK K
    with_reducible (repeat (first | refine AW.seq ?_ | refine AW.block ?_ | refine AW.skip ?_ | refine AW.exit ?_ | refine AW.ret ?_ | refine AW.label ?_ | refine NX.then ?_ | refine NX.ret ?_ | refine NX.exit ?_ | refine NX.inRet ?_ | refine NX.inNormal ?_ | refine NX.inExit ?_ | refine NX.outExit (by decide) ?_))
    refine AW.cf rfl ?_
    with_reducible (repeat (first | refine AW.seq ?_ | refine AW.block ?_ | refine AW.skip ?_ | refine AW.exit ?_ | refine AW.ret ?_ | refine AW.label ?_ | refine NX.then ?_ | refine NX.ret ?_ | refine NX.exit ?_ | refine NX.inRet ?_ | refine NX.inNormal ?_ | refine NX.inExit ?_ | refine NX.outExit (by decide) ?_))
    refine AW.re ty (by kernel_rfl) (by first | exact cx_N _ _ _ | assumption) (by first | exact cx_pz _ _ _ | assumption) 310 (by decide) (fun K hK => ?_)
    (try simp only [List.toList_toArray, toList_lit]); repeat (with_reducible refine AR.step (fun K1 K2 hK1 hK2 => ?_); simp; (first | refine hK1.out _ _ ?_ | refine hK2.out _ ?_ | refine ⟨by kernel_rfl, hK2.out _ ?_⟩); clear hK1 hK2 K1 K2; simp); (try with_reducible refine AR.nil ?_)
    refine ⟨chk_text _ _, hK.out _ ?_⟩
    clear hK K
    with_reducible (repeat (first | refine AW.seq ?_ | refine AW.block ?_ | refine AW.skip ?_ | refine AW.exit ?_ | refine AW.ret ?_ | refine AW.label ?_ | refine NX.then ?_ | refine NX.ret ?_ | refine NX.exit ?_ | refine NX.inRet ?_ | refine NX.inNormal ?_ | refine NX.inExit ?_ | refine NX.outExit (by decide) ?_))
    refine nx_ret (T := ty) (rs := [.tmp 4]) (zs := []) (ds := [dI (-1)]) (rr := []) (.inr rfl) rfl (by kernel_rfl) (by kernel_rfl) (by simp) rfl
set_option maxHeartbeats 4000000 in
theorem contains_ct (l : List Pr) (p : Pr) (hn : l.length ≤ 1000000) : Ct Try.prog 80 [.c (RD l), PV p] none (.one (dB (decide (p ∈ l)))) := by
  have c1 := indexp_ct l p hn
  rw [← idxP_mem]
  refine ct_intro Try.func80 rfl Try.ntmps80 (by simp) (fun W0 Z => ?_)
  with_reducible (repeat (first | refine AW.seq ?_ | refine AW.block ?_ | refine AW.skip ?_ | refine AW.exit ?_ | refine AW.ret ?_ | refine AW.label ?_ | refine NX.then ?_ | refine NX.ret ?_ | refine NX.exit ?_ | refine NX.inRet ?_ | refine NX.inNormal ?_ | refine NX.inExit ?_ | refine NX.outExit (by decide) ?_))
  refine AW.at_ (fun L hL => ?_)
  simp at hL
  subst hL
  refine AW.re ty (by kernel_rfl) (by first | exact cx_N _ _ _ | assumption) (by first | exact cx_pz _ _ _ | assumption) 1 (by decide) (fun K hK => ?_)
  (try simp only [List.toList_toArray, toList_lit]); repeat (with_reducible refine AR.step (fun K1 K2 hK1 hK2 => ?_); simp; (first | refine hK1.out _ _ ?_ | refine hK2.out _ ?_ | refine ⟨by kernel_rfl, hK2.out _ ?_⟩); clear hK1 hK2 K1 K2; simp); (try with_reducible refine AR.nil ?_)
  refine ⟨chk_text _ _, hK.out _ ?_⟩
  clear hK K
  with_reducible (repeat (first | refine AW.seq ?_ | refine AW.block ?_ | refine AW.skip ?_ | refine AW.exit ?_ | refine AW.ret ?_ | refine AW.label ?_ | refine NX.then ?_ | refine NX.ret ?_ | refine NX.exit ?_ | refine NX.inRet ?_ | refine NX.inNormal ?_ | refine NX.inExit ?_ | refine NX.outExit (by decide) ?_))
  refine AW.re ty (by kernel_rfl) (by first | exact cx_N _ _ _ | assumption) (by first | exact cx_pz _ _ _ | assumption) 10 (by decide) (fun K hK => ?_)
  (try simp only [List.toList_toArray, toList_lit]); repeat (with_reducible refine AR.step (fun K1 K2 hK1 hK2 => ?_); simp; (first | refine hK1.out _ _ ?_ | refine hK2.out _ ?_ | refine ⟨by kernel_rfl, hK2.out _ ?_⟩); clear hK1 hK2 K1 K2; simp); (try with_reducible refine AR.nil ?_)
  refine AR.step (fun K1 K2 hK1 hK2 => ?_)
  simp
  refine orr_l ⟨by kernel_rfl, .inl ⟨_, c1, ?_⟩⟩
  (try simp)
  refine hK1.out _ _ ?_
  clear hK1 hK2 K1 K2
  (try simp)
  (try simp only [List.toList_toArray, toList_lit]); repeat (with_reducible refine AR.step (fun K1 K2 hK1 hK2 => ?_); simp; (first | refine hK1.out _ _ ?_ | refine hK2.out _ ?_ | refine ⟨by kernel_rfl, hK2.out _ ?_⟩); clear hK1 hK2 K1 K2; simp); (try with_reducible refine AR.nil ?_)
  refine ⟨chk_text _ _, hK.out _ ?_⟩
  clear hK K
  with_reducible (repeat (first | refine AW.seq ?_ | refine AW.block ?_ | refine AW.skip ?_ | refine AW.exit ?_ | refine AW.ret ?_ | refine AW.label ?_ | refine NX.then ?_ | refine NX.ret ?_ | refine NX.exit ?_ | refine NX.inRet ?_ | refine NX.inNormal ?_ | refine NX.inExit ?_ | refine NX.outExit (by decide) ?_))
  refine nx_ret (T := ty) (rs := [.tmp 4]) (zs := []) (ds := [dB (decide (0 ≤ idxP l p))]) (rr := []) (.inr rfl) rfl (by kernel_rfl) (by kernel_rfl) (by simp) rfl
end Go.Proofs.Ytlkdkhmdmgchbaa
namespace Go.Proofs.Ytlkdkhmdmgchbaa
set_option linter.unusedSimpArgs false
set_option linter.unusedVariables false
open Go.RowKit
attribute [local simp ↓] arun_nil ob_some kva_av kfree_free khfree_free khown_own klive_live knm_false chk_true ya_true gsel_tt gsel_ff gsel_tf gsel_ft vb_bool vi_int vstr_string avps_ptr avps_seg avp_ptr avagg_agg avtup_tup avb_bool avown_own shs_struct shsa_struct shsa_arr sharr_arr shl_slice shla_slice shla_arr shls_slice shls_str shi_int bc_true bc_false hd1_cons opc_some opc_none opn_some opn_none unc_not unc_neg gd_none gd_some as_move as_assign as_pick as_bin as_un as_conv as_load as_faddr as_field as_extract as_iaddr as_slice as_alloc as_box as_store as_build as_rows as_call as_append as_lookup as_mapUpdate as_makeMap as_range as_next as_entry as_index as_fn as_len as_min as_max stMove stPick stBin stUn stConv stLoad stFaddr stField stExtract stIaddr stSlice stAlloc stBox stStore stBuild stIndex stRows stCall stAppend stFn stLen stMin stMax opd_tmp opd_const opd_func rawL_nil rawL_cons raw_c raw_st raw_a opr_e zr_nil zr_cons lvd_live hod_own obd_some obd_none kvd_av chd_true vid_int lk_cons lk_nil ins_nil ins_cons cells_zero cells_succ spread1_c spread1_own spread1_ptr spread1_fn spread1_seg spreadL_nil spreadL_cons spread_agg spread_c spread_own spread_seg spread_ptr spread_fn ex_zero ex_succ ops_e opb_none opb_int spreadD_agg spreadD_c spreadD_own spreadD_seg fillO_nil fillO_cons argsOf_nil argsOf_cons dvOf_c dvOf_seg dvOf_own dvOf_agg zrL_nil zrL_cons hdd_c hdd_seg hdd_own clz_e clv_raw clv_f callD_e dst0_n dst0_nil dst0_own goneH_e capc_ptr capc_seg capc_c capN_nil capN_cons capD_nil capD_cons deadZ_nil deadZ_cons
attribute [local simp] dok_some dok_none dflt_tmp dflt_vt dflt_cell dflt_zn dflt_nm dflt_hd dflt_df puts_nil puts_cons wr_some wr_none cst_agg cst_int cst_bool cst_string cst_slice cst_tuple cst_nilFunc cst_pointer cst_func bin_add bin_sub bin_mul bin_quo bin_rem bin_eql bin_neq bin_lss bin_leq bin_gtr bin_geq bin_bool bin_aggs binT_bool binT_aggs shbd_bool eqb_eql eqb_neq bin_slice bin_str_eql bin_str_neq bin_str_lss bin_str_add nz_v nz_n nz_s nz_p nz_f nz_st atz_v atz_n atz_s atz_p atz_f atz_st atz_agg atR_one atR_tup crow_nil crow_cons slc_c slc_n slc_own slc_nil raws setR placesT_nil placesT_cons zc chunk zsAll ocD_v ocD_n ocD_s ocD_p ocD_f ocD_st nrm_v nrm_n nrm_s nrm_p nrm_f nrm_st isV_one isV_tup isV_c isV_agg isV_v isV_n isV_s isV_p isV_f isV_st argRows Sh.agg zds_nil zds_e zds_v zds_s vcells_agg vcells_int vcells_bool vcells_string vcells_slice vcells_pointer toList_lit map_nilL map_consL nzr_e rowsOc_nil rowsOc_cons rowsOc_RD nzr_RD ty2 ty3 ty4 ty5 ty6 ty7 ty8 ty9 ty10 ty11 ty12 ty13 ty14 ty15 ty16 ty17 ty18 ty19 ty20 ty21 ty22 ty23 ty24 ty25 ty26 ty27 ty30 ty40 ty48 ty50 ty51 ty52 ty55 ty57 ty62 ty63 ty85 ty94 ty101 ty121 ty122 ty123 ty124 ty125 ty126 ty128 ty148 ty149 ty151 ty164 ty165 ty179 ty182 ty196 ty203 ty205 ty209 ty211 ty215 ty216 ty217 ty218 ty219 ty220 ty221 ty223 ty224 ty225 ty226 ty227 Value.oneCell'
set_option maxRecDepth 100000
def btwL (l : List Pr) (f t : Pr) : List Pr := (l.take (placeL l t)).drop (placeL l f)
theorem placeL_mono (l : List Pr) {f t : Pr} (h : lt f t) : placeL l f ≤ placeL l t := by
  unfold placeL
  rw [← List.countP_eq_length_filter, ← List.countP_eq_length_filter]
  exact List.countP_mono_left fun x _ hx => by
    simp only [decide_eq_true_eq] at hx ⊢
    exact lt_tr hx h
theorem btwL_mem {l : List Pr} (hr : Rises l) (f t p : Pr) : p ∈ btwL l f t ↔ p ∈ l ∧ ¬ lt p f ∧ lt p t := by
  obtain ⟨a1, a2⟩ := place_split (p := f) hr
  obtain ⟨b1, b2⟩ := place_split (p := t) hr
  unfold btwL
  constructor
  · intro h
    have h1 : p ∈ l.take (placeL l t) := List.mem_of_mem_drop h
    refine ⟨List.mem_of_mem_take h1, ?_, b1 p h1⟩
    rw [List.drop_take] at h
    exact a2 p (List.mem_of_mem_take h)
  · rintro ⟨h, h1, h2⟩
    rw [← List.take_append_drop (placeL l t) l, List.mem_append] at h
    rcases h with h | h
    · rw [← List.take_append_drop (placeL l f) (l.take (placeL l t)), List.mem_append] at h
      rcases h with h | h
      · rw [List.take_take] at h
        have : p ∈ l.take (placeL l f) := by
          refine (List.take_subset_take_left l ?_) h
          omega
        exact absurd (a1 p this) h1
      · exact h
    · exact absurd h2 (b2 p h)
set_option maxHeartbeats 4000000 in
theorem between_ct (l : List Pr) (f t : Pr) (hr : Rises l) (hrt : rightL l = true) (hn : l.length ≤ 1000000) (hft : lt f t) : Ct Try.prog 66 [.c (RD l), PV f, PV t] (some 52) (.one (.c (RD (btwL l f t)))) := by
  have c1 := check_ct l
  rw [hrt] at c1
  have c2 := compare_ct f t
  have hc : pcmp f t = -1 := by have := (pcmp_lt f t).2 hft; have := pcmp_small f t; omega
  rw [hc] at c2
  have c3 := place_ct l f hr (by omega)
  have c4 := place_ct l t hr (by omega)
  have hij := placeL_mono l hft
  have hjl := placeL_le l t
  unfold btwL
  generalize placeL l f = i at *
  generalize placeL l t = j at *
  obtain ⟨m, hm⟩ : ∃ m, m = (l.take j).drop i := ⟨_, rfl⟩
  have c5 := clone_ct m (by rw [hm]; simp; omega)
  rw [← hm]
  have hmp : ((l.map PD).take j).drop i = m.map PD := by rw [hm, List.map_drop, List.map_take]
  refine ct_intro Try.func66 rfl Try.ntmps66 (by simp) (fun W0 Z => ?_)
  with_reducible (repeat (first | refine AW.seq ?_ | refine AW.block ?_ | refine AW.skip ?_ | refine AW.exit ?_ | refine AW.ret ?_ | refine AW.label ?_ | refine NX.then ?_ | refine NX.ret ?_ | refine NX.exit ?_ | refine NX.inRet ?_ | refine NX.inNormal ?_ | refine NX.inExit ?_ | refine NX.outExit (by decide) ?_))
  refine AW.at_ (fun L hL => ?_)
  simp at hL
  subst hL
  refine AW.re ty (by kernel_rfl) (by first | exact cx_N _ _ _ | assumption) (by first | exact cx_pz _ _ _ | assumption) 1 (by decide) (fun K hK => ?_)
  (try simp only [List.toList_toArray, toList_lit]); repeat (with_reducible refine AR.step (fun K1 K2 hK1 hK2 => ?_); simp; (first | refine hK1.out _ _ ?_ | refine hK2.out _ ?_ | refine ⟨by kernel_rfl, hK2.out _ ?_⟩); clear hK1 hK2 K1 K2; simp); (try with_reducible refine AR.nil ?_)
  refine ⟨chk_text _ _, hK.out _ ?_⟩
  clear hK K
  with_reducible (repeat (first | refine AW.seq ?_ | refine AW.block ?_ | refine AW.skip ?_ | refine AW.exit ?_ | refine AW.ret ?_ | refine AW.label ?_ | refine NX.then ?_ | refine NX.ret ?_ | refine NX.exit ?_ | refine NX.inRet ?_ | refine NX.inNormal ?_ | refine NX.inExit ?_ | refine NX.outExit (by decide) ?_))
  refine AW.re ty (by kernel_rfl) (by first | exact cx_N _ _ _ | assumption) (by first | exact cx_pz _ _ _ | assumption) 10 (by decide) (fun K hK => ?_)
  (try simp only [List.toList_toArray, toList_lit]); repeat (with_reducible refine AR.step (fun K1 K2 hK1 hK2 => ?_); simp; (first | refine hK1.out _ _ ?_ | refine hK2.out _ ?_ | refine ⟨by kernel_rfl, hK2.out _ ?_⟩); clear hK1 hK2 K1 K2; simp); (try with_reducible refine AR.nil ?_)
  refine AR.step (fun K1 K2 hK1 hK2 => ?_)
  simp
  refine orr_l ⟨by kernel_rfl, .inl ⟨_, c1, ?_⟩⟩
  (try simp)
  refine hK1.out _ _ ?_
  clear hK1 hK2 K1 K2
  (try simp)
  (try simp only [List.toList_toArray, toList_lit]); repeat (with_reducible refine AR.step (fun K1 K2 hK1 hK2 => ?_); simp; (first | refine hK1.out _ _ ?_ | refine hK2.out _ ?_ | refine ⟨by kernel_rfl, hK2.out _ ?_⟩); clear hK1 hK2 K1 K2; simp); (try with_reducible refine AR.nil ?_)
  refine AR.step (fun K1 K2 hK1 hK2 => ?_)
  simp
  refine orr_l ⟨by kernel_rfl, .inl ⟨_, c2, ?_⟩⟩
  (try simp)
  refine hK1.out _ _ ?_
  clear hK1 hK2 K1 K2
  (try simp)
  (try simp only [List.toList_toArray, toList_lit]); repeat (with_reducible refine AR.step (fun K1 K2 hK1 hK2 => ?_); simp; (first | refine hK1.out _ _ ?_ | refine hK2.out _ ?_ | refine ⟨by kernel_rfl, hK2.out _ ?_⟩); clear hK1 hK2 K1 K2; simp); (try with_reducible refine AR.nil ?_)
  refine ⟨chk_text _ _, hK.out _ ?_⟩
  clear hK K
  with_reducible (repeat (first | refine AW.seq ?_ | refine AW.block ?_ | refine AW.skip ?_ | refine AW.exit ?_ | refine AW.ret ?_ | refine AW.label ?_ | refine NX.then ?_ | refine NX.ret ?_ | refine NX.exit ?_ | refine NX.inRet ?_ | refine NX.inNormal ?_ | refine NX.inExit ?_ | refine NX.outExit (by decide) ?_))
  refine AW.cf rfl ?_
  with_reducible (repeat (first | refine AW.seq ?_ | refine AW.block ?_ | refine AW.skip ?_ | refine AW.exit ?_ | refine AW.ret ?_ | refine AW.label ?_ | refine NX.then ?_ | refine NX.ret ?_ | refine NX.exit ?_ | refine NX.inRet ?_ | refine NX.inNormal ?_ | refine NX.inExit ?_ | refine NX.outExit (by decide) ?_))
  refine AW.re ty (by kernel_rfl) (by first | exact cx_N _ _ _ | assumption) (by first | exact cx_pz _ _ _ | assumption) 30 (by decide) (fun K hK => ?_)
  (try simp only [List.toList_toArray, toList_lit]); repeat (with_reducible refine AR.step (fun K1 K2 hK1 hK2 => ?_); simp; (first | refine hK1.out _ _ ?_ | refine hK2.out _ ?_ | refine ⟨by kernel_rfl, hK2.out _ ?_⟩); clear hK1 hK2 K1 K2; simp); (try with_reducible refine AR.nil ?_)
  refine AR.step (fun K1 K2 hK1 hK2 => ?_)
  simp
  refine orr_l ⟨by kernel_rfl, .inl ⟨_, c3, ?_⟩⟩
  (try simp)
  refine hK1.out _ _ ?_
  clear hK1 hK2 K1 K2
  (try simp)
  (try simp only [List.toList_toArray, toList_lit]); repeat (with_reducible refine AR.step (fun K1 K2 hK1 hK2 => ?_); simp; (first | refine hK1.out _ _ ?_ | refine hK2.out _ ?_ | refine ⟨by kernel_rfl, hK2.out _ ?_⟩); clear hK1 hK2 K1 K2; simp); (try with_reducible refine AR.nil ?_)
  refine AR.step (fun K1 K2 hK1 hK2 => ?_)
  simp
  refine orr_l ⟨by kernel_rfl, .inl ⟨_, c4, ?_⟩⟩
  (try simp)
  refine hK1.out _ _ ?_
  clear hK1 hK2 K1 K2
  (try simp)
  (try simp only [List.toList_toArray, toList_lit]); repeat (with_reducible refine AR.step (fun K1 K2 hK1 hK2 => ?_); simp; (first | refine hK1.out _ _ ?_ | refine hK2.out _ ?_ | refine ⟨by kernel_rfl, hK2.out _ ?_⟩); clear hK1 hK2 K1 K2; simp); (try with_reducible refine AR.nil ?_)
  refine ⟨chk_drawn (by kernel_rfl) (by kernel_rfl), hK.out _ ?_⟩
  clear hK K
  with_reducible (repeat (first | refine AW.seq ?_ | refine AW.block ?_ | refine AW.skip ?_ | refine AW.exit ?_ | refine AW.ret ?_ | refine AW.label ?_ | refine NX.then ?_ | refine NX.ret ?_ | refine NX.exit ?_ | refine NX.inRet ?_ | refine NX.inNormal ?_ | refine NX.inExit ?_ | refine NX.outExit (by decide) ?_))
  refine AW.re ty (by kernel_rfl) (by first | exact cx_N _ _ _ | assumption) (by first | exact cx_pz _ _ _ | assumption) 50 (by decide) (fun K hK => ?_)
  (try simp only [List.toList_toArray, toList_lit]); repeat (with_reducible refine AR.step (fun K1 K2 hK1 hK2 => ?_); simp; (first | refine hK1.out _ _ ?_ | refine hK2.out _ ?_ | refine ⟨by kernel_rfl, hK2.out _ ?_⟩); clear hK1 hK2 K1 K2; simp); (try with_reducible refine AR.nil ?_)
  refine AR.step (fun K1 K2 hK1 hK2 => ?_)
  simp
  refine slice_cut hij (Nat.le_refl _) (by simp; omega) ?_
  refine hK1.out _ _ ?_
  clear hK1 hK2 K1 K2
  (try simp)
  (try simp only [List.toList_toArray, toList_lit]); repeat (with_reducible refine AR.step (fun K1 K2 hK1 hK2 => ?_); simp; (first | refine hK1.out _ _ ?_ | refine hK2.out _ ?_ | refine ⟨by kernel_rfl, hK2.out _ ?_⟩); clear hK1 hK2 K1 K2; simp); (try with_reducible refine AR.nil ?_)
  rw [hmp]
  refine AR.step (fun K1 K2 hK1 hK2 => ?_)
  simp
  refine orr_l ⟨by kernel_rfl, .inr (.inl ⟨_, _, _, c5, ?_⟩)⟩
  (try simp)
  refine hK1.out _ _ ?_
  clear hK1 hK2 K1 K2
  (try simp)
  (try simp only [List.toList_toArray, toList_lit]); repeat (with_reducible refine AR.step (fun K1 K2 hK1 hK2 => ?_); simp; (first | refine hK1.out _ _ ?_ | refine hK2.out _ ?_ | refine ⟨by kernel_rfl, hK2.out _ ?_⟩); clear hK1 hK2 K1 K2; simp); (try with_reducible refine AR.nil ?_)
  refine ⟨chk_text _ _, hK.out _ ?_⟩
  clear hK K
  with_reducible (repeat (first | refine AW.seq ?_ | refine AW.block ?_ | refine AW.skip ?_ | refine AW.exit ?_ | refine AW.ret ?_ | refine AW.label ?_ | refine NX.then ?_ | refine NX.ret ?_ | refine NX.exit ?_ | refine NX.inRet ?_ | refine NX.inNormal ?_ | refine NX.inExit ?_ | refine NX.outExit (by decide) ?_))
  exact nx_reto (t := 6) (n := 55) (y := 55) (zs := [100055]) (rr := [(.zn 55, .zn .live), (.zn 100055, .zn .live)]) (.inr rfl) rfl (by kernel_rfl) (by kernel_rfl) (by kernel_rfl) (by simp) rfl
set_option maxHeartbeats 4000000 in
theorem between_ct' (l : List Pr) (f t : Pr) (hrt : rightL l = true) (hft : ¬ lt f t) : Ct Try.prog 66 [.c (RD l), PV f, PV t] none (.one (.c (.v (.slice none 0 0)))) := by
  have c1 := check_ct l
  rw [hrt] at c1
  have c2 := compare_ct f t
  have hc : 0 ≤ pcmp f t := by have := pcmp_lt f t; exact Int.not_lt.1 fun h => hft (this.1 h)
  generalize pcmp f t = z at *
  refine ct_intro Try.func66 rfl Try.ntmps66 (by simp) (fun W0 Z => ?_)
  with_reducible (repeat (first | refine AW.seq ?_ | refine AW.block ?_ | refine AW.skip ?_ | refine AW.exit ?_ | refine AW.ret ?_ | refine AW.label ?_ | refine NX.then ?_ | refine NX.ret ?_ | refine NX.exit ?_ | refine NX.inRet ?_ | refine NX.inNormal ?_ | refine NX.inExit ?_ | refine NX.outExit (by decide) ?_))
  refine AW.at_ (fun L hL => ?_)
  simp at hL
  subst hL
  refine AW.re ty (by kernel_rfl) (by first | exact cx_N _ _ _ | assumption) (by first | exact cx_pz _ _ _ | assumption) 1 (by decide) (fun K hK => ?_)
  (try simp only [List.toList_toArray, toList_lit]); repeat (with_reducible refine AR.step (fun K1 K2 hK1 hK2 => ?_); simp; (first | refine hK1.out _ _ ?_ | refine hK2.out _ ?_ | refine ⟨by kernel_rfl, hK2.out _ ?_⟩); clear hK1 hK2 K1 K2; simp); (try with_reducible refine AR.nil ?_)
  refine ⟨chk_text _ _, hK.out _ ?_⟩
  clear hK K
  with_reducible (repeat (first | refine AW.seq ?_ | refine AW.block ?_ | refine AW.skip ?_ | refine AW.exit ?_ | refine AW.ret ?_ | refine AW.label ?_ | refine NX.then ?_ | refine NX.ret ?_ | refine NX.exit ?_ | refine NX.inRet ?_ | refine NX.inNormal ?_ | refine NX.inExit ?_ | refine NX.outExit (by decide) ?_))
  refine AW.re ty (by kernel_rfl) (by first | exact cx_N _ _ _ | assumption) (by first | exact cx_pz _ _ _ | assumption) 10 (by decide) (fun K hK => ?_)
  (try simp only [List.toList_toArray, toList_lit]); repeat (with_reducible refine AR.step (fun K1 K2 hK1 hK2 => ?_); simp [hc]; (first | refine hK1.out _ _ ?_ | refine hK2.out _ ?_ | refine ⟨by kernel_rfl, hK2.out _ ?_⟩); clear hK1 hK2 K1 K2; simp [hc]); (try with_reducible refine AR.nil ?_)
  refine AR.step (fun K1 K2 hK1 hK2 => ?_)
  simp [hc]
  refine orr_l ⟨by kernel_rfl, .inl ⟨_, c1, ?_⟩⟩
  (try simp [hc])
  refine hK1.out _ _ ?_
  clear hK1 hK2 K1 K2
  (try simp [hc])
  (try simp only [List.toList_toArray, toList_lit]); repeat (with_reducible refine AR.step (fun K1 K2 hK1 hK2 => ?_); simp [hc]; (first | refine hK1.out _ _ ?_ | refine hK2.out _ ?_ | refine ⟨by kernel_rfl, hK2.out _ ?_⟩); clear hK1 hK2 K1 K2; simp [hc]); (try with_reducible refine AR.nil ?_)
  refine AR.step (fun K1 K2 hK1 hK2 => ?_)
  simp [hc]
  refine orr_l ⟨by kernel_rfl, .inl ⟨_, c2, ?_⟩⟩
  (try simp [hc])
  refine hK1.out _ _ ?_
  clear hK1 hK2 K1 K2
  (try simp [hc])
  (try simp only [List.toList_toArray, toList_lit]); repeat (with_reducible refine AR.step (fun K1 K2 hK1 hK2 => ?_); simp [hc]; (first | refine hK1.out _ _ ?_ | refine hK2.out _ ?_ | refine ⟨by kernel_rfl, hK2.out _ ?_⟩); clear hK1 hK2 K1 K2; simp [hc]); (try with_reducible refine AR.nil ?_)
  refine ⟨chk_text _ _, hK.out _ ?_⟩
  clear hK K
  with_reducible (repeat (first | refine AW.seq ?_ | refine AW.block ?_ | refine AW.skip ?_ | refine AW.exit ?_ | refine AW.ret ?_ | refine AW.label ?_ | refine NX.then ?_ | refine NX.ret ?_ | refine NX.exit ?_ | refine NX.inRet ?_ | refine NX.inNormal ?_ | refine NX.inExit ?_ | refine NX.outExit (by decide) ?_))
  refine AW.ct rfl ?_
  with_reducible (repeat (first | refine AW.seq ?_ | refine AW.block ?_ | refine AW.skip ?_ | refine AW.exit ?_ | refine AW.ret ?_ | refine AW.label ?_ | refine NX.then ?_ | refine NX.ret ?_ | refine NX.exit ?_ | refine NX.inRet ?_ | refine NX.inNormal ?_ | refine NX.inExit ?_ | refine NX.outExit (by decide) ?_))
  refine AW.re ty (by kernel_rfl) (by first | exact cx_N _ _ _ | assumption) (by first | exact cx_pz _ _ _ | assumption) 30 (by decide) (fun K hK => ?_)
  (try simp only [List.toList_toArray, toList_lit]); repeat (with_reducible refine AR.step (fun K1 K2 hK1 hK2 => ?_); simp [hc]; (first | refine hK1.out _ _ ?_ | refine hK2.out _ ?_ | refine ⟨by kernel_rfl, hK2.out _ ?_⟩); clear hK1 hK2 K1 K2; simp [hc]); (try with_reducible refine AR.nil ?_)
  refine ⟨chk_text _ _, hK.out _ ?_⟩
  clear hK K
  with_reducible (repeat (first | refine AW.seq ?_ | refine AW.block ?_ | refine AW.skip ?_ | refine AW.exit ?_ | refine AW.ret ?_ | refine AW.label ?_ | refine NX.then ?_ | refine NX.ret ?_ | refine NX.exit ?_ | refine NX.inRet ?_ | refine NX.inNormal ?_ | refine NX.inExit ?_ | refine NX.outExit (by decide) ?_))
  refine nx_ret (T := ty) (rs := [.tmp 6]) (zs := []) (ds := [.c (.v (.slice none 0 0))]) (rr := []) (.inr rfl) rfl (by kernel_rfl) (by kernel_rfl) (by simp) rfl
set_option maxHeartbeats 4000000 in
theorem firsts_ct' (l : List Pr) (hr : rightL l = false) : Ct Try.prog 73 [.c (RD l)] none (.one (.c (.v (.slice none 0 0)))) := by
  have c1 := check_ct l
  rw [hr] at c1
  refine ct_intro Try.func73 rfl Try.ntmps73 (by simp) (fun W0 Z => ?_)
  with_reducible (repeat (first | refine AW.seq ?_ | refine AW.block ?_ | refine AW.skip ?_ | refine AW.exit ?_ | refine AW.ret ?_ | refine AW.label ?_ | refine NX.then ?_ | refine NX.ret ?_ | refine NX.exit ?_ | refine NX.inRet ?_ | refine NX.inNormal ?_ | refine NX.inExit ?_ | refine NX.outExit (by decide) ?_))
  refine AW.at_ (fun L hL => ?_)
  simp at hL
  subst hL
  refine AW.re ty (by kernel_rfl) (by first | exact cx_N _ _ _ | assumption) (by first | exact cx_pz _ _ _ | assumption) 1 (by decide) (fun K hK => ?_)
  (try simp only [List.toList_toArray, toList_lit]); repeat (with_reducible refine AR.step (fun K1 K2 hK1 hK2 => ?_); simp; (first | refine hK1.out _ _ ?_ | refine hK2.out _ ?_ | refine ⟨by kernel_rfl, hK2.out _ ?_⟩); clear hK1 hK2 K1 K2; simp); (try with_reducible refine AR.nil ?_)
  refine ⟨chk_text _ _, hK.out _ ?_⟩
  clear hK K
  with_reducible (repeat (first | refine AW.seq ?_ | refine AW.block ?_ | refine AW.skip ?_ | refine AW.exit ?_ | refine AW.ret ?_ | refine AW.label ?_ | refine NX.then ?_ | refine NX.ret ?_ | refine NX.exit ?_ | refine NX.inRet ?_ | refine NX.inNormal ?_ | refine NX.inExit ?_ | refine NX.outExit (by decide) ?_))
  refine AW.re ty (by kernel_rfl) (by first | exact cx_N _ _ _ | assumption) (by first | exact cx_pz _ _ _ | assumption) 10 (by decide) (fun K hK => ?_)
  (try simp only [List.toList_toArray, toList_lit]); repeat (with_reducible refine AR.step (fun K1 K2 hK1 hK2 => ?_); simp; (first | refine hK1.out _ _ ?_ | refine hK2.out _ ?_ | refine ⟨by kernel_rfl, hK2.out _ ?_⟩); clear hK1 hK2 K1 K2; simp); (try with_reducible refine AR.nil ?_)
  refine AR.step (fun K1 K2 hK1 hK2 => ?_)
  simp
  refine orr_l ⟨by kernel_rfl, .inl ⟨_, c1, ?_⟩⟩
  (try simp)
  refine hK1.out _ _ ?_
  clear hK1 hK2 K1 K2
  (try simp)
  (try simp only [List.toList_toArray, toList_lit]); repeat (with_reducible refine AR.step (fun K1 K2 hK1 hK2 => ?_); simp; (first | refine hK1.out _ _ ?_ | refine hK2.out _ ?_ | refine ⟨by kernel_rfl, hK2.out _ ?_⟩); clear hK1 hK2 K1 K2; simp); (try with_reducible refine AR.nil ?_)
  refine ⟨chk_text _ _, hK.out _ ?_⟩
  clear hK K
  with_reducible (repeat (first | refine AW.seq ?_ | refine AW.block ?_ | refine AW.skip ?_ | refine AW.exit ?_ | refine AW.ret ?_ | refine AW.label ?_ | refine NX.then ?_ | refine NX.ret ?_ | refine NX.exit ?_ | refine NX.inRet ?_ | refine NX.inNormal ?_ | refine NX.inExit ?_ | refine NX.outExit (by decide) ?_))
  refine AW.ct rfl ?_
  with_reducible (repeat (first | refine AW.seq ?_ | refine AW.block ?_ | refine AW.skip ?_ | refine AW.exit ?_ | refine AW.ret ?_ | refine AW.label ?_ | refine NX.then ?_ | refine NX.ret ?_ | refine NX.exit ?_ | refine NX.inRet ?_ | refine NX.inNormal ?_ | refine NX.inExit ?_ | refine NX.outExit (by decide) ?_))
  refine AW.re ty (by kernel_rfl) (by first | exact cx_N _ _ _ | assumption) (by first | exact cx_pz _ _ _ | assumption) 30 (by decide) (fun K hK => ?_)
  (try simp only [List.toList_toArray, toList_lit]); repeat (with_reducible refine AR.step (fun K1 K2 hK1 hK2 => ?_); simp; (first | refine hK1.out _ _ ?_ | refine hK2.out _ ?_ | refine ⟨by kernel_rfl, hK2.out _ ?_⟩); clear hK1 hK2 K1 K2; simp); (try with_reducible refine AR.nil ?_)
  refine ⟨chk_text _ _, hK.out _ ?_⟩
  clear hK K
  with_reducible (repeat (first | refine AW.seq ?_ | refine AW.block ?_ | refine AW.skip ?_ | refine AW.exit ?_ | refine AW.ret ?_ | refine AW.label ?_ | refine NX.then ?_ | refine NX.ret ?_ | refine NX.exit ?_ | refine NX.inRet ?_ | refine NX.inNormal ?_ | refine NX.inExit ?_ | refine NX.outExit (by decide) ?_))
  refine nx_ret (T := ty) (rs := [.tmp 2]) (zs := []) (ds := [.c (.v (.slice none 0 0))]) (rr := []) (.inr rfl) rfl (by kernel_rfl) (by kernel_rfl) (by simp) rfl
end Go.Proofs.Ytlkdkhmdmgchbaa
namespace Go.Proofs.Ytlkdkhmdmgchbaa
set_option linter.unusedSimpArgs false
set_option linter.unusedVariables false
open Go.Lib
theorem ddI_sorted {s : List Int} (hs : s.Pairwise (· ≤ ·)) : ∀ m, m ≤ s.length → (compactUpTo s.toArray m).Pairwise (· < ·) ∧ ∀ q, q ∈ compactUpTo s.toArray m ↔ q ∈ s.take m
  | 0, _ => ⟨List.Pairwise.nil, fun q => by simp [compactUpTo]⟩
  | m + 1, h => by
    obtain ⟨ih1, ih2⟩ := ddI_sorted hs m (by omega)
    rw [compactUpTo_succ]
    have e : s.toArray[m]! = s[m] := by simp [show m < s.length by omega]
    have ts : s.take (m + 1) = s.take m ++ [s[m]] := List.take_succ_eq_append_getElem (by omega)
    rw [ts]
    by_cases hk : keeps s.toArray m = true
    · rw [if_pos hk, e]
      have lq : ∀ q ∈ s.take m, q < s[m] := fun q hq => by
        have h0 : m ≠ 0 := by rintro rfl; simp at hq
        have hne : s[m] ≠ s[m - 1] := by
          have := hk
          simp only [keeps, decide_eq_true_eq] at this
          rcases this with h | h
          · exact absurd h h0
          · rw [e] at h
            simpa [show m - 1 < s.length by omega] using h
        have h1 : s[m - 1] ≤ s[m] := List.pairwise_iff_getElem.1 hs (m - 1) m (by omega) (by omega) (by omega)
        obtain ⟨i, hi, rfl⟩ := List.mem_iff_getElem.1 hq
        rw [List.length_take] at hi
        rw [List.getElem_take]
        by_cases hi' : i = m - 1
        · subst hi'; omega
        · have h3 : s[i] ≤ s[m - 1] := List.pairwise_iff_getElem.1 hs i (m - 1) (by omega) (by omega) (by omega)
          omega
      refine ⟨?_, fun q => ?_⟩
      · rw [List.pairwise_append]
        refine ⟨ih1, List.pairwise_singleton _ _, fun a ha b hb => ?_⟩
        simp only [List.mem_singleton] at hb
        subst hb
        exact lq a ((ih2 a).1 ha)
      · simp only [List.mem_append, ih2]
    · rw [if_neg hk, List.append_nil]
      refine ⟨ih1, fun q => ?_⟩
      rw [ih2]
      simp only [List.mem_append, List.mem_singleton]
      refine ⟨.inl, ?_⟩
      rintro (h | rfl)
      · exact h
      · simp only [keeps, decide_eq_true_eq, not_or, Decidable.not_not] at hk
        obtain ⟨h0, h1⟩ := hk
        rw [e] at h1
        have e1 : s.toArray[m - 1]! = s[m - 1] := by simp [show m - 1 < s.length by omega]
        rw [e1] at h1
        rw [h1]
        exact List.mem_take_iff_getElem.2 ⟨m - 1, by omega, rfl⟩
def firL (m : List Pr) : List Int := ddI (m.map fun p => p.1)
theorem firL_is {m : List Pr} (hr : Rises m) : (firL m).Pairwise (· < ·) ∧ ∀ a, a ∈ firL m ↔ ∃ p ∈ m, p.1 = a := by
  have hs : (m.map fun p => p.1).Pairwise (· ≤ ·) := by
    rw [List.pairwise_map]
    exact List.Pairwise.imp (fun {a b} h => by unfold lt at h; omega) hr
  obtain ⟨h1, h2⟩ := ddI_sorted hs _ (Nat.le_refl _)
  refine ⟨h1, fun a => (h2 a).trans ?_⟩
  rw [List.take_length, List.mem_map]
/-- the pairs of a first one. -/
def grp (m : List Pr) (a : Int) : List Pr := (secL m a).map fun b => (a, b)
theorem grp_eq (m : List Pr) (a : Int) : grp m a = (m.drop (placeL m (a, 0))).takeWhile fun p => decide (p.1 = a) := by
  unfold grp secL
  rw [List.map_map]
  have : ∀ l : List Pr, (l.takeWhile fun p => decide (p.1 = a)).map ((fun b => (a, b)) ∘ fun p => p.2) = l.takeWhile fun p => decide (p.1 = a) := fun l => by
    induction l with
    | nil => rfl
    | cons x l ih =>
      by_cases h : x.1 = a
      · simp only [List.takeWhile_cons, h, decide_true, if_true, List.map_cons, ih, Function.comp_apply]
        congr 1
        exact Prod.ext h.symm rfl
      · simp [List.takeWhile_cons, h]
  exact this _
theorem grp_rises {m : List Pr} (hr : Rises m) (a : Int) : Rises (grp m a) := by
  rw [grp_eq]
  exact hr.sub ((List.takeWhile_sublist _).trans (List.drop_sublist _ _))
theorem grp_mem {m : List Pr} (hr : Rises m) (h0 : ∀ p ∈ m, 0 ≤ p.2) (a : Int) (p : Pr) : p ∈ grp m a ↔ p ∈ m ∧ p.1 = a := by
  rw [grp_eq]
  obtain ⟨a1, a2⟩ := place_split (p := (a, 0)) hr
  have hD : Rises (m.drop (placeL m (a, 0))) := hr.sub (List.drop_sublist _ _)
  have tw : ∀ D : List Pr, Rises D → (∀ x ∈ D, ¬ lt x (a, 0)) → ∀ p, p ∈ (D.takeWhile fun p => decide (p.1 = a)) ↔ p ∈ D ∧ p.1 = a := by
    intro D
    induction D with
    | nil => intro _ _ p; simp
    | cons x D ih =>
      intro h1 h2 p
      obtain ⟨g1, g2⟩ := rises_cons.1 h1
      by_cases hx : x.1 = a
      · rw [List.takeWhile_cons, if_pos (by simpa using hx), List.mem_cons, List.mem_cons, ih g2 (fun y hy => h2 y (by simp [hy])) p]
        constructor
        · rintro (rfl | h)
          · exact ⟨.inl rfl, hx⟩
          · exact ⟨.inr h.1, h.2⟩
        · rintro ⟨rfl | h, h'⟩
          · exact .inl rfl
          · exact .inr ⟨h, h'⟩
      · rw [List.takeWhile_cons, if_neg (by simpa using hx)]
        constructor
        · intro h; simp at h
        · rintro ⟨h, h'⟩
          exfalso
          have hxn := h2 x (by simp)
          rcases List.mem_cons.1 h with rfl | h
          · exact hx h'
          · have := g1 p h
            unfold lt at this hxn
            simp at hxn
            omega
  rw [tw _ hD a2]
  constructor
  · rintro ⟨h, h'⟩
    exact ⟨List.mem_of_mem_drop h, h'⟩
  · rintro ⟨h, h'⟩
    refine ⟨?_, h'⟩
    rw [← List.take_append_drop (placeL m (a, 0)) m, List.mem_append] at h
    rcases h with h | h
    · have h1 := a1 p h
      have h2 := h0 p (List.mem_of_mem_take h)
      unfold lt at h1
      simp at h1
      omega
    · exact h
theorem whole_law {m : List Pr} (hr : Rises m) (h0 : ∀ p ∈ m, 0 ≤ p.2) : (firL m).flatMap (grp m) = m := by
  obtain ⟨f1, f2⟩ := firL_is hr
  refine rises_ext ?_ hr fun p => ?_
  · unfold Rises
    rw [List.pairwise_flatMap]
    refine ⟨fun a _ => grp_rises hr a, List.Pairwise.imp (fun {a b} hab x hx y hy => ?_) f1⟩
    have e1 := ((grp_mem hr h0 a x).1 hx).2
    have e2 := ((grp_mem hr h0 b y).1 hy).2
    unfold lt; omega
  · rw [List.mem_flatMap]
    constructor
    · rintro ⟨a, _, h⟩
      exact ((grp_mem hr h0 a p).1 h).1
    · intro h
      exact ⟨p.1, (f2 p.1).2 ⟨p, h, rfl⟩, (grp_mem hr h0 p.1 p).2 ⟨h, rfl⟩⟩
end Go.Proofs.Ytlkdkhmdmgchbaa
