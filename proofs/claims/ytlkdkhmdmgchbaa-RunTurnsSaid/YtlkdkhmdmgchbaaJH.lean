/- The second logic: rows turned about, the law RunTurns. -/
import Derived.Test.YtlkdkhmdmgchbaaJD
import Derived.Test.YtlkdkhmdmgchbaaJG
import Derived.Shelf.SlicesQ.Reverse
import Derived.Test.YtlkdkhmdmgchbaaJS
namespace Go.Proofs.Ytlkdkhmdmgchbaa
set_option linter.unusedSimpArgs false
set_option linter.unusedVariables false
open Go.RowKit Go.Shelf Go.Lib Go.Sort
theorem holds_own {w : World} {g : Nat} {cur : Array Value} {E : TypeId} {l : List Pr} (hg : w.heap[g]? = some (.cells cur E (0, 0))) (h4 : cur.toList.take (l.length * 2) = flatP l) : HoldsK encP 2 w g 0 l.toArray := by
  intro j hj
  rw [flatK_P] at hj ⊢
  have hj' : j < (flatP l).length := by simpa using hj
  have e : cur[j]? = (flatP l)[j]? := by
    rw [← h4, List.getElem?_take, if_pos (by rw [flatP_len] at hj'; exact hj')]
    simp
  refine ⟨?_, ?_⟩
  · unfold World.cell?
    simp only [hg, Nat.zero_add, e, List.getElem?_eq_getElem hj']
    simp [getElem!_def, hj']
  · unfold World.frozen?
    simp only [hg]
    simp
theorem reverse_ku (l : List Pr) (hn : l.length ≤ 1000000000) : Ku Try.prog 63 [] 52 2 (l.map PD) (l.reverse.map PD) := by
  intro Z w v vs hrow hnz hr
  have how := rowat_to hrow trivial
  obtain rfl : vs = #[] := Array.size_eq_zero_iff.1 hr.1
  rcases how.2 with ⟨rfl, h0⟩ | ⟨g, cap, cur, rfl, -, hg, h1, h2, h3, h4⟩
  · have hl : l = [] := List.length_eq_zero_iff.1 h0
    subst hl
    have hcon := AnyQ.slices_Reverse_empty Try.revPr none 0 w
    change Calls Try.prog 63 _ _ _ at hcon
    refine hcon.mono ?_
    rintro e w' ⟨rfl, rfl⟩
    exact ⟨rfl, Keeps.refl _ _, hrow⟩
  · have hlt : g < w.heap.size := (Array.getElem?_eq_some_iff.1 hg).1
    have hcon := AnyQ.slices_Reverse Try.revPr 2 Try.isAgg52 Try.sizeOf52 encP (fun _ => rfl) (fun x v hv => by simp [encP] at hv; rcases hv with rfl | rfl <;> rfl) g 0 cap l.toArray w (holds_own hg h4) (by simp; omega)
    change Calls Try.prog 63 _ _ _ at hcon
    have hs : l.toArray.size = l.length := by simp
    rw [hs] at hcon
    refine hcon.mono ?_
    rintro e w' ⟨rfl, n, hw⟩
    obtain ⟨k1, cur', k2, k3, k4⟩ := sort_world_row (n := n) (os := #[]) (l' := l.reverse) hg (by rw [List.length_reverse]; omega)
    have hw : w' = sortWorldK encP 2 w g 0 n l.reverse.toArray #[] := by
      rw [hw]
      unfold sortWorldK
      rw [Go.Sort.grow_empty]
      simp
    rw [← hw] at k1 k2
    refine ⟨rfl, ⟨k1.os, k1.tape, k1.output, k1.size, fun k hk hb => k1.block k hk (fun e => hb (by rw [e]; rfl))⟩, rowat_of _ _ _ _ _ ?_⟩
    rw [List.length_reverse] at k4 ⊢
    exact ⟨by rw [flatP_len, List.length_reverse], .inr ⟨g, cap, cur', rfl, Nat.zero_le _, k2, h1, h2, k3.trans h3, k4⟩⟩
theorem right_ofL {l : List Pr} (hn : l.length ≤ 1048576) : rightL (ofL l) = true := by
  unfold rightL
  have := ofL_len l
  simp only [Bool.and_eq_true, decide_eq_true_eq]
  exact ⟨ofL_rises l, by omega⟩
theorem ofL_rev (l : List Pr) : ofL l.reverse = ofL l := rises_ext (ofL_rises _) (ofL_rises _) fun p => by rw [ofL_mem, ofL_mem]; simp
theorem turn_turn (p : Pr) : turnP (turnP p) = p := rfl
theorem turn_mem (l : List Pr) (p : Pr) : p ∈ ofL ((ofL l).map turnP) ↔ turnP p ∈ l := by
  rw [ofL_mem, List.mem_map]
  constructor
  · rintro ⟨q, hq, rfl⟩
    rw [turn_turn]
    exact (ofL_mem l q).1 hq
  · intro h
    exact ⟨turnP p, (ofL_mem l _).2 h, turn_turn p⟩
theorem turn_back (l : List Pr) : ofL ((ofL ((ofL l).map turnP)).map turnP) = ofL l := rises_ext (ofL_rises _) (ofL_rises _) fun p => by
  rw [ofL_mem, List.mem_map, ofL_mem]
  constructor
  · rintro ⟨q, hq, rfl⟩
    exact (turn_mem l q).1 hq
  · intro h
    exact ⟨turnP p, (turn_mem l _).2 (by rw [turn_turn]; exact h), turn_turn p⟩
theorem lt_irr (p : Pr) : ¬ lt p p := by unfold lt; omega
theorem rises_nodup {l : List Pr} (h : Rises l) : l.Nodup := by
  unfold List.Nodup
  exact List.Pairwise.imp (fun {a b} hab e => by subst e; exact lt_irr _ hab) h
theorem turn_len (l : List Pr) : (ofL ((ofL l).map turnP)).length = (ofL l).length := by
  have h1 := rises_nodup (ofL_rises ((ofL l).map turnP))
  have h2 : ((ofL l).map turnP).Nodup := by
    unfold List.Nodup
    rw [List.pairwise_map]
    exact List.Pairwise.imp (fun {a b} hab e => hab (by have := congrArg turnP e; simpa [turn_turn] using this)) (rises_nodup (ofL_rises l))
  have p := (List.perm_ext_iff_of_nodup h1 h2).2 fun a => ofL_mem _ a
  rw [p.length_eq, List.length_map]
end Go.Proofs.Ytlkdkhmdmgchbaa
namespace Go.Proofs.Ytlkdkhmdmgchbaa
set_option linter.unusedSimpArgs false
set_option linter.unusedVariables false
open Go.RowKit
attribute [local simp ↓] arun_nil ob_some kva_av kfree_free khfree_free khown_own klive_live knm_false chk_true ya_true gsel_tt gsel_ff gsel_tf gsel_ft vb_bool vi_int vstr_string avps_ptr avps_seg avp_ptr avagg_agg avtup_tup avb_bool avown_own shs_struct shl_slice shla_slice shla_arr shls_slice shls_str shi_int bc_true bc_false hd1_cons opc_some opc_none opn_some opn_none unc_not unc_neg gd_none gd_some as_move as_assign as_pick as_bin as_un as_conv as_load as_faddr as_field as_extract as_iaddr as_slice as_alloc as_box as_store as_build as_rows as_call as_append as_fn as_len as_min as_max stMove stPick stBin stUn stConv stLoad stFaddr stField stExtract stIaddr stSlice stAlloc stBox stStore stBuild stRows stCall stAppend stFn stLen stMin stMax opd_tmp opd_const opd_func rawL_nil rawL_cons raw_c raw_a opr_e zr_nil zr_cons lvd_live hod_own obd_some kvd_av chd_true vid_int lk_cons lk_nil ins_nil ins_cons cells_zero cells_succ spread1_c spread1_own spread1_ptr spread1_fn spread1_seg spreadL_nil spreadL_cons spread_agg spread_c spread_own spread_seg spread_ptr spread_fn ex_zero ex_succ ops_e opb_none opb_int spreadD_agg spreadD_c spreadD_own spreadD_seg fillO_nil fillO_cons argsOf_nil argsOf_cons dvOf_c dvOf_seg dvOf_own dvOf_agg zrL_nil zrL_cons hdd_c hdd_seg hdd_own clz_e clv_raw clv_f callD_e dst0_n dst0_nil dst0_own goneH_e capc_ptr capc_seg capc_c capN_nil capN_cons capD_nil capD_cons deadZ_nil deadZ_cons
attribute [local simp] dok_some dok_none dflt_tmp dflt_vt dflt_cell dflt_zn dflt_nm dflt_hd dflt_df puts_nil puts_cons wr_some wr_none cst_agg cst_int cst_bool cst_string cst_slice cst_tuple cst_nilFunc cst_pointer cst_func bin_add bin_sub bin_mul bin_quo bin_rem bin_eql bin_neq bin_lss bin_leq bin_gtr bin_geq bin_bool bin_aggs binT_bool binT_aggs shbd_bool eqb_eql eqb_neq bin_slice bin_str_eql bin_str_neq bin_str_lss bin_str_add nz_v nz_n nz_s nz_p nz_f nz_st atz_v atz_n atz_s atz_p atz_f atz_st atz_agg atR_one atR_tup crow_nil crow_cons slc_c slc_n slc_own slc_nil raws setR placesT_nil placesT_cons zc chunk zsAll ocD_v ocD_n ocD_s ocD_p ocD_f ocD_st nrm_v nrm_n nrm_s nrm_p nrm_f nrm_st isV_one isV_tup isV_c isV_agg isV_v isV_n isV_s isV_p isV_f isV_st argRows Sh.agg zds_nil zds_e zds_v zds_s vcells_agg vcells_int vcells_bool vcells_string vcells_slice vcells_pointer toList_lit map_nilL map_consL nzr_e rowsOc_nil rowsOc_cons rowsOc_RD nzr_RD ty2 ty3 ty4 ty5 ty6 ty7 ty8 ty9 ty10 ty11 ty12 ty13 ty14 ty15 ty16 ty17 ty18 ty19 ty20 ty21 ty22 ty23 ty24 ty25 ty26 ty27 ty30 ty40 ty48 ty50 ty51 ty52 ty55 ty57 ty62 ty63 ty85 ty94 ty101 ty121 ty122 ty123 ty124 ty125 ty126 ty128 ty148 ty149 ty151 ty164 ty165 ty179 ty182 ty196 ty203 ty205 ty209 ty211 ty215 ty216 ty217 ty218 ty219 ty220 ty221 ty223 ty224 ty225 ty226 ty227 Value.oneCell'
set_option maxRecDepth 100000
theorem ofL_n (l : List Pr) (hn : l.length ≤ 40) : (ofL l).length ≤ 40 := Nat.le_trans (ofL_len l) hn
theorem rturns_c (l : List Pr) (hn : l.length ≤ 40) : ((ofL l).map turnP).length ≤ 40 := by rw [List.length_map]; exact ofL_n l hn
def tuS (g t : List Pr) (k : Nat) : Row := [(.zn 0, .zn .live), (.zn 31, .zn .live), (.zn 71, .zn .live), (.tmp 4, .av (.c [31] (RD g))), (.tmp 8, .av (.c [71] (RD t))),
  (.tmp 71, .av (.c [31] (RD g))), (.tmp 72, .av (.c [] (.v (.int .i64 g.length)))), (.tmp 73, .av (.c [] (.v (.int .i64 k))))]
set_option maxHeartbeats 8000000 in
theorem turns03_ct (l : List Pr) : Ct Try.prog 10 [.c (RD l)] none (.one (dB true)) := by
  have cw := wakes03_ct
  have cf := few03_ct l
  have hml : (l.take 40).length ≤ 40 := by rw [List.length_take]; omega
  obtain ⟨m, hm⟩ : ∃ m, m = l.take 40 := ⟨_, rfl⟩
  rw [← hm] at cf hml
  clear hm
  have co := of2_ct m (by omega)
  have ck := reverse_ku m (by omega)
  have co2 := of2_ct m.reverse (by simp; omega)
  rw [ofL_rev] at co2
  have hg := ofL_n m hml
  have ct1 := turn_ct (ofL m) (by omega) (right_ofL (by omega))
  have hmem := turn_mem m
  have hgm := ofL_mem m
  have htl := turn_len m
  have htr : rightL (ofL ((ofL m).map turnP)) = true := right_ofL (by have := rturns_c m hml; omega)
  have hri : Rises (ofL ((ofL m).map turnP)) := ofL_rises _
  have ct2 := turn_ct (ofL ((ofL m).map turnP)) (by rw [htl]; omega) htr
  rw [turn_back] at ct2
  generalize ofL ((ofL m).map turnP) = t at *
  generalize ofL m = g at *
  have ce := equal_ct g g
  rw [decide_eq_true rfl] at ce
  have cc := check_ct t
  rw [htr] at cc
  have htn : t.length ≤ 1000000 := by omega
  generalize m.reverse = mr at *
  refine ct_intro Try.func10 rfl Try.ntmps10 (by simp) (fun W0 Z => ?_)
  repeat (first | with_reducible refine AW.seq ?_ | with_reducible refine AW.block ?_ | with_reducible refine AW.skip ?_ | with_reducible refine AW.exit ?_ | with_reducible refine AW.ret ?_ | with_reducible refine AW.label ?_ | with_reducible refine NX.then ?_ | with_reducible refine NX.ret ?_ | with_reducible refine NX.exit ?_ | with_reducible refine NX.inRet ?_ | with_reducible refine NX.inNormal ?_ | with_reducible refine NX.inExit ?_ | with_reducible refine NX.outExit (by decide) ?_)
  refine AW.at_ (fun L hL => ?_)
  simp at hL
  subst hL
  refine AW.re ty (by kernel_rfl) (by first | exact cx_N _ _ _ | assumption) (by first | exact cx_pz _ _ _ | assumption) 1 (by decide) (fun K hK => ?_)
  (try simp only [List.toList_toArray, toList_lit]); repeat (with_reducible refine AR.step (fun K1 K2 hK1 hK2 => ?_); simp; (first | refine hK1.out _ _ ?_ | refine hK2.out _ ?_ | refine ⟨by kernel_rfl, hK2.out _ ?_⟩); clear hK1 hK2 K1 K2; simp); (try with_reducible refine AR.nil ?_)
  refine ⟨chk_text _ _, hK.out _ ?_⟩
  clear hK K
  repeat (first | with_reducible refine AW.seq ?_ | with_reducible refine AW.block ?_ | with_reducible refine AW.skip ?_ | with_reducible refine AW.exit ?_ | with_reducible refine AW.ret ?_ | with_reducible refine AW.label ?_ | with_reducible refine NX.then ?_ | with_reducible refine NX.ret ?_ | with_reducible refine NX.exit ?_ | with_reducible refine NX.inRet ?_ | with_reducible refine NX.inNormal ?_ | with_reducible refine NX.inExit ?_ | with_reducible refine NX.outExit (by decide) ?_)
  refine AW.re ty (by kernel_rfl) (by first | exact cx_N _ _ _ | assumption) (by first | exact cx_pz _ _ _ | assumption) 10 (by decide) (fun K hK => ?_)
  (try simp only [List.toList_toArray, toList_lit]); repeat (with_reducible refine AR.step (fun K1 K2 hK1 hK2 => ?_); simp; (first | refine hK1.out _ _ ?_ | refine hK2.out _ ?_ | refine ⟨by kernel_rfl, hK2.out _ ?_⟩); clear hK1 hK2 K1 K2; simp); (try with_reducible refine AR.nil ?_)
  refine AR.step (fun K1 K2 hK1 hK2 => ?_)
  simp
  refine orr_l ⟨by kernel_rfl, .inl ⟨_, cw, ?_⟩⟩
  (try simp)
  refine hK1.out _ _ ?_
  clear hK1 hK2 K1 K2
  (try simp)
  (try simp only [List.toList_toArray, toList_lit]); repeat (with_reducible refine AR.step (fun K1 K2 hK1 hK2 => ?_); simp; (first | refine hK1.out _ _ ?_ | refine hK2.out _ ?_ | refine ⟨by kernel_rfl, hK2.out _ ?_⟩); clear hK1 hK2 K1 K2; simp); (try with_reducible refine AR.nil ?_)
  refine ⟨chk_text _ _, hK.out _ ?_⟩
  clear hK K
  repeat (first | with_reducible refine AW.seq ?_ | with_reducible refine AW.block ?_ | with_reducible refine AW.skip ?_ | with_reducible refine AW.exit ?_ | with_reducible refine AW.ret ?_ | with_reducible refine AW.label ?_ | with_reducible refine NX.then ?_ | with_reducible refine NX.ret ?_ | with_reducible refine NX.exit ?_ | with_reducible refine NX.inRet ?_ | with_reducible refine NX.inNormal ?_ | with_reducible refine NX.inExit ?_ | with_reducible refine NX.outExit (by decide) ?_)
  refine AW.cf rfl ?_
  repeat (first | with_reducible refine AW.seq ?_ | with_reducible refine AW.block ?_ | with_reducible refine AW.skip ?_ | with_reducible refine AW.exit ?_ | with_reducible refine AW.ret ?_ | with_reducible refine AW.label ?_ | with_reducible refine NX.then ?_ | with_reducible refine NX.ret ?_ | with_reducible refine NX.exit ?_ | with_reducible refine NX.inRet ?_ | with_reducible refine NX.inNormal ?_ | with_reducible refine NX.inExit ?_ | with_reducible refine NX.outExit (by decide) ?_)
  refine AW.re ty (by kernel_rfl) (by first | exact cx_N _ _ _ | assumption) (by first | exact cx_pz _ _ _ | assumption) 20 (by decide) (fun K hK => ?_)
  (try simp only [List.toList_toArray, toList_lit]); repeat (with_reducible refine AR.step (fun K1 K2 hK1 hK2 => ?_); simp; (first | refine hK1.out _ _ ?_ | refine hK2.out _ ?_ | refine ⟨by kernel_rfl, hK2.out _ ?_⟩); clear hK1 hK2 K1 K2; simp); (try with_reducible refine AR.nil ?_)
  refine AR.step (fun K1 K2 hK1 hK2 => ?_)
  simp
  refine orr_l ⟨by kernel_rfl, .inr (.inl ⟨_, _, _, cf, ?_⟩)⟩
  (try simp)
  refine hK1.out _ _ ?_
  clear hK1 hK2 K1 K2
  (try simp)
  (try simp only [List.toList_toArray, toList_lit]); repeat (with_reducible refine AR.step (fun K1 K2 hK1 hK2 => ?_); simp; (first | refine hK1.out _ _ ?_ | refine hK2.out _ ?_ | refine ⟨by kernel_rfl, hK2.out _ ?_⟩); clear hK1 hK2 K1 K2; simp); (try with_reducible refine AR.nil ?_)
  refine ⟨chk_text _ _, hK.out _ ?_⟩
  clear hK K
  repeat (first | with_reducible refine AW.seq ?_ | with_reducible refine AW.block ?_ | with_reducible refine AW.skip ?_ | with_reducible refine AW.exit ?_ | with_reducible refine AW.ret ?_ | with_reducible refine AW.label ?_ | with_reducible refine NX.then ?_ | with_reducible refine NX.ret ?_ | with_reducible refine NX.exit ?_ | with_reducible refine NX.inRet ?_ | with_reducible refine NX.inNormal ?_ | with_reducible refine NX.inExit ?_ | with_reducible refine NX.outExit (by decide) ?_)
  refine AW.re ty (by kernel_rfl) (by first | exact cx_N _ _ _ | assumption) (by first | exact cx_pz _ _ _ | assumption) 30 (by decide) (fun K hK => ?_)
  (try simp only [List.toList_toArray, toList_lit]); repeat (with_reducible refine AR.step (fun K1 K2 hK1 hK2 => ?_); simp; (first | refine hK1.out _ _ ?_ | refine hK2.out _ ?_ | refine ⟨by kernel_rfl, hK2.out _ ?_⟩); clear hK1 hK2 K1 K2; simp); (try with_reducible refine AR.nil ?_)
  refine AR.step (fun K1 K2 hK1 hK2 => ?_)
  simp
  refine orr_l ⟨by kernel_rfl, .inl ⟨_, co, ?_⟩⟩
  (try simp)
  refine hK1.out _ _ ?_
  clear hK1 hK2 K1 K2
  (try simp)
  (try simp only [List.toList_toArray, toList_lit]); repeat (with_reducible refine AR.step (fun K1 K2 hK1 hK2 => ?_); simp; (first | refine hK1.out _ _ ?_ | refine hK2.out _ ?_ | refine ⟨by kernel_rfl, hK2.out _ ?_⟩); clear hK1 hK2 K1 K2; simp); (try with_reducible refine AR.nil ?_)
  refine ⟨chk_text _ _, hK.out _ ?_⟩
  clear hK K
  repeat (first | with_reducible refine AW.seq ?_ | with_reducible refine AW.block ?_ | with_reducible refine AW.skip ?_ | with_reducible refine AW.exit ?_ | with_reducible refine AW.ret ?_ | with_reducible refine AW.label ?_ | with_reducible refine NX.then ?_ | with_reducible refine NX.ret ?_ | with_reducible refine NX.exit ?_ | with_reducible refine NX.inRet ?_ | with_reducible refine NX.inNormal ?_ | with_reducible refine NX.inExit ?_ | with_reducible refine NX.outExit (by decide) ?_)
  refine AW.re ty (by kernel_rfl) (by first | exact cx_N _ _ _ | assumption) (by first | exact cx_pz _ _ _ | assumption) 50 (by decide) (fun K hK => ?_)
  (try simp only [List.toList_toArray, toList_lit]); repeat (with_reducible refine AR.step (fun K1 K2 hK1 hK2 => ?_); simp; (first | refine hK1.out _ _ ?_ | refine hK2.out _ ?_ | refine ⟨by kernel_rfl, hK2.out _ ?_⟩); clear hK1 hK2 K1 K2; simp); (try with_reducible refine AR.nil ?_)
  refine AR.step (fun K1 K2 hK1 hK2 => ?_)
  simp
  refine orr_r ?_
  simp [stOver_cons, overAny]
  refine ⟨by kernel_rfl, _, ck, ?_⟩
  (try simp)
  refine hK1.out _ _ ?_
  clear hK1 hK2 K1 K2
  (try simp)
  (try simp only [List.toList_toArray, toList_lit]); repeat (with_reducible refine AR.step (fun K1 K2 hK1 hK2 => ?_); simp; (first | refine hK1.out _ _ ?_ | refine hK2.out _ ?_ | refine ⟨by kernel_rfl, hK2.out _ ?_⟩); clear hK1 hK2 K1 K2; simp); (try with_reducible refine AR.nil ?_)
  refine ⟨chk_text _ _, hK.out _ ?_⟩
  clear hK K
  repeat (first | with_reducible refine AW.seq ?_ | with_reducible refine AW.block ?_ | with_reducible refine AW.skip ?_ | with_reducible refine AW.exit ?_ | with_reducible refine AW.ret ?_ | with_reducible refine AW.label ?_ | with_reducible refine NX.then ?_ | with_reducible refine NX.ret ?_ | with_reducible refine NX.exit ?_ | with_reducible refine NX.inRet ?_ | with_reducible refine NX.inNormal ?_ | with_reducible refine NX.inExit ?_ | with_reducible refine NX.outExit (by decide) ?_)
  refine AW.re ty (by kernel_rfl) (by first | exact cx_N _ _ _ | assumption) (by first | exact cx_pz _ _ _ | assumption) 60 (by decide) (fun K hK => ?_)
  (try simp only [List.toList_toArray, toList_lit]); repeat (with_reducible refine AR.step (fun K1 K2 hK1 hK2 => ?_); simp; (first | refine hK1.out _ _ ?_ | refine hK2.out _ ?_ | refine ⟨by kernel_rfl, hK2.out _ ?_⟩); clear hK1 hK2 K1 K2; simp); (try with_reducible refine AR.nil ?_)
  refine AR.step (fun K1 K2 hK1 hK2 => ?_)
  simp
  refine orr_l ⟨by kernel_rfl, .inl ⟨_, co2, ?_⟩⟩
  (try simp)
  refine hK1.out _ _ ?_
  clear hK1 hK2 K1 K2
  (try simp)
  (try simp only [List.toList_toArray, toList_lit]); repeat (with_reducible refine AR.step (fun K1 K2 hK1 hK2 => ?_); simp; (first | refine hK1.out _ _ ?_ | refine hK2.out _ ?_ | refine ⟨by kernel_rfl, hK2.out _ ?_⟩); clear hK1 hK2 K1 K2; simp); (try with_reducible refine AR.nil ?_)
  refine ⟨chk_text _ _, hK.out _ ?_⟩
  clear hK K
  repeat (first | with_reducible refine AW.seq ?_ | with_reducible refine AW.block ?_ | with_reducible refine AW.skip ?_ | with_reducible refine AW.exit ?_ | with_reducible refine AW.ret ?_ | with_reducible refine AW.label ?_ | with_reducible refine NX.then ?_ | with_reducible refine NX.ret ?_ | with_reducible refine NX.exit ?_ | with_reducible refine NX.inRet ?_ | with_reducible refine NX.inNormal ?_ | with_reducible refine NX.inExit ?_ | with_reducible refine NX.outExit (by decide) ?_)
  refine AW.re ty (by kernel_rfl) (by first | exact cx_N _ _ _ | assumption) (by first | exact cx_pz _ _ _ | assumption) 70 (by decide) (fun K hK => ?_)
  (try simp only [List.toList_toArray, toList_lit]); repeat (with_reducible refine AR.step (fun K1 K2 hK1 hK2 => ?_); simp; (first | refine hK1.out _ _ ?_ | refine hK2.out _ ?_ | refine ⟨by kernel_rfl, hK2.out _ ?_⟩); clear hK1 hK2 K1 K2; simp); (try with_reducible refine AR.nil ?_)
  refine AR.step (fun K1 K2 hK1 hK2 => ?_)
  simp
  refine orr_l ⟨by kernel_rfl, .inl ⟨_, ct1, ?_⟩⟩
  (try simp)
  refine hK1.out _ _ ?_
  clear hK1 hK2 K1 K2
  (try simp)
  (try simp only [List.toList_toArray, toList_lit]); repeat (with_reducible refine AR.step (fun K1 K2 hK1 hK2 => ?_); simp; (first | refine hK1.out _ _ ?_ | refine hK2.out _ ?_ | refine ⟨by kernel_rfl, hK2.out _ ?_⟩); clear hK1 hK2 K1 K2; simp); (try with_reducible refine AR.nil ?_)
  refine ⟨chk_text _ _, hK.out _ ?_⟩
  clear hK K
  repeat (first | with_reducible refine AW.seq ?_ | with_reducible refine AW.block ?_ | with_reducible refine AW.skip ?_ | with_reducible refine AW.exit ?_ | with_reducible refine AW.ret ?_ | with_reducible refine AW.label ?_ | with_reducible refine NX.then ?_ | with_reducible refine NX.ret ?_ | with_reducible refine NX.exit ?_ | with_reducible refine NX.inRet ?_ | with_reducible refine NX.inNormal ?_ | with_reducible refine NX.inExit ?_ | with_reducible refine NX.outExit (by decide) ?_)
  refine AW.re ty (by kernel_rfl) (by first | exact cx_N _ _ _ | assumption) (by first | exact cx_pz _ _ _ | assumption) 80 (by decide) (fun K hK => ?_)
  (try simp only [List.toList_toArray, toList_lit]); repeat (with_reducible refine AR.step (fun K1 K2 hK1 hK2 => ?_); simp; (first | refine hK1.out _ _ ?_ | refine hK2.out _ ?_ | refine ⟨by kernel_rfl, hK2.out _ ?_⟩); clear hK1 hK2 K1 K2; simp); (try with_reducible refine AR.nil ?_)
  refine AR.step (fun K1 K2 hK1 hK2 => ?_)
  simp
  refine orr_l ⟨by kernel_rfl, .inl ⟨_, ct2, ?_⟩⟩
  (try simp)
  refine hK1.out _ _ ?_
  clear hK1 hK2 K1 K2
  (try simp)
  (try simp only [List.toList_toArray, toList_lit]); repeat (with_reducible refine AR.step (fun K1 K2 hK1 hK2 => ?_); simp; (first | refine hK1.out _ _ ?_ | refine hK2.out _ ?_ | refine ⟨by kernel_rfl, hK2.out _ ?_⟩); clear hK1 hK2 K1 K2; simp); (try with_reducible refine AR.nil ?_)
  refine ⟨chk_text _ _, hK.out _ ?_⟩
  clear hK K
  repeat (first | with_reducible refine AW.seq ?_ | with_reducible refine AW.block ?_ | with_reducible refine AW.skip ?_ | with_reducible refine AW.exit ?_ | with_reducible refine AW.ret ?_ | with_reducible refine AW.label ?_ | with_reducible refine NX.then ?_ | with_reducible refine NX.ret ?_ | with_reducible refine NX.exit ?_ | with_reducible refine NX.inRet ?_ | with_reducible refine NX.inNormal ?_ | with_reducible refine NX.inExit ?_ | with_reducible refine NX.outExit (by decide) ?_)
  refine AW.re ty (by kernel_rfl) (by first | exact cx_N _ _ _ | assumption) (by first | exact cx_pz _ _ _ | assumption) 90 (by decide) (fun K hK => ?_)
  (try simp only [List.toList_toArray, toList_lit]); repeat (with_reducible refine AR.step (fun K1 K2 hK1 hK2 => ?_); simp; (first | refine hK1.out _ _ ?_ | refine hK2.out _ ?_ | refine ⟨by kernel_rfl, hK2.out _ ?_⟩); clear hK1 hK2 K1 K2; simp); (try with_reducible refine AR.nil ?_)
  refine AR.step (fun K1 K2 hK1 hK2 => ?_)
  simp
  refine orr_l ⟨by kernel_rfl, .inl ⟨_, ce, ?_⟩⟩
  (try simp)
  refine hK1.out _ _ ?_
  clear hK1 hK2 K1 K2
  (try simp)
  (try simp only [List.toList_toArray, toList_lit]); repeat (with_reducible refine AR.step (fun K1 K2 hK1 hK2 => ?_); simp; (first | refine hK1.out _ _ ?_ | refine hK2.out _ ?_ | refine ⟨by kernel_rfl, hK2.out _ ?_⟩); clear hK1 hK2 K1 K2; simp); (try with_reducible refine AR.nil ?_)
  refine AR.step (fun K1 K2 hK1 hK2 => ?_)
  simp
  refine orr_l ⟨by kernel_rfl, .inl ⟨_, ce, ?_⟩⟩
  (try simp)
  refine hK1.out _ _ ?_
  clear hK1 hK2 K1 K2
  (try simp)
  (try simp only [List.toList_toArray, toList_lit]); repeat (with_reducible refine AR.step (fun K1 K2 hK1 hK2 => ?_); simp; (first | refine hK1.out _ _ ?_ | refine hK2.out _ ?_ | refine ⟨by kernel_rfl, hK2.out _ ?_⟩); clear hK1 hK2 K1 K2; simp); (try with_reducible refine AR.nil ?_)
  refine AR.step (fun K1 K2 hK1 hK2 => ?_)
  simp
  refine orr_l ⟨by kernel_rfl, .inl ⟨_, cc, ?_⟩⟩
  (try simp)
  refine hK1.out _ _ ?_
  clear hK1 hK2 K1 K2
  (try simp)
  (try simp only [List.toList_toArray, toList_lit]); repeat (with_reducible refine AR.step (fun K1 K2 hK1 hK2 => ?_); simp; (first | refine hK1.out _ _ ?_ | refine hK2.out _ ?_ | refine ⟨by kernel_rfl, hK2.out _ ?_⟩); clear hK1 hK2 K1 K2; simp); (try with_reducible refine AR.nil ?_)
  refine ⟨chk_text _ _, hK.out _ ?_⟩
  clear hK K
  repeat (first | with_reducible refine AW.seq ?_ | with_reducible refine AW.block ?_ | with_reducible refine AW.skip ?_ | with_reducible refine AW.exit ?_ | with_reducible refine AW.ret ?_ | with_reducible refine AW.label ?_ | with_reducible refine NX.then ?_ | with_reducible refine NX.ret ?_ | with_reducible refine NX.exit ?_ | with_reducible refine NX.inRet ?_ | with_reducible refine NX.inNormal ?_ | with_reducible refine NX.inExit ?_ | with_reducible refine NX.outExit (by decide) ?_)
  refine AW.cf rfl ?_
  repeat (first | with_reducible refine AW.seq ?_ | with_reducible refine AW.block ?_ | with_reducible refine AW.skip ?_ | with_reducible refine AW.exit ?_ | with_reducible refine AW.ret ?_ | with_reducible refine AW.label ?_ | with_reducible refine NX.then ?_ | with_reducible refine NX.ret ?_ | with_reducible refine NX.exit ?_ | with_reducible refine NX.inRet ?_ | with_reducible refine NX.inNormal ?_ | with_reducible refine NX.inExit ?_ | with_reducible refine NX.outExit (by decide) ?_)
  refine AW.re ty (by kernel_rfl) (by first | exact cx_N _ _ _ | assumption) (by first | exact cx_pz _ _ _ | assumption) 130 (by decide) (fun K hK => ?_)
  (try simp only [List.toList_toArray, toList_lit]); repeat (with_reducible refine AR.step (fun K1 K2 hK1 hK2 => ?_); simp; (first | refine hK1.out _ _ ?_ | refine hK2.out _ ?_ | refine ⟨by kernel_rfl, hK2.out _ ?_⟩); clear hK1 hK2 K1 K2; simp); (try with_reducible refine AR.nil ?_)
  refine ⟨chk_text _ _, hK.out _ ?_⟩
  clear hK K
  repeat (first | with_reducible refine AW.seq ?_ | with_reducible refine AW.block ?_ | with_reducible refine AW.skip ?_ | with_reducible refine AW.exit ?_ | with_reducible refine AW.ret ?_ | with_reducible refine AW.label ?_ | with_reducible refine NX.then ?_ | with_reducible refine NX.ret ?_ | with_reducible refine NX.exit ?_ | with_reducible refine NX.inRet ?_ | with_reducible refine NX.inNormal ?_ | with_reducible refine NX.inExit ?_ | with_reducible refine NX.outExit (by decide) ?_)
  refine AW.loop (X := { k : Nat // k ≤ g.length }) (fun x => tuS g t x.1) (fun x => g.length - x.1) ⟨0, by simp⟩ (fun _ _ h => AS.fold (fold_of (V := vw [] [] [] []) (by first | exact cx_pz _ _ _ | assumption) (by kernel_rfl) (by rfl) (by simp [tuS, foks_nil, foks_cons, fok_tmp, fok_vt, fok_cell, fok_nm, fok_zn, fok_hd, fok_df, Fv_c, Fv_seg, Fv_tup, Fv_agg, Fv_ptr, Fv_ptrs, Fv_fn, Fv_fnd, Fv_own, Fv_ownd, Fv_nown, Fv_vown, FvL_nil, FvL_cons, kvp_av, hdp_some, subz, frz, Uz, Nm, Uh, vw_nb, vw_zo, vw_zf, vw_hb, tb_nil, tb_cons, fzc_nil, fzc_cons, fzcaps_nil, fzcaps_cons])) h) (fun x => ?_)
  obtain ⟨k, hk⟩ := x
  refine AW.at_ (fun L hL => ?_)
  simp [tuS] at hL
  subst hL
  repeat (first | with_reducible refine AW.seq ?_ | with_reducible refine AW.block ?_ | with_reducible refine AW.skip ?_ | with_reducible refine AW.exit ?_ | with_reducible refine AW.ret ?_ | with_reducible refine AW.label ?_ | with_reducible refine NX.then ?_ | with_reducible refine NX.ret ?_ | with_reducible refine NX.exit ?_ | with_reducible refine NX.inRet ?_ | with_reducible refine NX.inNormal ?_ | with_reducible refine NX.inExit ?_ | with_reducible refine NX.outExit (by decide) ?_)
  by_cases hgo : k < g.length
  · have w5 : IntKind.i64.wrap ((k : Int) + 1) = ((k + 1 : Nat) : Int) := by rw [i64_ok _ (by omega) (by omega)]; omega
    obtain ⟨x, hx⟩ : ∃ x, g[k] = x := ⟨_, rfl⟩
    have ch := has_ct t (turnP x) hri htr htn
    have hin : decide (turnP x ∈ t) = true := by
      rw [decide_eq_true_iff, hmem, turn_turn, ← hgm, ← hx]
      exact List.getElem_mem hgo
    rw [hin] at ch
    refine AW.re ty (by kernel_rfl) (by first | exact cx_N _ _ _ | assumption) (by first | exact cx_pz _ _ _ | assumption) 200 (by decide) (fun K hK => ?_)
    (try simp only [List.toList_toArray, toList_lit]); repeat (with_reducible refine AR.step (fun K1 K2 hK1 hK2 => ?_); simp [hgo]; (first | refine hK1.out _ _ ?_ | refine hK2.out _ ?_ | refine ⟨by kernel_rfl, hK2.out _ ?_⟩); clear hK1 hK2 K1 K2; simp [hgo]); (try with_reducible refine AR.nil ?_)
    refine ⟨chk_text _ _, hK.out _ ?_⟩
    clear hK K
    repeat (first | with_reducible refine AW.seq ?_ | with_reducible refine AW.block ?_ | with_reducible refine AW.skip ?_ | with_reducible refine AW.exit ?_ | with_reducible refine AW.ret ?_ | with_reducible refine AW.label ?_ | with_reducible refine NX.then ?_ | with_reducible refine NX.ret ?_ | with_reducible refine NX.exit ?_ | with_reducible refine NX.inRet ?_ | with_reducible refine NX.inNormal ?_ | with_reducible refine NX.inExit ?_ | with_reducible refine NX.outExit (by decide) ?_)
    refine AW.ct rfl ?_
    repeat (first | with_reducible refine AW.seq ?_ | with_reducible refine AW.block ?_ | with_reducible refine AW.skip ?_ | with_reducible refine AW.exit ?_ | with_reducible refine AW.ret ?_ | with_reducible refine AW.label ?_ | with_reducible refine NX.then ?_ | with_reducible refine NX.ret ?_ | with_reducible refine NX.exit ?_ | with_reducible refine NX.inRet ?_ | with_reducible refine NX.inNormal ?_ | with_reducible refine NX.inExit ?_ | with_reducible refine NX.outExit (by decide) ?_)
    refine AW.re ty (by kernel_rfl) (by first | exact cx_N _ _ _ | assumption) (by first | exact cx_pz _ _ _ | assumption) 210 (by decide) (fun K hK => ?_)
    (try simp only [List.toList_toArray, toList_lit]); repeat (with_reducible refine AR.step (fun K1 K2 hK1 hK2 => ?_); simp [hgo]; (first | refine hK1.out _ _ ?_ | refine hK2.out _ ?_ | refine ⟨by kernel_rfl, hK2.out _ ?_⟩); clear hK1 hK2 K1 K2; simp [hgo]); (try with_reducible refine AR.nil ?_)
    refine AR.step (fun K1 K2 hK1 hK2 => ?_)
    simp [hgo]
    refine ⟨k, PD x, rfl, by simp [hgo, hx], ?_⟩
    refine hK1.out _ _ ?_
    clear hK1 hK2 K1 K2
    (try simp [hgo])
    (try simp only [List.toList_toArray, toList_lit]); repeat (with_reducible refine AR.step (fun K1 K2 hK1 hK2 => ?_); simp [hgo]; (first | refine hK1.out _ _ ?_ | refine hK2.out _ ?_ | refine ⟨by kernel_rfl, hK2.out _ ?_⟩); clear hK1 hK2 K1 K2; simp [hgo]); (try with_reducible refine AR.nil ?_)
    refine ⟨chk_text _ _, hK.out _ ?_⟩
    clear hK K
    repeat (first | with_reducible refine AW.seq ?_ | with_reducible refine AW.block ?_ | with_reducible refine AW.skip ?_ | with_reducible refine AW.exit ?_ | with_reducible refine AW.ret ?_ | with_reducible refine AW.label ?_ | with_reducible refine NX.then ?_ | with_reducible refine NX.ret ?_ | with_reducible refine NX.exit ?_ | with_reducible refine NX.inRet ?_ | with_reducible refine NX.inNormal ?_ | with_reducible refine NX.inExit ?_ | with_reducible refine NX.outExit (by decide) ?_)
    refine AW.re ty (by kernel_rfl) (by first | exact cx_N _ _ _ | assumption) (by first | exact cx_pz _ _ _ | assumption) 220 (by decide) (fun K hK => ?_)
    (try simp only [List.toList_toArray, toList_lit]); repeat (with_reducible refine AR.step (fun K1 K2 hK1 hK2 => ?_); simp; (first | refine hK1.out _ _ ?_ | refine hK2.out _ ?_ | refine ⟨by kernel_rfl, hK2.out _ ?_⟩); clear hK1 hK2 K1 K2; simp); (try with_reducible refine AR.nil ?_)
    refine AR.step (fun K1 K2 hK1 hK2 => ?_)
    simp
    refine orr_l ⟨by kernel_rfl, .inl ⟨_, ch, ?_⟩⟩
    (try simp)
    refine hK1.out _ _ ?_
    clear hK1 hK2 K1 K2
    (try simp)
    (try simp only [List.toList_toArray, toList_lit]); repeat (with_reducible refine AR.step (fun K1 K2 hK1 hK2 => ?_); simp; (first | refine hK1.out _ _ ?_ | refine hK2.out _ ?_ | refine ⟨by kernel_rfl, hK2.out _ ?_⟩); clear hK1 hK2 K1 K2; simp); (try with_reducible refine AR.nil ?_)
    refine ⟨chk_text _ _, hK.out _ ?_⟩
    clear hK K
    repeat (first | with_reducible refine AW.seq ?_ | with_reducible refine AW.block ?_ | with_reducible refine AW.skip ?_ | with_reducible refine AW.exit ?_ | with_reducible refine AW.ret ?_ | with_reducible refine AW.label ?_ | with_reducible refine NX.then ?_ | with_reducible refine NX.ret ?_ | with_reducible refine NX.exit ?_ | with_reducible refine NX.inRet ?_ | with_reducible refine NX.inNormal ?_ | with_reducible refine NX.inExit ?_ | with_reducible refine NX.outExit (by decide) ?_)
    refine AW.cf rfl ?_
    repeat (first | with_reducible refine AW.seq ?_ | with_reducible refine AW.block ?_ | with_reducible refine AW.skip ?_ | with_reducible refine AW.exit ?_ | with_reducible refine AW.ret ?_ | with_reducible refine AW.label ?_ | with_reducible refine NX.then ?_ | with_reducible refine NX.ret ?_ | with_reducible refine NX.exit ?_ | with_reducible refine NX.inRet ?_ | with_reducible refine NX.inNormal ?_ | with_reducible refine NX.inExit ?_ | with_reducible refine NX.outExit (by decide) ?_)
    refine AW.re ty (by kernel_rfl) (by first | exact cx_N _ _ _ | assumption) (by first | exact cx_pz _ _ _ | assumption) 240 (by decide) (fun K hK => ?_)
    (try simp only [List.toList_toArray, toList_lit]); repeat (with_reducible refine AR.step (fun K1 K2 hK1 hK2 => ?_); simp [w5]; (first | refine hK1.out _ _ ?_ | refine hK2.out _ ?_ | refine ⟨by kernel_rfl, hK2.out _ ?_⟩); clear hK1 hK2 K1 K2; simp [w5]); (try with_reducible refine AR.nil ?_)
    refine ⟨chk_text _ _, hK.out _ ?_⟩
    clear hK K
    repeat (first | with_reducible refine AW.seq ?_ | with_reducible refine AW.block ?_ | with_reducible refine AW.skip ?_ | with_reducible refine AW.exit ?_ | with_reducible refine AW.ret ?_ | with_reducible refine AW.label ?_ | with_reducible refine NX.then ?_ | with_reducible refine NX.ret ?_ | with_reducible refine NX.exit ?_ | with_reducible refine NX.inRet ?_ | with_reducible refine NX.inNormal ?_ | with_reducible refine NX.inExit ?_ | with_reducible refine NX.outExit (by decide) ?_)
    exact NX.round ⟨k + 1, hgo⟩ (by show g.length - (k + 1) < g.length - k; omega) (fun _ _ h => AS.fold (fold_of (V := vw [] [] [] []) (by first | exact cx_pz _ _ _ | assumption) (by kernel_rfl) (by rfl) (by simp [tuS, foks_nil, foks_cons, fok_tmp, fok_vt, fok_cell, fok_nm, fok_zn, fok_hd, fok_df, Fv_c, Fv_seg, Fv_tup, Fv_agg, Fv_ptr, Fv_ptrs, Fv_fn, Fv_fnd, Fv_own, Fv_ownd, Fv_nown, Fv_vown, FvL_nil, FvL_cons, kvp_av, hdp_some, subz, frz, Uz, Nm, Uh, vw_nb, vw_zo, vw_zf, vw_hb, tb_nil, tb_cons, fzc_nil, fzc_cons, fzcaps_nil, fzcaps_cons])) h)
  · obtain rfl : k = g.length := by omega
    refine AW.re ty (by kernel_rfl) (by first | exact cx_N _ _ _ | assumption) (by first | exact cx_pz _ _ _ | assumption) 300 (by decide) (fun K hK => ?_)
    (try simp only [List.toList_toArray, toList_lit]); repeat (with_reducible refine AR.step (fun K1 K2 hK1 hK2 => ?_); simp; (first | refine hK1.out _ _ ?_ | refine hK2.out _ ?_ | refine ⟨by kernel_rfl, hK2.out _ ?_⟩); clear hK1 hK2 K1 K2; simp); (try with_reducible refine AR.nil ?_)
    refine ⟨chk_text _ _, hK.out _ ?_⟩
    clear hK K
    repeat (first | with_reducible refine AW.seq ?_ | with_reducible refine AW.block ?_ | with_reducible refine AW.skip ?_ | with_reducible refine AW.exit ?_ | with_reducible refine AW.ret ?_ | with_reducible refine AW.label ?_ | with_reducible refine NX.then ?_ | with_reducible refine NX.ret ?_ | with_reducible refine NX.exit ?_ | with_reducible refine NX.inRet ?_ | with_reducible refine NX.inNormal ?_ | with_reducible refine NX.inExit ?_ | with_reducible refine NX.outExit (by decide) ?_)
    refine AW.cf rfl ?_
    repeat (first | with_reducible refine AW.seq ?_ | with_reducible refine AW.block ?_ | with_reducible refine AW.skip ?_ | with_reducible refine AW.exit ?_ | with_reducible refine AW.ret ?_ | with_reducible refine AW.label ?_ | with_reducible refine NX.then ?_ | with_reducible refine NX.ret ?_ | with_reducible refine NX.exit ?_ | with_reducible refine NX.inRet ?_ | with_reducible refine NX.inNormal ?_ | with_reducible refine NX.inExit ?_ | with_reducible refine NX.outExit (by decide) ?_)
    have htl : (t.length : Int) = (g.length : Int) := by omega
    refine AW.re ty (by kernel_rfl) (by first | exact cx_N _ _ _ | assumption) (by first | exact cx_pz _ _ _ | assumption) 310 (by decide) (fun K hK => ?_)
    (try simp only [List.toList_toArray, toList_lit]); repeat (with_reducible refine AR.step (fun K1 K2 hK1 hK2 => ?_); simp [htl]; (first | refine hK1.out _ _ ?_ | refine hK2.out _ ?_ | refine ⟨by kernel_rfl, hK2.out _ ?_⟩); clear hK1 hK2 K1 K2; simp [htl]); (try with_reducible refine AR.nil ?_)
    refine ⟨chk_text _ _, hK.out _ ?_⟩
    clear hK K
    repeat (first | with_reducible refine AW.seq ?_ | with_reducible refine AW.block ?_ | with_reducible refine AW.skip ?_ | with_reducible refine AW.exit ?_ | with_reducible refine AW.ret ?_ | with_reducible refine AW.label ?_ | with_reducible refine NX.then ?_ | with_reducible refine NX.ret ?_ | with_reducible refine NX.exit ?_ | with_reducible refine NX.inRet ?_ | with_reducible refine NX.inNormal ?_ | with_reducible refine NX.inExit ?_ | with_reducible refine NX.outExit (by decide) ?_)
    refine nx_ret (T := ty) (rs := [.tmp 2]) (zs := []) (ds := [dB true]) (rr := []) (.inr rfl) rfl (by kernel_rfl) (by kernel_rfl) (by simp) rfl
end Go.Proofs.Ytlkdkhmdmgchbaa
