/- The second logic: what tiers say. -/
import Derived.Test.YtlkdkhmdmgchbaaJE
import Derived.Test.YtlkdkhmdmgchbaaJM
namespace Go.Proofs.Ytlkdkhmdmgchbaa
set_option linter.unusedSimpArgs false
set_option linter.unusedVariables false
open Go.RowKit
attribute [local simp ↓] gav_bool gav_undef arun_nil ob_some kva_av kfree_free khfree_free khown_own klive_live knm_false chk_true ya_true gsel_tt gsel_ff gsel_tf gsel_ft vb_bool vi_int vstr_string avps_ptr avps_seg avp_ptr avagg_agg avtup_tup avb_bool avown_own shs_struct shsa_struct shsa_arr sharr_arr shl_slice shla_slice shla_arr shls_slice shls_str shi_int bc_true bc_false hd1_cons opc_some opc_none opn_some opn_none unc_not unc_neg gd_none gd_some as_move as_assign as_pick as_bin as_un as_conv as_load as_faddr as_field as_extract as_iaddr as_slice as_alloc as_box as_store as_build as_rows as_call as_append as_lookup as_mapUpdate as_makeMap as_range as_next as_entry as_index as_fn as_len as_min as_max stMove stPick stBin stUn stConv stLoad stFaddr stField stExtract stIaddr stSlice stAlloc stBox stStore stBuild stIndex stRows stCall stAppend stFn stLen stMin stMax opd_tmp opd_const opd_func rawL_nil rawL_cons raw_c raw_st raw_a opr_e zr_nil zr_cons lvd_live hod_own obd_some obd_none kvd_av chd_true vid_int lk_cons lk_nil ins_nil ins_cons cells_zero cells_succ spread1_c spread1_own spread1_ptr spread1_fn spread1_seg spreadL_nil spreadL_cons spread_agg spread_c spread_own spread_seg spread_ptr spread_fn ex_zero ex_succ ops_e opb_none opb_int spreadD_agg spreadD_c spreadD_own spreadD_seg fillO_nil fillO_cons argsOf_nil argsOf_cons dvOf_c dvOf_seg dvOf_own dvOf_agg zrL_nil zrL_cons hdd_c hdd_seg hdd_own clz_e clv_raw clv_f callD_e dst0_n dst0_nil dst0_own goneH_e capc_ptr capc_seg capc_c capN_nil capN_cons capD_nil capD_cons deadZ_nil deadZ_cons
attribute [local simp] dok_some dok_none dflt_tmp dflt_vt dflt_cell dflt_zn dflt_nm dflt_hd dflt_df puts_nil puts_cons wr_some wr_none cst_agg cst_int cst_bool cst_string cst_slice cst_tuple cst_nilFunc cst_pointer cst_func bin_add bin_sub bin_mul bin_quo bin_rem bin_eql bin_neq bin_lss bin_leq bin_gtr bin_geq bin_bool bin_aggs binT_bool binT_aggs shbd_bool eqb_eql eqb_neq bin_slice bin_str_eql bin_str_neq bin_str_lss bin_str_add nz_v nz_n nz_s nz_p nz_f nz_st atz_v atz_n atz_s atz_p atz_f atz_st atz_agg atR_one atR_tup crow_nil crow_cons slc_c slc_n slc_own slc_nil raws setR placesT_nil placesT_cons zc chunk zsAll ocD_v ocD_n ocD_s ocD_p ocD_f ocD_st nrm_v nrm_n nrm_s nrm_p nrm_f nrm_st isV_one isV_tup isV_c isV_agg isV_v isV_n isV_s isV_p isV_f isV_st argRows Sh.agg zds_nil zds_e zds_v zds_s vcells_agg vcells_int vcells_bool vcells_string vcells_slice vcells_pointer toList_lit map_nilL map_consL nzr_e rowsOc_nil rowsOc_cons rowsOc_RD nzr_RD foks_nil foks_cons fok_tmp fok_vt fok_cell fok_nm fok_zn fok_hd fok_df Fv_c Fv_seg Fv_tup Fv_agg Fv_ptr Fv_ptrs Fv_fn Fv_fnd Fv_own Fv_ownd Fv_nown Fv_vown FvL_nil FvL_cons kvp_av hdp_some subz frz Uz Nm Uh vw_nb vw_zo vw_zf vw_hb tb_nil tb_cons fzc_nil fzc_cons fzcaps_nil fzcaps_cons ty2 ty3 ty4 ty5 ty6 ty7 ty8 ty9 ty10 ty11 ty12 ty13 ty14 ty15 ty16 ty17 ty18 ty19 ty20 ty21 ty22 ty23 ty24 ty25 ty26 ty27 ty30 ty40 ty48 ty50 ty51 ty52 ty55 ty57 ty62 ty63 ty85 ty94 ty101 ty121 ty122 ty123 ty124 ty125 ty126 ty128 ty148 ty149 ty151 ty164 ty165 ty179 ty182 ty196 ty203 ty205 ty209 ty211 ty215 ty216 ty217 ty218 ty219 ty220 ty221 ty223 ty224 ty225 ty226 ty227 Value.oneCell'
set_option maxRecDepth 100000
noncomputable def eP (e : MapEntry) : Pr := open Classical in if h : ∃ p, e.key = pvv p then h.choose else (0, 0)
def eX (e : MapEntry) : Int := match e.val with
  | .int _ x => x
  | _ => 0
theorem eP_is {e : MapEntry} {p : Pr} (h : e.key = pvv p) : eP e = p := by
  unfold eP
  have hx : ∃ p, e.key = pvv p := ⟨p, h⟩
  rw [dif_pos hx]
  exact pvv_inj (hx.choose_spec.symm.trans h)
theorem eX_is {e : MapEntry} {x : Int} (h : e.val = .int .i64 x) : eX e = x := by unfold eX; rw [h]
noncomputable def accE (which : Int) (done : List MapEntry) : List Pr := (done.filter fun e => decide (eX e = which)).map eP
def seenE (done : List MapEntry) : Array Nat := (done.map (·.born)).toArray
theorem seenE_push (done : List MapEntry) (e : MapEntry) : seenE (done ++ [e]) = (seenE done).push e.born := by simp [seenE]
theorem accE_len (which : Int) (done : List MapEntry) : (accE which done).length ≤ done.length := by
  unfold accE
  rw [List.length_map]
  exact List.length_filter_le _ _
theorem nodup_sub {α : Type} [DecidableEq α] : ∀ {l m : List α}, l.Nodup → (∀ x ∈ l, x ∈ m) → l.length ≤ m.length
  | [], m, _, _ => by simp
  | x :: l, m, hl, hs => by
    obtain ⟨h1, h2⟩ := List.nodup_cons.1 hl
    have hx := hs x List.mem_cons_self
    have := nodup_sub (m := m.erase x) h2 (fun y hy => (List.mem_erase_of_ne (fun e => h1 (by rw [← e]; exact hy))).2 (hs y (List.mem_cons_of_mem _ hy)))
    rw [List.length_erase_of_mem hx] at this
    have : 0 < m.length := List.length_pos_of_mem hx
    simp only [List.length_cons]
    omega
/-- the entries done: each of the map's, none twice. -/
def DoneE (es : Array MapEntry) (done : List MapEntry) : Prop := (∀ e ∈ done, e ∈ es.toList) ∧ (done.map (·.born)).Nodup
theorem DoneE.len {es : Array MapEntry} {done : List MapEntry} (h : DoneE es done) : done.length ≤ es.size := by
  have := nodup_sub (m := es.toList.map (·.born)) h.2 (fun x hx => by
    obtain ⟨e, he, rfl⟩ := List.mem_map.1 hx
    exact List.mem_map.2 ⟨e, h.1 e he, rfl⟩)
  simpa using this
theorem DoneE.snoc {es : Array MapEntry} {done : List MapEntry} {e : MapEntry} (h : DoneE es done) (he : e ∈ (leftOf es (seenE done)).toList) : DoneE es (done ++ [e]) := by
  obtain ⟨h1, h2⟩ := mem_left he
  refine ⟨fun x hx => ?_, ?_⟩
  · rcases List.mem_append.1 hx with hx | hx
    · exact h.1 x hx
    · simp at hx; subst hx; exact h1
  · rw [List.map_append, List.nodup_append]
    refine ⟨h.2, by simp, fun x hx y hy => ?_⟩
    simp at hy; subst hy
    rintro rfl
    have : (seenE done).contains e.born = true := by simpa [seenE] using hx
    rw [this] at h2; cases h2
/-- at the end: all that the map says so of. -/
theorem thoseL {n : Nat} {es : Array MapEntry} {clock : Nat} {f : Pr → Option Int} {which : Int} {done : List MapEntry} {R : List Pr} (M : MapOk n es clock f) (h : DoneE es done) (h0 : (leftOf es (seenE done)).size = 0) (hR : Rises R) (hm : ∀ p, p ∈ R ↔ f p = some which) : srt (accE which done) = R := by
  have all : ∀ e ∈ es.toList, e ∈ done := fun e he => by
    have hs := all_seen es _ h0 e he
    have : e.born ∈ done.map (·.born) := by simpa [seenE] using hs
    obtain ⟨e', he', hb⟩ := List.mem_map.1 this
    have := born_inj M.fit.stamped.2.1 (h.1 e' he') he hb
    rw [← this]; exact he'
  have mem : ∀ p, p ∈ accE which done ↔ f p = some which := fun p => by
    constructor
    · intro hp
      obtain ⟨e, he, rfl⟩ := List.mem_map.1 hp
      obtain ⟨he1, he2⟩ := List.mem_filter.1 he
      obtain ⟨q, x, k1, _, k3, k4⟩ := M.lk.1 e (h.1 e he1)
      rw [decide_eq_true_eq, eX_is k4] at he2
      rw [eP_is k3, ← he2]; exact k1
    · intro hp
      obtain ⟨_, e, he, k1, k2⟩ := M.lk.2 p which hp
      exact List.mem_map.2 ⟨e, List.mem_filter.2 ⟨all e he, by rw [decide_eq_true_eq, eX_is k2]⟩, eP_is k1⟩
  have nd : (accE which done).Nodup := by
    unfold accE List.Nodup
    rw [List.pairwise_map]
    have h1 : done.Pairwise fun a b => a.born ≠ b.born := by simpa [List.Nodup, List.pairwise_map] using h.2
    refine List.Pairwise.imp_of_mem (fun {a b} ha hb hab => ?_) (List.Pairwise.filter _ h1)
    intro e
    have ha := h.1 a (List.mem_filter.1 ha).1
    have hb := h.1 b (List.mem_filter.1 hb).1
    obtain ⟨q, x, _, _, k3, _⟩ := M.lk.1 a ha
    obtain ⟨q', x', _, _, k3', _⟩ := M.lk.1 b hb
    rw [eP_is k3, eP_is k3'] at e
    have hst := (Go.MapKept.stamped_iff es clock).1 M.fit.stamped
    exact hab (congrArg MapEntry.born (entry_eq_of_key hst.2.2 ha hb (by rw [k3, k3', e])))
  refine rises_ext ?_ hR (fun p => ?_)
  · have hp : (srt (accE which done)).Perm (accE which done) := List.mergeSort_perm _ _
    have h2 : (srt (accE which done)).Pairwise fun x y => x ≠ y := (hp.nodup_iff).2 nd
    exact List.Pairwise.imp (fun {a b} h => by
      rcases lt_tri a b with h1 | h1 | h1
      · exact h1
      · exact absurd h1 h.2
      · exact absurd h1 h.1) (List.Pairwise.and (srt_sorted _) h2)
  · rw [hm, ← mem]
    exact (List.mergeSort_perm _ _).mem_iff
noncomputable def thS (b : Nat) (es : Array MapEntry) (clock : Nat) (which : Int) (done : List MapEntry) : Row := [(.zn 0, .zn .live), (.zn 901, .zn .live), (.tmp 0, .av (.c [0] (.st (mapC b es clock)))), (.tmp 1, .av (.c [] (.v (.int .i64 which)))), (.tmp 9, .av (.c [901] (.st (iterC b clock (seenE done) clock)))),
  (.zn 900, .zn .live), (.hd 900, .hd (.own 52 2 900 [] ((accE which done).map PD))), (.tmp 5, .av (.own 900))]
set_option maxHeartbeats 8000000 in
theorem those_ct {n : Nat} {f : Pr → Option Int} {which : Int} {R : List Pr} (hR : Rises R) (hm : ∀ p, p ∈ R ↔ f p = some which) (hn : n ≤ 1000000) : Ct Try.prog 139 [.c (.st (mapE n f)), dI which] (some 52) (.one (.c (RD R))) := by
  refine ct_intro Try.func139 rfl Try.ntmps139 (by simp) (fun W0 Z => ?_)
  with_reducible repeat first | refine Jt.i ?_ | refine .g (by decide) ?_
  refine AW.at_ (fun L hL => ?_)
  simp at hL
  subst hL
  refine AW.openT (X := { x : Nat × Array MapEntry × Nat // MapOk n x.2.1 x.2.2 f }) (ψ := fun x => .st (mapC x.1.1 x.1.2.1 x.1.2.2)) 0 rfl (by simp [lk]) (fun Z w v h => ?_) (fun x => ?_)
  · cases h with
    | st _ _ h =>
      obtain ⟨b, es, clock, h, M⟩ := h
      exact ⟨⟨(b, es, clock), M⟩, .st _ _ h⟩
  obtain ⟨⟨b, es, clock⟩, M⟩ := x
  simp only at M
  have hes := M.size
  refine AW.rc 1 fun K hK => ?_
  repeat (with_reducible refine .s fun X Y Z W => ?_; simp; (first | refine Z.out _ _ ?_ | refine W.out _ ?_ | refine ⟨by kernel_rfl, W.out _ ?_⟩); clear Z W X Y; simp); (try refine .n ?_)
  refine Jt.f hK ?_
  clear hK K
  with_reducible repeat first | refine Jt.i ?_ | refine .g (by decide) ?_
  refine AW.rc 10 fun K hK => ?_
  repeat (with_reducible refine .s fun X Y Z W => ?_; simp; (first | refine Z.out _ _ ?_ | refine W.out _ ?_ | refine ⟨by kernel_rfl, W.out _ ?_⟩); clear Z W X Y; simp); (try refine .n ?_)
  refine Jt.f hK ?_
  clear hK K
  with_reducible repeat first | refine Jt.i ?_ | refine .g (by decide) ?_
  refine AW.rc 20 fun K hK => ?_
  repeat (with_reducible refine .s fun X Y Z W => ?_; simp; (first | refine Z.out _ _ ?_ | refine W.out _ ?_ | refine ⟨by kernel_rfl, W.out _ ?_⟩); clear Z W X Y; simp); (try refine .n ?_)
  refine .s fun K1 K2 hK1 hK2 => ?_
  simp
  refine hatch_range rfl rfl rfl ?_
  refine hK1.out _ _ ?_
  clear hK1 hK2 K1 K2
  (try simp)
  repeat (with_reducible refine .s fun X Y Z W => ?_; simp; (first | refine Z.out _ _ ?_ | refine W.out _ ?_ | refine ⟨by kernel_rfl, W.out _ ?_⟩); clear Z W X Y; simp); (try refine .n ?_)
  refine Jt.f hK ?_
  clear hK K
  with_reducible repeat first | refine Jt.i ?_ | refine .g (by decide) ?_
  refine AW.loop (X := { done : List MapEntry // DoneE es done }) (fun x => thS b es clock which x.1) (fun x => es.size - x.1.length) ⟨[], ⟨fun e he => by simp at he, by simp⟩⟩ (view_of (vw [] [(900, []), (901, [21])] [] [(900, none)]) (by simp [thS, accE, seenE])) (fun x => ?_)
  obtain ⟨done, hd⟩ := x
  have hdl := hd.len
  refine AW.at_ (fun L hL => ?_)
  simp [thS] at hL
  subst hL
  with_reducible repeat first | refine Jt.i ?_ | refine .g (by decide) ?_
  refine AW.next (z := 901) (zn := 31) (m := 0) (cx_pz _ _ _) (cx_N _ _ _) rfl rfl rfl (by decide) (by decide) rfl (by simp [lk]) (by decide) (by decide) M.fit.stamped.1 (Nat.le_refl _) (Nat.le_refl _) (fun h0 => ?_) (fun en hen => ?_)
  · have hfin := thoseL M hd h0 hR hm
    have hal := accE_len which done
    have ck := sort_ku (accE which done) (by omega)
    rw [hfin] at ck
    generalize accE which done = A at *
    with_reducible repeat first | refine Jt.i ?_ | refine .g (by decide) ?_
    refine AW.cf rfl ?_
    with_reducible repeat first | refine Jt.i ?_ | refine .g (by decide) ?_
    refine AW.rc 80 fun K hK => ?_
    repeat (with_reducible refine .s fun X Y Z W => ?_; simp; (first | refine Z.out _ _ ?_ | refine W.out _ ?_ | refine ⟨by kernel_rfl, W.out _ ?_⟩); clear Z W X Y; simp); (try refine .n ?_)
    refine .s fun K1 K2 hK1 hK2 => ?_
    simp
    refine orr_r ?_
    simp [stOver_cons, overAny]
    refine ⟨by kernel_rfl, _, ck, ?_⟩
    (try simp)
    refine hK1.out _ _ ?_
    clear hK1 hK2 K1 K2
    (try simp)
    repeat (with_reducible refine .s fun X Y Z W => ?_; simp; (first | refine Z.out _ _ ?_ | refine W.out _ ?_ | refine ⟨by kernel_rfl, W.out _ ?_⟩); clear Z W X Y; simp); (try refine .n ?_)
    refine Jt.f hK ?_
    clear hK K
    with_reducible repeat first | refine Jt.i ?_ | refine .g (by decide) ?_
    refine AW.rc 90 fun K hK => ?_
    repeat (with_reducible refine .s fun X Y Z W => ?_; simp; (first | refine Z.out _ _ ?_ | refine W.out _ ?_ | refine ⟨by kernel_rfl, W.out _ ?_⟩); clear Z W X Y; simp); (try refine .n ?_)
    refine Jt.f hK ?_
    clear hK K
    with_reducible repeat first | refine Jt.i ?_ | refine .g (by decide) ?_
    exact nx_reto (t := 4) (n := 900) (y := 81) (zs := []) (rr := [(.zn 81, .zn .live)]) (.inr rfl) rfl (by kernel_rfl) (by kernel_rfl) (by kernel_rfl) (by simp) rfl
  · obtain ⟨he1, he2⟩ := mem_left hen
    obtain ⟨p, x, k1, k2, k3, k4⟩ := M.lk.1 en he1
    have hd' := hd.snoc hen
    have hdl' := hd'.len
    rw [List.length_append, List.length_singleton] at hdl'
    have hst := (Go.MapKept.stamped_iff es clock).1 M.fit.stamped
    have hal := accE_len which done
    have SE := seenE_push done en
    have AE : accE which (done ++ [en]) = if x = which then accE which done ++ [p] else accE which done := by
      unfold accE
      rw [List.filter_append, List.map_append]
      by_cases h : x = which
      · simp [eX_is k4, h, eP_is k3]
      · simp [eX_is k4, h]
    with_reducible repeat first | refine Jt.i ?_ | refine .g (by decide) ?_
    refine AW.ct rfl ?_
    with_reducible repeat first | refine Jt.i ?_ | refine .g (by decide) ?_
    refine AW.rc 40 fun K hK => ?_
    repeat (with_reducible refine .s fun X Y Z W => ?_; simp; (first | refine Z.out _ _ ?_ | refine W.out _ ?_ | refine ⟨by kernel_rfl, W.out _ ?_⟩); clear Z W X Y; simp); (try refine .n ?_)
    refine .s fun K1 K2 hK1 hK2 => ?_
    simp
    refine hatch_entry (.tmp 0) rfl rfl rfl rfl he1 hst.2.1 k3 k4 ?_
    refine hK1.out _ _ ?_
    clear hK1 hK2 K1 K2
    (try simp)
    repeat (with_reducible refine .s fun X Y Z W => ?_; simp; (first | refine Z.out _ _ ?_ | refine W.out _ ?_ | refine ⟨by kernel_rfl, W.out _ ?_⟩); clear Z W X Y; simp); (try refine .n ?_)
    refine Jt.f hK ?_
    clear hK K
    with_reducible repeat first | refine Jt.i ?_ | refine .g (by decide) ?_
    by_cases hxw : x = which
    · rw [if_pos hxw] at AE
      generalize accE which done = A at *
      refine AW.rc 50 fun K hK => ?_
      repeat (with_reducible refine .s fun X Y Z W => ?_; simp [hxw]; (first | refine Z.out _ _ ?_ | refine W.out _ ?_ | refine ⟨by kernel_rfl, W.out _ ?_⟩); clear Z W X Y; simp [hxw]); (try refine .n ?_)
      refine Jt.f hK ?_
      clear hK K
      with_reducible repeat first | refine Jt.i ?_ | refine .g (by decide) ?_
      refine AW.ct rfl ?_
      with_reducible repeat first | refine Jt.i ?_ | refine .g (by decide) ?_
      refine AW.rc 60 fun K hK => ?_
      repeat (with_reducible refine .s fun X Y Z W => ?_; simp; (first | refine Z.out _ _ ?_ | refine W.out _ ?_ | refine ⟨by kernel_rfl, W.out _ ?_⟩); clear Z W X Y; simp); (try refine .n ?_)
      refine .s fun K1 K2 hK1 hK2 => ?_
      simp
      refine ya_mk (by (simp [maxI]; omega)) ?_
      (try simp)
      refine hK1.out _ _ ?_
      clear hK1 hK2 K1 K2
      (try simp)
      repeat (with_reducible refine .s fun X Y Z W => ?_; simp; (first | refine Z.out _ _ ?_ | refine W.out _ ?_ | refine ⟨by kernel_rfl, W.out _ ?_⟩); clear Z W X Y; simp); (try refine .n ?_)
      refine Jt.f hK ?_
      clear hK K
      with_reducible repeat first | refine Jt.i ?_ | refine .g (by decide) ?_
      exact NX.round ⟨done ++ [en], hd'⟩ (by show es.size - (done ++ [en]).length < es.size - done.length; rw [List.length_append, List.length_singleton]; omega) (view_of (vw [] [(900, [63]), (901, [31])] [] [(900, some 63)]) (by simp [thS, AE, SE]))
    · rw [if_neg hxw] at AE
      generalize accE which done = A at *
      refine AW.rc 50 fun K hK => ?_
      repeat (with_reducible refine .s fun X Y Z W => ?_; simp [hxw]; (first | refine Z.out _ _ ?_ | refine W.out _ ?_ | refine ⟨by kernel_rfl, W.out _ ?_⟩); clear Z W X Y; simp [hxw]); (try refine .n ?_)
      refine Jt.f hK ?_
      clear hK K
      with_reducible repeat first | refine Jt.i ?_ | refine .g (by decide) ?_
      refine AW.cf rfl ?_
      with_reducible repeat first | refine Jt.i ?_ | refine .g (by decide) ?_
      exact NX.round ⟨done ++ [en], hd'⟩ (by show es.size - (done ++ [en]).length < es.size - done.length; rw [List.length_append, List.length_singleton]; omega) (view_of (vw [] [(901, [31])] [] []) (by simp [thS, AE, SE]))
end Go.Proofs.Ytlkdkhmdmgchbaa
namespace Go.Proofs.Ytlkdkhmdmgchbaa
set_option linter.unusedSimpArgs false
set_option linter.unusedVariables false
open Go.RowKit Go.Shelf
attribute [local go_sem] Oper.semAt_some

def toldN (l : List Tr) : List (List DV) := l.reverse.map fun t => [TD t]
theorem tcell {Z : Zone} {w0 W : World} {p : Option Addr} {cap : Nat} {l : List Tr} (hr : RepD Z w0 (.slice p l.length cap) (TsD l)) (hk : KZ Z w0 w0 W) (hl : 0 < l.length) :
    ∃ g o, p = some ⟨g, o, none⟩ ∧ ∀ k (h : k < l.length), ∃ va vd, W.cell? ⟨g, o + k * 2, none⟩ = some va ∧ W.cell? ⟨g, o + k * 2 + 1, none⟩ = some vd ∧ RepD Z w0 va (RD (l[k]).1) ∧ RepD Z w0 vd (RD (l[k]).2) := by
  obtain ⟨g, o, cap', vals, e, h1, h2, h3, h4⟩ := hr.at (by simpa using hl)
  simp only [Value.slice.injEq] at e
  obtain ⟨rfl, -, -⟩ := e
  refine ⟨g, o, rfl, fun k h => ?_⟩
  have q := fun j x => h4 k [RD (l[k]).1, RD (l[k]).2] j x (by simp [h])
  have tr : ∀ o' u, Z g → w0.cell? ⟨g, o', none⟩ = some u → W.cell? ⟨g, o', none⟩ = some u := fun o' u hz hc => by
    have hlt := World.lt_of_cell hc
    exact (World.cell?_of_block (w := w0) (a := ⟨g, o', none⟩) (hk g hz hlt)).trans hc
  obtain ⟨a1, a2, a3⟩ := q 0 _ rfl
  obtain ⟨b1, b2, b3⟩ := q 1 _ rfl
  exact ⟨_, _, tr _ _ a1 a2, tr _ _ b1 b2, a3, b3⟩
set_option maxRecDepth 100000 in
set_option maxHeartbeats 4000000 in
theorem newest_iter (Z : Zone) (w0 : World) (b : Nat) (p : Option Addr) (cap : Nat) (l : List Tr) (hz : Z b) (c0 : w0.cell? ⟨b, 0, none⟩ = some (.slice p l.length cap)) (hr : RepD Z w0 (.slice p l.length cap) (TsD l)) :
    Iter Try.prog 165 #[.pointer (some ⟨b, 0, none⟩)] (fun vs : Array Value => vs) (fun _ => True) (fun W => KZ Z w0 w0 W) (fun A B => KZ Z w0 A B)
      (fun pre vs => ∃ x, (toldN l)[pre.length]? = some x ∧ Reps (fun g => Z g ∧ g < w0.heap.size) w0 vs x) (fun xs => xs.length = (toldN l).length) (fun _ => True) := by
  intro y J Jx W hW jK jxK hY h0
  have HJ := hid jK
  have HJx := hid jxK
  have HY := hid hY
  clear jK jxK hY
  have len : l.length ≤ maxI := by
    obtain ⟨_, _, e, h1, h2, _⟩ := hr.form
    simp only [Value.slice.injEq, List.length_map] at e h1
    omega
  have HLN := hid len
  have VC := hid (fun W hk hl => tcell (W := W) hr hk hl)
  have CB := hid (fun (W : World) (hk : KZ Z w0 w0 W) => show W.cell? ⟨b, 0, none⟩ = some (.slice p l.length cap) from (World.cell?_of_block (w := w0) (a := ⟨b, 0, none⟩) (hk b hz (World.lt_of_cell c0))).trans c0)
  clear hr len
  refine callsIn_of_wp Try.func165 rfl trivial ?_ rfl
  simp only [Try.ntmps165, List.size_toArray, List.length_cons, List.length_nil, Nat.reduceAdd, Nat.reduceSub, Array.replicate_succ, Array.replicate_zero, List.push_toArray, List.append_toArray, List.nil_append, List.cons_append]
  have cw := CB.out W hW
  have HW := hid hW; clear hW
  have H0 := hid h0; clear h0
  clear c0
  refine wpIn_wide.2 ?_
  go_wp2_with fail
  clear cw
  go_loopw [6] (fun v6 wr => ∃ (k : Nat) (pre : List (Array Value)), v6 = (.int .i64 (k)) ∧ k ≤ l.length ∧ pre.length = k ∧ Hid (KZ Z w0 w0 wr) ∧ Hid (J pre wr)) (fun v6 _ => l.length - (intOf v6).toNat)
  case atStart => exact ⟨0, [], rfl, Nat.zero_le _, rfl, HW, H0⟩
  case round =>
    clear HW H0
    obtain ⟨k, pre, rfl, hk, hpre, H, HP⟩ := hrel
    by_cases hgo : k < l.length
    · have hgo' : (k : Int) < (l.length : Int) := by omega
      have hwk : IntKind.i64.wrap ((k : Int) + 1) = ((k + 1 : Nat) : Int) := by have := HLN.out; unfold maxI at this; rw [i64_ok _ (by omega) (by omega)]; omega
      obtain ⟨j, hj⟩ : ∃ j, l.length - 1 - k = j := ⟨_, rfl⟩
      have hjl : j < l.length := by omega
      have hw1 : IntKind.i64.wrap ((l.length : Int) - 1) = (l.length : Int) - 1 := by have := HLN.out; unfold maxI at this; rw [i64_ok _ (by omega) (by omega)]
      have hw2 : IntKind.i64.wrap ((l.length : Int) - 1 - (k : Int)) = (j : Int) := by have := HLN.out; unfold maxI at this; rw [i64_ok _ (by omega) (by omega)]; omega
      have hj1 : (0 : Int) ≤ (j : Int) ∧ (j : Int) < (l.length : Int) := by omega
      obtain ⟨g, o, hp, hc⟩ := VC.out wr H.out (by omega)
      subst hp
      obtain ⟨va, vd, d0, d1, r0, r1⟩ := hc j hjl
      clear hc
      have cw := CB.out wr H.out
      obtain ⟨x, hx⟩ : ∃ x, l[j] = x := ⟨_, rfl⟩
      rw [hx] at r0 r1
      have HX := hid hx; clear hx
      have hget : (toldN l)[pre.length]? = some [TD x] := by
        simp only [toldN, List.getElem?_map, Option.map_eq_some_iff]
        refine ⟨x, ?_, rfl⟩
        rw [List.getElem?_reverse (by omega), hpre, hj, List.getElem?_eq_getElem hjl, HX.out]
      obtain ⟨fn, tmps, assign, body, hy, hR⟩ := HY.out pre #[.agg #[va, vd]] _ HP.out ⟨[TD x], hget, by simp, by
        intro i d hd
        match i, hd with
        | 0, hd =>
          simp at hd
          subst hd
          exact ⟨#[va, vd], rfl, rfl, fun j d hd => by
            match j, hd with
            | 0, hd => simp at hd; subst hd; exact r0.evo fun g hg hl => ⟨⟨hg, hl⟩, rfl⟩
            | 1, hd => simp at hd; subst hd; exact r1.evo fun g hg hl => ⟨⟨hg, hl⟩, rfl⟩⟩⟩
      have HR := hid hR; clear hR
      clear r0 r1 hget
      go_upto_region 3 with fail
      refine (wpIn_wide (n := 9)).1 ?_
      gi_wp2_with fail
      refine HR.out.mono ?_
      rintro e w8 (⟨rfl, hj4, hk8⟩ | ⟨rfl, hj4⟩)
      · have H8 := hid (KZ.trans H.out hk8)
        have HJ8 := hid hj4
        clear d0 d1 hy hk8
        gi_wp2_with fail
        (try go_wp2_with fail)
        exact ⟨⟨k + 1, pre ++ [#[.agg #[va, vd]]], by simp, hgo, by simp [hpre], H8, HJ8⟩, by simp [intOf]; omega⟩
      · have HJ8 := hid hj4
        clear d0 d1 hy
        gi_wp2_with fail
        (try go_wp2_with fail)
        (try rw [Exit.noGoto_ret]); (try rw [Exit.noGoto_normal])
        refine bodyPost_ret (results_none rfl _ _ _) rfl ?_
        exact ⟨⟨_, rfl⟩, .inr ⟨_, trivial, HJ8.out⟩⟩
    · obtain rfl : k = l.length := by omega
      have h1 : ¬ (l.length : Int) < (l.length : Int) := by omega
      go_wp2_with fail
      (try rw [Exit.noGoto_ret]); (try rw [Exit.noGoto_normal])
      go_end0
      exact ⟨⟨_, rfl⟩, .inl ⟨pre, by simpa [toldN] using hpre, HP.out⟩⟩
end Go.Proofs.Ytlkdkhmdmgchbaa
namespace Go.Proofs.Ytlkdkhmdmgchbaa
set_option linter.unusedSimpArgs false
set_option linter.unusedVariables false
open Go.RowKit
set_option maxRecDepth 100000
theorem itok_newest (Z : Zone) (w : World) (b : Nat) (v : Value) (l : List Tr) (hz : Z b) (c0 : w.cell? ⟨b, 0, none⟩ = some v) (hr : RepD Z w v (TsD l)) :
    ItOk Try.prog (toldN l) Z w (.func (.func 165) #[] #[.pointer (some ⟨b, 0, none⟩)]) := by
  obtain ⟨p, cap, rfl, h1, h2, h3⟩ := hr.form
  simp only [List.length_map] at c0 hr
  exact ⟨_, _, rfl, fun _ _ => rfl, newest_iter Z w b p cap l hz c0 hr⟩
theorem newest_ca (l : List Tr) : Ca Try.prog 147 [.c (TsD l)] (.one (itV (toldN l))) := by
  rintro Z w vs ⟨hs, hv⟩
  obtain ⟨v, rfl⟩ : ∃ v, vs = #[v] := ⟨vs[0]'(by rw [hs]; simp), by
    apply Array.ext
    · simpa using hs
    · intro i h1 h2
      simp at h2; subst h2; rfl⟩
  have hr : RepD Z w v (TsD l) := hv 0 _ rfl
  go_enter Try.func147, Try.ntmps147
  obtain ⟨p, cap, rfl, h1, h2, h3⟩ := hr.form
  go_wp2_with (first | (at_builtin; exact hmf))
  simp only [List.length_map] at hr
  refine bodyPost_ret (v := .func (.func 165) #[] #[.pointer (some ⟨w.heap.size, 0, none⟩)]) (by simp [results, Try.results147, go_sem]) rfl ?_
  have hb : Below w.heap.size w (w.alloc (.cells #[.slice p l.length cap] 40)) := (Below.refl _ w).alloc (Nat.le_refl _) _
  have hnew := World.alloc_heap_new w (.cells #[.slice p l.length cap] 40)
  refine ⟨_, fun g => g = w.heap.size, rfl, hb, fun g hg => ?_, .st _ _ (itok_newest _ _ w.heap.size (.slice p l.length cap) l (.inr rfl) ?_ ?_)⟩
  · subst hg
    exact ⟨Nat.le_refl _, .mk hnew⟩
  · unfold World.cell?
    rw [hnew]
    rfl
  · exact hr.evo fun g hg hl => ⟨.inl hg, hb.block g hl⟩
theorem toldN_len {l : List Tr} : ∀ x ∈ toldN l, x.length = 1 := by
  intro x hx
  obtain ⟨p, _, rfl⟩ := List.mem_map.1 hx
  rfl
end Go.Proofs.Ytlkdkhmdmgchbaa
namespace Go.Proofs.Ytlkdkhmdmgchbaa
set_option linter.unusedSimpArgs false
set_option linter.unusedVariables false
open Go.RowKit
attribute [local simp ↓] gav_bool gav_undef arun_nil ob_some kva_av kfree_free khfree_free khown_own klive_live knm_false chk_true ya_true gsel_tt gsel_ff gsel_tf gsel_ft vb_bool vi_int vstr_string avps_ptr avps_seg avp_ptr avagg_agg avtup_tup avb_bool avown_own shs_struct shsa_struct shsa_arr sharr_arr shl_slice shla_slice shla_arr shls_slice shls_str shi_int bc_true bc_false hd1_cons opc_some opc_none opn_some opn_none unc_not unc_neg gd_none gd_some as_move as_assign as_pick as_bin as_un as_conv as_load as_faddr as_field as_extract as_iaddr as_slice as_alloc as_box as_store as_build as_rows as_call as_append as_lookup as_mapUpdate as_makeMap as_range as_next as_entry as_index as_fn as_len as_min as_max stMove stPick stBin stUn stConv stLoad stFaddr stField stExtract stIaddr stSlice stAlloc stBox stStore stBuild stIndex stRows stCall stAppend stFn stLen stMin stMax opd_tmp opd_const opd_func rawL_nil rawL_cons raw_c raw_st raw_a opr_e zr_nil zr_cons lvd_live hod_own obd_some obd_none kvd_av chd_true vid_int lk_cons lk_nil ins_nil ins_cons cells_zero cells_succ spread1_c spread1_own spread1_ptr spread1_fn spread1_seg spreadL_nil spreadL_cons spread_agg spread_c spread_own spread_seg spread_ptr spread_fn ex_zero ex_succ ops_e opb_none opb_int spreadD_agg spreadD_c spreadD_own spreadD_seg fillO_nil fillO_cons argsOf_nil argsOf_cons dvOf_c dvOf_seg dvOf_own dvOf_agg zrL_nil zrL_cons hdd_c hdd_seg hdd_own clz_e clv_raw clv_f callD_e dst0_n dst0_nil dst0_own goneH_e capc_ptr capc_seg capc_c capN_nil capN_cons capD_nil capD_cons deadZ_nil deadZ_cons
attribute [local simp] dok_some dok_none dflt_tmp dflt_vt dflt_cell dflt_zn dflt_nm dflt_hd dflt_df puts_nil puts_cons wr_some wr_none cst_agg cst_int cst_bool cst_string cst_slice cst_tuple cst_nilFunc cst_pointer cst_func bin_add bin_sub bin_mul bin_quo bin_rem bin_eql bin_neq bin_lss bin_leq bin_gtr bin_geq bin_bool bin_aggs binT_bool binT_aggs shbd_bool eqb_eql eqb_neq bin_slice bin_str_eql bin_str_neq bin_str_lss bin_str_add nz_v nz_n nz_s nz_p nz_f nz_st atz_v atz_n atz_s atz_p atz_f atz_st atz_agg atR_one atR_tup crow_nil crow_cons slc_c slc_n slc_own slc_nil raws setR placesT_nil placesT_cons zc chunk zsAll ocD_v ocD_n ocD_s ocD_p ocD_f ocD_st nrm_v nrm_n nrm_s nrm_p nrm_f nrm_st isV_one isV_tup isV_c isV_agg isV_v isV_n isV_s isV_p isV_f isV_st argRows Sh.agg zds_nil zds_e zds_v zds_s vcells_agg vcells_int vcells_bool vcells_string vcells_slice vcells_pointer toList_lit map_nilL map_consL nzr_e rowsOc_nil rowsOc_cons rowsOc_RD nzr_RD foks_nil foks_cons fok_tmp fok_vt fok_cell fok_nm fok_zn fok_hd fok_df Fv_c Fv_seg Fv_tup Fv_agg Fv_ptr Fv_ptrs Fv_fn Fv_fnd Fv_own Fv_ownd Fv_nown Fv_vown FvL_nil FvL_cons kvp_av hdp_some subz frz Uz Nm Uh vw_nb vw_zo vw_zf vw_hb tb_nil tb_cons fzc_nil fzc_cons fzcaps_nil fzcaps_cons ty2 ty3 ty4 ty5 ty6 ty7 ty8 ty9 ty10 ty11 ty12 ty13 ty14 ty15 ty16 ty17 ty18 ty19 ty20 ty21 ty22 ty23 ty24 ty25 ty26 ty27 ty30 ty40 ty48 ty50 ty51 ty52 ty55 ty57 ty62 ty63 ty85 ty94 ty101 ty121 ty122 ty123 ty124 ty125 ty126 ty128 ty148 ty149 ty151 ty164 ty165 ty179 ty182 ty196 ty203 ty205 ty209 ty211 ty215 ty216 ty217 ty218 ty219 ty220 ty221 ty223 ty224 ty225 ty226 ty227 Value.oneCell'
set_option maxRecDepth 100000
theorem vcells_map (x : Option Nat) : (Value.map x).cells.toList = [.map x] := rfl
/-- a pair is said so, if nothing was said of it. -/
def sayP (f : Pr → Option Int) (x : Int) (p : Pr) : Pr → Option Int := if (f p).isSome then f else updF f p x
def sayL (f : Pr → Option Int) (x : Int) (l : List Pr) : Pr → Option Int := l.foldl (fun f p => sayP f x p) f
def sayT (f : Pr → Option Int) (t : Tr) : Pr → Option Int := sayL (sayL f 0 t.2) 1 t.1
/-- what tiers say, the newest one first. -/
def saidF (l : List Tr) : Pr → Option Int := l.reverse.foldl sayT (fun _ => none)
theorem sayL_take (f : Pr → Option Int) (x : Int) (l : List Pr) {k : Nat} (h : k < l.length) : sayL f x (l.take (k + 1)) = sayP (sayL f x (l.take k)) x l[k] := by
  unfold sayL
  rw [List.take_succ_eq_append_getElem h, List.foldl_append]
  rfl
/-- how many pairs. -/
def pairsT (t : Tr) : Nat := t.2.length + t.1.length
def pairsN (l : List Tr) : Nat := (l.map pairsT).sum
def wfR (l : List Pr) : Prop := ∀ p ∈ l, wfP p
def wfT (t : Tr) : Prop := wfR t.1 ∧ wfR t.2
theorem pairsN_take {l : List Tr} {k : Nat} (h : k < l.length) : pairsN (l.take (k + 1)) = pairsN (l.take k) + pairsT l[k] := by
  unfold pairsN
  rw [List.take_succ_eq_append_getElem h, List.map_append, List.sum_append]
  simp
theorem pairsN_le (l : List Tr) (k : Nat) : pairsN (l.take k) ≤ pairsN l := by
  have : pairsN l = pairsN (l.take k) + pairsN (l.drop k) := by
    unfold pairsN
    rw [← List.sum_append, ← List.map_append, List.take_append_drop]
  omega
theorem pairsN_rev (l : List Tr) : pairsN l.reverse = pairsN l := by
  unfold pairsN
  rw [List.map_reverse, List.sum_reverse]
def saidK (l : List Tr) (k : Nat) : Pr → Option Int := (l.reverse.take k).foldl sayT (fun _ => none)
theorem saidK_s {l : List Tr} {k : Nat} (h : k < l.reverse.length) : saidK l (k + 1) = sayT (saidK l k) l.reverse[k] := by
  unfold saidK
  rw [List.take_succ_eq_append_getElem h, List.foldl_append]
  rfl
def sdN (b n : Nat) (f : Pr → Option Int) : Row := [(.zn 0, .zn .live), (.zn 31, .zn .live), (.zn 900, .zn .live), (.nm 1, .nm true), (.cell 1 0, .av (.c [900] (.st (mapF b n f)))), (.vt 0 3, .av (.ptr 1 0))]
def sdM (b : Nat) (l : List Tr) (k : Nat) : Row := sdN b (pairsN (l.reverse.take k)) (saidK l k)
def sdA (b : Nat) (t : Tr) (n : Nat) (f : Pr → Option Int) (i : Nat) : Row := [(.zn 0, .zn .live), (.zn 31, .zn .live), (.zn 900, .zn .live), (.nm 1, .nm true), (.cell 1 0, .av (.c [900] (.st (mapF b n f)))), (.vt 0 3, .av (.ptr 1 0)), (.tmp 3, .av (.ptr 1 0)),
  (.tmp 19, .av (.agg [([31, 0], RD t.2), ([31, 0], RD t.1)])), (.tmp 20, .av (.c [] (.v (.int .i64 i))))]
def sdB (b : Nat) (t : Tr) (n : Nat) (f : Pr → Option Int) (i : Nat) (r : List Pr) (j : Nat) : Row := [(.tmp 5, .av (.c [] (.v (.int .i64 i)))), (.tmp 24, .av (.c [31, 0] (RD r))), (.tmp 25, .av (.c [] (.v (.int .i64 r.length)))), (.tmp 26, .av (.c [] (.v (.int .i64 j))))] ++ sdA b t n f i
/-- what stands behind i of a tier's two rows. -/
def stepF (f : Pr → Option Int) (t : Tr) : Nat → Pr → Option Int
  | 0 => f
  | 1 => sayL f 0 t.2
  | _ => sayT f t
def stepN (n : Nat) (t : Tr) : Nat → Nat
  | 0 => n
  | 1 => n + t.2.length
  | _ => n + pairsT t
theorem mapF_le {b n m : Nat} {f : Pr → Option Int} (h : n ≤ m) {Z : Zone} {w : World} {v : Value} (hr : RepD Z w v (.st (mapF b n f))) : RepD Z w v (.st (mapF b m f)) := by
  cases hr with
  | st _ _ hr =>
    obtain ⟨es, clock, h1, M⟩ := hr
    exact .st _ _ ⟨es, clock, h1, M.fit, Nat.le_trans M.size h, M.lk⟩
theorem mapF_E {b n : Nat} {f : Pr → Option Int} {Z : Zone} {w : World} {v : Value} (hr : RepD Z w v (.st (mapF b n f))) : RepD Z w v (.st (mapE n f)) := by
  cases hr with
  | st _ _ hr => exact .st _ _ ⟨b, hr⟩
set_option maxHeartbeats 8000000 in
theorem said_ct (l : List Tr) (hw : ∀ t ∈ l, wfT t) (hn : pairsN l ≤ 1000000) : Ct Try.prog 140 [.c (TsD l)] none (.one (.c (.st (mapE (pairsN l) (saidF l))))) := by
  have cn := newest_ca l
  refine ct_intro Try.func140 rfl Try.ntmps140 (by simp) (fun W0 Z => ?_)
  with_reducible repeat first | refine Jt.i ?_ | refine .g (by decide) ?_
  refine AW.at_ (fun L hL => ?_)
  simp at hL
  subst hL
  refine AW.rc 1 fun K hK => ?_
  repeat (with_reducible refine .s fun X Y Z W => ?_; simp [cst]; (first | refine Z.out _ _ ?_ | refine W.out _ ?_ | refine ⟨by kernel_rfl, W.out _ ?_⟩); clear Z W X Y; simp [cst]); (try refine .n ?_)
  refine Jt.f hK ?_
  clear hK K
  with_reducible repeat first | refine Jt.i ?_ | refine .g (by decide) ?_
  refine AW.rc 10 fun K hK => ?_
  repeat (with_reducible refine .s fun X Y Z W => ?_; simp [vcells_map]; (first | refine Z.out _ _ ?_ | refine W.out _ ?_ | refine ⟨by kernel_rfl, W.out _ ?_⟩); clear Z W X Y; simp [vcells_map]); (try refine .n ?_)
  refine .s fun K1 K2 hK1 hK2 => ?_
  simp [vcells_map]
  refine hatch_make rfl ?_
  refine hK1.out _ _ ?_
  clear hK1 hK2 K1 K2
  (try simp [vcells_map])
  repeat (with_reducible refine .s fun X Y Z W => ?_; simp [vcells_map]; (first | refine Z.out _ _ ?_ | refine W.out _ ?_ | refine ⟨by kernel_rfl, W.out _ ?_⟩); clear Z W X Y; simp [vcells_map]); (try refine .n ?_)
  refine Jt.f hK ?_
  clear hK K
  with_reducible repeat first | refine Jt.i ?_ | refine .g (by decide) ?_
  refine AW.openC (X := Nat) (ψ := fun b => .st (mapF b 0 fun _ => none)) 11 0 rfl (by simp [lk]) (fun Z w v h => ?_) (fun b => ?_)
  · cases h with
    | st _ _ h =>
      obtain ⟨b, h⟩ := h
      exact ⟨b, .st _ _ h⟩
  refine AW.rc 30 fun K hK => ?_
  repeat (with_reducible refine .s fun X Y Z W => ?_; simp; (first | refine Z.out _ _ ?_ | refine W.out _ ?_ | refine ⟨by kernel_rfl, W.out _ ?_⟩); clear Z W X Y; simp); (try refine .n ?_)
  refine .s fun K1 K2 hK1 hK2 => ?_
  simp
  refine orr_l ⟨by kernel_rfl, .inr (.inr (.inl ⟨_, cn, ?_⟩))⟩
  (try simp)
  refine hK1.out _ _ ?_
  clear hK1 hK2 K1 K2
  (try simp)
  repeat (with_reducible refine .s fun X Y Z W => ?_; simp; (first | refine Z.out _ _ ?_ | refine W.out _ ?_ | refine ⟨by kernel_rfl, W.out _ ?_⟩); clear Z W X Y; simp); (try refine .n ?_)
  refine Jt.f hK ?_
  clear hK K
  with_reducible repeat first | refine Jt.i ?_ | refine .g (by decide) ?_
  refine AW.range (zs := [31, 0]) (l := toldN l) (rr := [(.tmp 13, .av (.c [31, 0] (.st (itP Try.prog (toldN l)))))]) (rz := [(.zn 31, .zn .live), (.zn 0, .zn .live)]) (ps := #[14]) rfl (fun z g h => h.2) (by kernel_rfl) (by kernel_rfl) (by kernel_rfl) toldN_len (by simp) (by simp [cx]) (fun k => sdM b l k) (fun _ _ => none) (fun k => by kernel_rfl) (fun c k L' h => by cases h)
    (fun C' hP hN => ?_) (fun k x hx => ?_) ?_ (fun c k L' h => by cases h)
  · have hP : C'.pz = [0, 31, 0] := hP
    simp only [vtOf]
    exact (view_of (vw [(1, 11)] [(900, [10])] [] []) (by simp [sdM, sdN, saidK, pairsN]))
  · obtain ⟨t, ht, hxt⟩ : ∃ t, l.reverse[k]? = some t ∧ x = [TD t] := by
      simp only [toldN, List.getElem?_map, Option.map_eq_some_iff] at hx
      obtain ⟨y, h1, h2⟩ := hx
      exact ⟨y, h1, h2.symm⟩
    subst hxt
    obtain ⟨hk, hkt⟩ := List.getElem?_eq_some_iff.1 ht
    have SK := saidK_s hk
    have PN := pairsN_take hk
    have PL := pairsN_le l.reverse (k + 1)
    rw [pairsN_rev] at PL
    have HW := hw t (by rw [← hkt]; exact List.mem_reverse.1 (List.getElem_mem hk))
    rw [hkt] at SK PN
    obtain ⟨F, hF⟩ : ∃ F, saidK l k = F := ⟨_, rfl⟩
    obtain ⟨n, hnn⟩ : ∃ n, pairsN (l.reverse.take k) = n := ⟨_, rfl⟩
    rw [hF] at SK
    rw [hnn] at PN
    apply Exists.intro
    refine ⟨?_, fun ln C' hP hN => ?_, fun ln C' hP hN => ?_⟩
    rotate_left
    · have hP : C'.pz = [0, 31, 0] := hP
      have hN : C'.N = 44 := hN
      simp only [parRows, sdM, sdN, tmB, hF, hnn]
      with_reducible repeat first | refine Jt.i ?_ | refine .g (by decide) ?_
      refine AW.rc 100 fun K hK => ?_
      repeat (with_reducible refine .s fun X Y Z W => ?_; simp; (first | refine Z.out _ _ ?_ | refine W.out _ ?_ | refine ⟨by kernel_rfl, W.out _ ?_⟩); clear Z W X Y; simp); (try refine .n ?_)
      refine Jt.f hK ?_
      clear hK K
      with_reducible repeat first | refine Jt.i ?_ | refine .g (by decide) ?_
      exact fun a w h => ⟨rfl, h⟩
    · have hP : C'.pz = [0, 31, 0] := hP
      have hN : C'.N = 44 := hN
      with_reducible repeat first | refine Jt.i ?_ | refine .g (by decide) ?_
      refine AW.rc 110 fun K hK => ?_
      repeat (with_reducible refine .s fun X Y Z W => ?_; simp; (first | refine Z.out _ _ ?_ | refine W.out _ ?_ | refine ⟨by kernel_rfl, W.out _ ?_⟩); clear Z W X Y; simp); (try refine .n ?_)
      refine Jt.f hK ?_
      clear hK K
      with_reducible repeat first | refine Jt.i ?_ | refine .g (by decide) ?_
      refine AW.loop (X := { i : Nat // i ≤ 2 }) (fun y => sdA b t (stepN n t y.1) (stepF F t y.1) y.1) (fun y => 2 - y.1) ⟨0, by omega⟩ (view_of (vw [] [] [] []) (by simp [sdA, stepN, stepF])) (fun y => ?_)
      obtain ⟨i, hi⟩ := y
      refine AW.at_ (fun L hL => ?_)
      simp [sdA] at hL
      subst hL
      with_reducible repeat first | refine Jt.i ?_ | refine .g (by decide) ?_
      by_cases hgo : i < 2
      · obtain ⟨rw, hrw, FS, NS, hwr, hle⟩ : ∃ rw : List Pr, ([([31, 0], RD t.2), ([31, 0], RD t.1)] : List (List Nat × D))[i]? = some ([31, 0], RD rw) ∧ stepF F t (i + 1) = sayL (stepF F t i) i rw ∧ stepN n t (i + 1) = stepN n t i + rw.length ∧ wfR rw ∧ stepN n t i + rw.length ≤ 1000000 := by
          unfold pairsT at PN
          match i, hgo with
          | 0, _ => exact ⟨t.2, rfl, rfl, rfl, HW.2, by simp only [stepN]; omega⟩
          | 1, _ => exact ⟨t.1, rfl, rfl, by simp only [stepN, pairsT]; omega, HW.1, by simp only [stepN]; omega⟩
        have hwi : (Lit.int .i64 (i : Int)).wf = true := by
          match i, hgo with
          | 0, _ => rfl
          | 1, _ => rfl
        have w6 : IntKind.i64.wrap ((i : Int) + 1) = ((i + 1 : Nat) : Int) := by rw [i64_ok _ (by omega) (by omega)]; omega
        have hgo' : (i : Int) < 2 := by omega
        generalize stepF F t i = f0 at *
        generalize stepN n t i = n0 at *
        refine AW.rc 120 fun K hK => ?_
        repeat (with_reducible refine .s fun X Y Z W => ?_; simp [hgo']; (first | refine Z.out _ _ ?_ | refine W.out _ ?_ | refine ⟨by kernel_rfl, W.out _ ?_⟩); clear Z W X Y; simp [hgo']); (try refine .n ?_)
        refine Jt.f hK ?_
        clear hK K
        with_reducible repeat first | refine Jt.i ?_ | refine .g (by decide) ?_
        refine AW.ct rfl ?_
        with_reducible repeat first | refine Jt.i ?_ | refine .g (by decide) ?_
        refine AW.rc 130 fun K hK => ?_
        repeat (with_reducible refine .s fun X Y Z W => ?_; simp; (first | refine Z.out _ _ ?_ | refine W.out _ ?_ | refine ⟨by kernel_rfl, W.out _ ?_⟩); clear Z W X Y; simp); (try refine .n ?_)
        refine .s fun K1 K2 hK1 hK2 => ?_
        simp
        refine ⟨i, ([31, 0], RD rw), rfl, hgo, hrw, ?_⟩
        refine hK1.out _ _ ?_
        clear hK1 hK2 K1 K2
        (try simp)
        repeat (with_reducible refine .s fun X Y Z W => ?_; simp; (first | refine Z.out _ _ ?_ | refine W.out _ ?_ | refine ⟨by kernel_rfl, W.out _ ?_⟩); clear Z W X Y; simp); (try refine .n ?_)
        refine Jt.f hK ?_
        clear hK K
        with_reducible repeat first | refine Jt.i ?_ | refine .g (by decide) ?_
        refine AW.rc 140 fun K hK => ?_
        repeat (with_reducible refine .s fun X Y Z W => ?_; simp; (first | refine Z.out _ _ ?_ | refine W.out _ ?_ | refine ⟨by kernel_rfl, W.out _ ?_⟩); clear Z W X Y; simp); (try refine .n ?_)
        refine Jt.f hK ?_
        clear hK K
        with_reducible repeat first | refine Jt.i ?_ | refine .g (by decide) ?_
        refine AW.loop (X := { j : Nat // j ≤ rw.length }) (fun z => sdB b t (n0 + z.1) (sayL f0 i (rw.take z.1)) i rw z.1) (fun z => rw.length - z.1) ⟨0, by simp⟩ (view_of (vw [] [] [] []) (by simp [sdB, sdA, sayL])) (fun z => ?_)
        obtain ⟨j, hj⟩ := z
        refine AW.at_ (fun L hL => ?_)
        simp [sdB, sdA] at hL
        subst hL
        with_reducible repeat first | refine Jt.i ?_ | refine .g (by decide) ?_
        by_cases hgo2 : j < rw.length
        · obtain ⟨p, hp⟩ : ∃ p, rw[j] = p := ⟨_, rfl⟩
          have hwp : wfP p := hwr p (by rw [← hp]; exact List.getElem_mem hgo2)
          have SS := sayL_take f0 i rw hgo2
          rw [hp] at SS
          have NA : n0 + (j + 1) = n0 + j + 1 := rfl
          have w5 : IntKind.i64.wrap ((j : Int) + 1) = ((j + 1 : Nat) : Int) := by rw [i64_ok _ (by omega) (by omega)]; omega
          generalize sayL f0 i (rw.take j) = g at *
          refine AW.rc 200 fun K hK => ?_
          repeat (with_reducible refine .s fun X Y Z W => ?_; simp [hgo2]; (first | refine Z.out _ _ ?_ | refine W.out _ ?_ | refine ⟨by kernel_rfl, W.out _ ?_⟩); clear Z W X Y; simp [hgo2]); (try refine .n ?_)
          refine Jt.f hK ?_
          clear hK K
          with_reducible repeat first | refine Jt.i ?_ | refine .g (by decide) ?_
          refine AW.ct rfl ?_
          with_reducible repeat first | refine Jt.i ?_ | refine .g (by decide) ?_
          refine AW.rc 210 fun K hK => ?_
          repeat (with_reducible refine .s fun X Y Z W => ?_; simp [hgo2]; (first | refine Z.out _ _ ?_ | refine W.out _ ?_ | refine ⟨by kernel_rfl, W.out _ ?_⟩); clear Z W X Y; simp [hgo2]); (try refine .n ?_)
          refine .s fun K1 K2 hK1 hK2 => ?_
          simp [hgo2]
          refine ⟨j, PD p, rfl, by simp [hgo2, hp], ?_⟩
          refine hK1.out _ _ ?_
          clear hK1 hK2 K1 K2
          (try simp [hgo2])
          repeat (with_reducible refine .s fun X Y Z W => ?_; simp [hgo2]; (first | refine Z.out _ _ ?_ | refine W.out _ ?_ | refine ⟨by kernel_rfl, W.out _ ?_⟩); clear Z W X Y; simp [hgo2]); (try refine .n ?_)
          refine Jt.f hK ?_
          clear hK K
          with_reducible repeat first | refine Jt.i ?_ | refine .g (by decide) ?_
          refine AW.rc 220 fun K hK => ?_
          repeat (with_reducible refine .s fun X Y Z W => ?_; simp; (first | refine Z.out _ _ ?_ | refine W.out _ ?_ | refine ⟨by kernel_rfl, W.out _ ?_⟩); clear Z W X Y; simp); (try refine .n ?_)
          refine .s fun K1 K2 hK1 hK2 => ?_
          simp
          refine hatch_look rfl rfl rfl hwp ?_
          refine hK1.out _ _ ?_
          clear hK1 hK2 K1 K2
          (try simp)
          repeat (with_reducible refine .s fun X Y Z W => ?_; simp; (first | refine Z.out _ _ ?_ | refine W.out _ ?_ | refine ⟨by kernel_rfl, W.out _ ?_⟩); clear Z W X Y; simp); (try refine .n ?_)
          refine Jt.f hK ?_
          clear hK K
          with_reducible repeat first | refine Jt.i ?_ | refine .g (by decide) ?_
          cases hs : (g p).isSome with
          | true =>
            have SS' : sayL f0 i (rw.take (j + 1)) = g := by rw [SS]; unfold sayP; rw [if_pos hs]
            refine AW.rc 240 fun K hK => ?_
            repeat (with_reducible refine .s fun X Y Z W => ?_; simp [hs]; (first | refine Z.out _ _ ?_ | refine W.out _ ?_ | refine ⟨by kernel_rfl, W.out _ ?_⟩); clear Z W X Y; simp [hs]); (try refine .n ?_)
            refine Jt.f hK ?_
            clear hK K
            with_reducible repeat first | refine Jt.i ?_ | refine .g (by decide) ?_
            refine AW.cf rfl ?_
            with_reducible repeat first | refine Jt.i ?_ | refine .g (by decide) ?_
            refine AW.openC (X := Unit) (ψ := fun _ => .st (mapF b (n0 + j + 1) g)) 1 0 rfl (by simp [lk]) (fun Z w v h => ⟨(), mapF_le (by omega) h⟩) (fun _ => ?_)
            refine AW.rc 270 fun K hK => ?_
            repeat (with_reducible refine .s fun X Y Z W => ?_; simp [w5]; (first | refine Z.out _ _ ?_ | refine W.out _ ?_ | refine ⟨by kernel_rfl, W.out _ ?_⟩); clear Z W X Y; simp [w5]); (try refine .n ?_)
            refine Jt.f hK ?_
            clear hK K
            with_reducible repeat first | refine Jt.i ?_ | refine .g (by decide) ?_
            exact NX.round ⟨j + 1, hgo2⟩ (by show rw.length - (j + 1) < rw.length - j; omega) (view_of (vw [] [] [] []) (by simp [sdB, sdA, SS', NA]))
          | false =>
            have SS' : sayL f0 i (rw.take (j + 1)) = updF g p i := by rw [SS]; unfold sayP; rw [if_neg (by rw [hs]; simp)]
            refine AW.rc 240 fun K hK => ?_
            repeat (with_reducible refine .s fun X Y Z W => ?_; simp [hs]; (first | refine Z.out _ _ ?_ | refine W.out _ ?_ | refine ⟨by kernel_rfl, W.out _ ?_⟩); clear Z W X Y; simp [hs]); (try refine .n ?_)
            refine Jt.f hK ?_
            clear hK K
            with_reducible repeat first | refine Jt.i ?_ | refine .g (by decide) ?_
            refine AW.ct rfl ?_
            with_reducible repeat first | refine Jt.i ?_ | refine .g (by decide) ?_
            refine AW.rc 250 fun K hK => ?_
            repeat (with_reducible refine .s fun X Y Z W => ?_; simp [keptC]; (first | refine Z.out _ _ ?_ | refine W.out _ ?_ | refine ⟨by kernel_rfl, W.out _ ?_⟩); clear Z W X Y; simp [keptC]); (try refine .n ?_)
            refine .s fun K1 K2 hK1 hK2 => ?_
            simp [keptC]
            refine hatch_put [(1, 0)] rfl rfl rfl rfl rfl rfl (by simp [lk]) hwp hwi (by unfold maxLen; omega) ?_
            refine hK1.out _ _ ?_
            clear hK1 hK2 K1 K2
            (try simp [keptC])
            repeat (with_reducible refine .s fun X Y Z W => ?_; simp [keptC]; (first | refine Z.out _ _ ?_ | refine W.out _ ?_ | refine ⟨by kernel_rfl, W.out _ ?_⟩); clear Z W X Y; simp [keptC]); (try refine .n ?_)
            refine Jt.f hK ?_
            clear hK K
            with_reducible repeat first | refine Jt.i ?_ | refine .g (by decide) ?_
            refine AW.rc 270 fun K hK => ?_
            repeat (with_reducible refine .s fun X Y Z W => ?_; simp [w5]; (first | refine Z.out _ _ ?_ | refine W.out _ ?_ | refine ⟨by kernel_rfl, W.out _ ?_⟩); clear Z W X Y; simp [w5]); (try refine .n ?_)
            refine Jt.f hK ?_
            clear hK K
            with_reducible repeat first | refine Jt.i ?_ | refine .g (by decide) ?_
            exact NX.round ⟨j + 1, hgo2⟩ (by show rw.length - (j + 1) < rw.length - j; omega) (view_of (vw [] [(900, [253])] [] []) (by simp [sdB, sdA, SS', NA]))
        · obtain rfl : j = rw.length := by omega
          rw [List.take_length, ← FS, ← NS]
          refine AW.rc 300 fun K hK => ?_
          repeat (with_reducible refine .s fun X Y Z W => ?_; simp; (first | refine Z.out _ _ ?_ | refine W.out _ ?_ | refine ⟨by kernel_rfl, W.out _ ?_⟩); clear Z W X Y; simp); (try refine .n ?_)
          refine Jt.f hK ?_
          clear hK K
          with_reducible repeat first | refine Jt.i ?_ | refine .g (by decide) ?_
          refine AW.cf rfl ?_
          with_reducible repeat first | refine Jt.i ?_ | refine .g (by decide) ?_
          refine AW.rc 310 fun K hK => ?_
          repeat (with_reducible refine .s fun X Y Z W => ?_; simp [w6]; (first | refine Z.out _ _ ?_ | refine W.out _ ?_ | refine ⟨by kernel_rfl, W.out _ ?_⟩); clear Z W X Y; simp [w6]); (try refine .n ?_)
          refine Jt.f hK ?_
          clear hK K
          with_reducible repeat first | refine Jt.i ?_ | refine .g (by decide) ?_
          exact NX.round ⟨i + 1, by omega⟩ (by show 2 - (i + 1) < 2 - i; omega) (view_of (vw [] [] [] []) (by simp [sdA]))
      · obtain rfl : i = 2 := by omega
        refine AW.rc 400 fun K hK => ?_
        repeat (with_reducible refine .s fun X Y Z W => ?_; simp; (first | refine Z.out _ _ ?_ | refine W.out _ ?_ | refine ⟨by kernel_rfl, W.out _ ?_⟩); clear Z W X Y; simp); (try refine .n ?_)
        refine Jt.f hK ?_
        clear hK K
        with_reducible repeat first | refine Jt.i ?_ | refine .g (by decide) ?_
        refine AW.cf rfl ?_
        with_reducible repeat first | refine Jt.i ?_ | refine .g (by decide) ?_
        have e1 : stepF F t 2 = saidK l (k + 1) := SK.symm
        have e2 : stepN n t 2 = pairsN (l.reverse.take (k + 1)) := PN.symm
        rw [e1, e2]
        exact (view_of (vw [] [] [] []) (by simp [sdM, sdN]))
    · kernel_rfl
  · refine NX.view (L' := (.df, .df 1) :: tmOf (sdN b (pairsN l) (saidF l))) (by rw [show (toldN l).length = l.reverse.length by simp [toldN]]; simp only [sdM, saidK, List.take_length, pairsN_rev]; exact fun _ _ h => h) ?_
    simp only [sdN, tmOf]
    with_reducible repeat first | refine Jt.i ?_ | refine .g (by decide) ?_
    refine AW.openC (X := Unit) (ψ := fun _ => .st (mapE (pairsN l) (saidF l))) 1 0 rfl (by simp [lk]) (fun Z w v h => ⟨(), mapF_E h⟩) (fun _ => ?_)
    refine AW.rc 500 fun K hK => ?_
    repeat (with_reducible refine .s fun X Y Z W => ?_; simp; (first | refine Z.out _ _ ?_ | refine W.out _ ?_ | refine ⟨by kernel_rfl, W.out _ ?_⟩); clear Z W X Y; simp); (try refine .n ?_)
    refine Jt.f hK ?_
    clear hK K
    with_reducible repeat first | refine Jt.i ?_ | refine .g (by decide) ?_
    refine nx_ret (T := ty) (rs := [.tmp 2]) (zs := [900]) (ds := [.c (.st (mapE (pairsN l) (saidF l)))]) (rr := [(.zn 900, .zn .live)]) (.inr rfl) rfl (by kernel_rfl) (by kernel_rfl) (by simp) rfl
end Go.Proofs.Ytlkdkhmdmgchbaa
namespace Go.Proofs.Ytlkdkhmdmgchbaa
set_option linter.unusedSimpArgs false
set_option linter.unusedVariables false
theorem sayP_is (f : Pr → Option Int) (x : Int) (p q : Pr) : sayP f x p q = if f q = none ∧ q = p then some x else f q := by
  unfold sayP updF
  by_cases hp : (f p).isSome
  · rw [if_pos hp, if_neg]
    rintro ⟨h1, rfl⟩
    rw [h1] at hp; cases hp
  · rw [if_neg hp]
    by_cases e : q = p
    · subst e
      have : f q = none := by simpa using hp
      simp [this]
    · simp [e]
theorem sayL_is (x : Int) : ∀ (l : List Pr) (f : Pr → Option Int) (q : Pr), sayL f x l q = if f q = none ∧ q ∈ l then some x else f q
  | [], f, q => by simp [sayL]
  | p :: l, f, q => by
    show sayL (sayP f x p) x l q = _
    rw [sayL_is x l, sayP_is]
    by_cases h1 : f q = none
    · by_cases h2 : q = p
      · subst h2; simp [h1]
      · simp [h1, h2]
    · simp [h1]
theorem sayT_is (f : Pr → Option Int) (t : Tr) (q : Pr) : sayT f t q = if f q = none then (if q ∈ t.2 then some 0 else if q ∈ t.1 then some 1 else none) else f q := by
  unfold sayT
  rw [sayL_is, sayL_is]
  by_cases h1 : f q = none
  · by_cases h2 : q ∈ t.2
    · simp [h1, h2]
    · by_cases h3 : q ∈ t.1 <;> simp [h1, h2, h3]
  · simp [h1]
theorem foldT_is : ∀ (l : List Tr) (f : Pr → Option Int) (q : Pr), l.foldl sayT f q = if f q = none then l.foldl sayT (fun _ => none) q else f q
  | [], f, q => by by_cases h : f q = none <;> simp [h]
  | t :: l, f, q => by
    simp only [List.foldl_cons]
    rw [foldT_is l (sayT f t), foldT_is l (sayT (fun _ => none) t)]
    simp only [sayT_is]
    by_cases h1 : f q = none
    · simp [h1]
    · simp [h1]
theorem saidF_nil (q : Pr) : saidF [] q = none := rfl
theorem saidF_snoc (l : List Tr) (t : Tr) (q : Pr) : saidF (l ++ [t]) q = if q ∈ t.2 then some 0 else if q ∈ t.1 then some 1 else saidF l q := by
  unfold saidF
  rw [List.reverse_append, List.reverse_singleton, List.singleton_append, List.foldl_cons, foldT_is, sayT_is]
  by_cases h2 : q ∈ t.2
  · simp [h2]
  · by_cases h3 : q ∈ t.1 <;> simp [h2, h3]
theorem foldT_mem : ∀ (l : List Tr) (q : Pr) (x : Int), l.foldl sayT (fun _ => none) q = some x → (x = 0 ∨ x = 1) ∧ ∃ t ∈ l, q ∈ t.1 ∨ q ∈ t.2
  | [], q, x, h => by cases h
  | t :: l, q, x, h => by
    rw [List.foldl_cons, foldT_is, sayT_is] at h
    by_cases h2 : q ∈ t.2
    · simp [h2] at h
      exact ⟨.inl h.symm, t, by simp, .inr h2⟩
    · by_cases h3 : q ∈ t.1
      · simp [h2, h3] at h
        exact ⟨.inr h.symm, t, by simp, .inl h3⟩
      · simp [h2, h3] at h
        obtain ⟨a, t', b, c⟩ := foldT_mem l q x h
        exact ⟨a, t', by simp [b], c⟩
theorem saidF_mem (l : List Tr) (q : Pr) (x : Int) (h : saidF l q = some x) : (x = 0 ∨ x = 1) ∧ ∃ t ∈ l, q ∈ t.1 ∨ q ∈ t.2 := by
  obtain ⟨a, t, b, c⟩ := foldT_mem _ q x h
  exact ⟨a, t, by simpa using b, c⟩
/-- the pairs of tiers. -/
def flatL (l : List Tr) : List Pr := l.flatMap fun t => t.1 ++ t.2
/-- those of which tiers say so, in order. -/
def whichL (l : List Tr) (x : Int) : List Pr := ofL ((flatL l).filter fun p => decide (saidF l p = some x))
theorem whichL_rises (l : List Tr) (x : Int) : Rises (whichL l x) := ofL_rises _
theorem whichL_mem (l : List Tr) (x : Int) (p : Pr) : p ∈ whichL l x ↔ saidF l p = some x := by
  unfold whichL
  rw [ofL_mem, List.mem_filter, decide_eq_true_eq]
  refine ⟨fun h => h.2, fun h => ⟨?_, h⟩⟩
  obtain ⟨_, t, ht, hp⟩ := saidF_mem l p x h
  exact List.mem_flatMap.2 ⟨t, ht, by simpa using hp⟩
theorem flatL_len (l : List Tr) : (flatL l).length = pairsN l := by
  unfold flatL pairsN pairsT
  rw [List.length_flatMap]
  congr 1
  refine List.map_congr_left fun t _ => ?_
  simp [Nat.add_comm]
theorem whichL_len (l : List Tr) (x : Int) : (whichL l x).length ≤ pairsN l := by
  unfold whichL
  have h1 := ofL_len ((flatL l).filter fun p => decide (saidF l p = some x))
  have h2 := List.length_filter_le (fun p => decide (saidF l p = some x)) (flatL l)
  rw [flatL_len] at h2
  omega
end Go.Proofs.Ytlkdkhmdmgchbaa
namespace Go.Proofs.Ytlkdkhmdmgchbaa
set_option linter.unusedSimpArgs false
set_option linter.unusedVariables false
open Go.RowKit
attribute [local simp ↓] gav_bool gav_undef arun_nil ob_some kva_av kfree_free khfree_free khown_own klive_live knm_false chk_true ya_true gsel_tt gsel_ff gsel_tf gsel_ft vb_bool vi_int vstr_string avps_ptr avps_seg avp_ptr avagg_agg avtup_tup avb_bool avown_own shs_struct shsa_struct shsa_arr sharr_arr shl_slice shla_slice shla_arr shls_slice shls_str shi_int bc_true bc_false hd1_cons opc_some opc_none opn_some opn_none unc_not unc_neg gd_none gd_some as_move as_assign as_pick as_bin as_un as_conv as_load as_faddr as_field as_extract as_iaddr as_slice as_alloc as_box as_store as_build as_rows as_call as_append as_lookup as_mapUpdate as_makeMap as_range as_next as_entry as_index as_fn as_len as_min as_max stMove stPick stBin stUn stConv stLoad stFaddr stField stExtract stIaddr stSlice stAlloc stBox stStore stBuild stIndex stRows stCall stAppend stFn stLen stMin stMax opd_tmp opd_const opd_func rawL_nil rawL_cons raw_c raw_st raw_a opr_e zr_nil zr_cons lvd_live hod_own obd_some obd_none kvd_av chd_true vid_int lk_cons lk_nil ins_nil ins_cons cells_zero cells_succ spread1_c spread1_own spread1_ptr spread1_fn spread1_seg spreadL_nil spreadL_cons spread_agg spread_c spread_own spread_seg spread_ptr spread_fn ex_zero ex_succ ops_e opb_none opb_int spreadD_agg spreadD_c spreadD_own spreadD_seg fillO_nil fillO_cons argsOf_nil argsOf_cons dvOf_c dvOf_seg dvOf_own dvOf_agg zrL_nil zrL_cons hdd_c hdd_seg hdd_own clz_e clv_raw clv_f callD_e dst0_n dst0_nil dst0_own goneH_e capc_ptr capc_seg capc_c capN_nil capN_cons capD_nil capD_cons deadZ_nil deadZ_cons
attribute [local simp] dok_some dok_none dflt_tmp dflt_vt dflt_cell dflt_zn dflt_nm dflt_hd dflt_df puts_nil puts_cons wr_some wr_none cst_agg cst_int cst_bool cst_string cst_slice cst_tuple cst_nilFunc cst_pointer cst_func bin_add bin_sub bin_mul bin_quo bin_rem bin_eql bin_neq bin_lss bin_leq bin_gtr bin_geq bin_bool bin_aggs binT_bool binT_aggs shbd_bool eqb_eql eqb_neq bin_slice bin_str_eql bin_str_neq bin_str_lss bin_str_add nz_v nz_n nz_s nz_p nz_f nz_st atz_v atz_n atz_s atz_p atz_f atz_st atz_agg atR_one atR_tup crow_nil crow_cons slc_c slc_n slc_own slc_nil raws setR placesT_nil placesT_cons zc chunk zsAll ocD_v ocD_n ocD_s ocD_p ocD_f ocD_st nrm_v nrm_n nrm_s nrm_p nrm_f nrm_st isV_one isV_tup isV_c isV_agg isV_v isV_n isV_s isV_p isV_f isV_st argRows Sh.agg zds_nil zds_e zds_v zds_s vcells_agg vcells_int vcells_bool vcells_string vcells_slice vcells_pointer toList_lit map_nilL map_consL nzr_e rowsOc_nil rowsOc_cons rowsOc_RD nzr_RD foks_nil foks_cons fok_tmp fok_vt fok_cell fok_nm fok_zn fok_hd fok_df Fv_c Fv_seg Fv_tup Fv_agg Fv_ptr Fv_ptrs Fv_fn Fv_fnd Fv_own Fv_ownd Fv_nown Fv_vown FvL_nil FvL_cons kvp_av hdp_some subz frz Uz Nm Uh vw_nb vw_zo vw_zf vw_hb tb_nil tb_cons fzc_nil fzc_cons fzcaps_nil fzcaps_cons ty2 ty3 ty4 ty5 ty6 ty7 ty8 ty9 ty10 ty11 ty12 ty13 ty14 ty15 ty16 ty17 ty18 ty19 ty20 ty21 ty22 ty23 ty24 ty25 ty26 ty27 ty30 ty40 ty48 ty50 ty51 ty52 ty55 ty57 ty62 ty63 ty85 ty94 ty101 ty121 ty122 ty123 ty124 ty125 ty126 ty128 ty148 ty149 ty151 ty164 ty165 ty179 ty182 ty196 ty203 ty205 ty209 ty211 ty215 ty216 ty217 ty218 ty219 ty220 ty221 ty223 ty224 ty225 ty226 ty227 Value.oneCell'
set_option maxRecDepth 100000
set_option maxHeartbeats 4000000 in
theorem joined1_ct {n : Nat} {f : Pr → Option Int} {which : Int} {R : List Pr} (hR : Rises R) (hm : ∀ p, p ∈ R ↔ f p = some which) (hn : n ≤ 1000000) : Ct Try.prog 163 [dI which, .c (.p [.st (mapE n f)])] (some 52) (.one (.c (RD R))) := by
  have c1 := those_ct hR hm hn
  refine ct_intro Try.func163 rfl Try.ntmps163 (by simp) (fun W0 Z => ?_)
  with_reducible repeat first | refine Jt.i ?_ | refine .g (by decide) ?_
  refine AW.at_ (fun L hL => ?_)
  simp at hL
  subst hL
  refine AW.rc 1 fun K hK => ?_
  repeat (with_reducible refine .s fun X Y Z W => ?_; simp; (first | refine Z.out _ _ ?_ | refine W.out _ ?_ | refine ⟨by kernel_rfl, W.out _ ?_⟩); clear Z W X Y; simp); (try refine .n ?_)
  refine Jt.f hK ?_
  clear hK K
  with_reducible repeat first | refine Jt.i ?_ | refine .g (by decide) ?_
  refine AW.rc 10 fun K hK => ?_
  repeat (with_reducible refine .s fun X Y Z W => ?_; simp; (first | refine Z.out _ _ ?_ | refine W.out _ ?_ | refine ⟨by kernel_rfl, W.out _ ?_⟩); clear Z W X Y; simp); (try refine .n ?_)
  refine .s fun K1 K2 hK1 hK2 => ?_
  simp
  refine orr_l ⟨by kernel_rfl, .inr (.inl ⟨_, _, _, c1, ?_⟩)⟩
  (try simp)
  refine hK1.out _ _ ?_
  clear hK1 hK2 K1 K2
  (try simp)
  repeat (with_reducible refine .s fun X Y Z W => ?_; simp; (first | refine Z.out _ _ ?_ | refine W.out _ ?_ | refine ⟨by kernel_rfl, W.out _ ?_⟩); clear Z W X Y; simp); (try refine .n ?_)
  refine Jt.f hK ?_
  clear hK K
  with_reducible repeat first | refine Jt.i ?_ | refine .g (by decide) ?_
  exact nx_reto (t := 3) (n := 12) (y := 12) (zs := [100012]) (rr := [(.zn 12, .zn .live), (.zn 100012, .zn .live)]) (.inr rfl) rfl (by kernel_rfl) (by kernel_rfl) (by kernel_rfl) (by simp) rfl
def jdS (n : Nat) (f : Pr → Option Int) (ob : Bool) : Row := [(.zn 0, .zn .live), (.zn 900, .zn .live), (.tmp 1, .av (.c [] (.v (.bool ob)))), (.nm 1, .nm true), (.cell 1 0, .av (.c [] (.n 2))), (.cell 1 1, .av (.c [] (.n 2))), (.tmp 4, .av (.ptr 1 0)), (.tmp 7, .av (.c [900] (.f 163 [.p [.st (mapE n f)]])))]
set_option maxHeartbeats 8000000 in
theorem joined_ct (l : List Tr) (ob : Bool) (hw : ∀ t ∈ l, wfT t) (hn : pairsN l ≤ 1000000) : Ct Try.prog 143 [.c (TsD l), dB ob] none (.tup [TD (whichL l 1, if ob then [] else whichL l 0), dI 0]) := by
  have cs := said_ct l hw hn
  have c1 := joined1_ct (whichL_rises l 1) (whichL_mem l 1) hn
  have c0 := joined1_ct (whichL_rises l 0) (whichL_mem l 0) hn
  have h1 := whichL_len l 1
  have h0 := whichL_len l 0
  generalize whichL l 1 = A at *
  generalize whichL l 0 = B at *
  generalize saidF l = f at *
  generalize pairsN l = n at *
  refine ct_intro Try.func143 rfl Try.ntmps143 (by simp) (fun W0 Z => ?_)
  with_reducible repeat first | refine Jt.i ?_ | refine .g (by decide) ?_
  refine AW.at_ (fun L hL => ?_)
  simp at hL
  subst hL
  refine AW.rc 1 fun K hK => ?_
  repeat (with_reducible refine .s fun X Y Z W => ?_; simp; (first | refine Z.out _ _ ?_ | refine W.out _ ?_ | refine ⟨by kernel_rfl, W.out _ ?_⟩); clear Z W X Y; simp); (try refine .n ?_)
  refine Jt.f hK ?_
  clear hK K
  with_reducible repeat first | refine Jt.i ?_ | refine .g (by decide) ?_
  refine AW.rc 10 fun K hK => ?_
  repeat (with_reducible refine .s fun X Y Z W => ?_; simp [vcells_map]; (first | refine Z.out _ _ ?_ | refine W.out _ ?_ | refine ⟨by kernel_rfl, W.out _ ?_⟩); clear Z W X Y; simp [vcells_map]); (try refine .n ?_)
  refine .s fun K1 K2 hK1 hK2 => ?_
  simp [vcells_map]
  refine orr_l ⟨by kernel_rfl, .inl ⟨_, cs, ?_⟩⟩
  (try simp [vcells_map])
  refine hK1.out _ _ ?_
  clear hK1 hK2 K1 K2
  (try simp [vcells_map])
  repeat (with_reducible refine .s fun X Y Z W => ?_; simp [vcells_map]; (first | refine Z.out _ _ ?_ | refine W.out _ ?_ | refine ⟨by kernel_rfl, W.out _ ?_⟩); clear Z W X Y; simp [vcells_map]); (try refine .n ?_)
  refine Jt.f hK ?_
  clear hK K
  with_reducible repeat first | refine Jt.i ?_ | refine .g (by decide) ?_
  refine AW.rc 20 fun K hK => ?_
  repeat (with_reducible refine .s fun X Y Z W => ?_; simp; (first | refine Z.out _ _ ?_ | refine W.out _ ?_ | refine ⟨by kernel_rfl, W.out _ ?_⟩); clear Z W X Y; simp); (try refine .n ?_)
  refine Jt.f hK ?_
  clear hK K
  with_reducible repeat first | refine Jt.i ?_ | refine .g (by decide) ?_
  refine AW.view (L' := jdS n f ob) (view_of (vw [] [(900, [11])] [(900, [12])] []) (by simp [jdS])) ?_
  refine AW.at_ (fun L hL => ?_)
  simp [jdS] at hL
  subst hL
  with_reducible repeat first | refine Jt.i ?_ | refine .g (by decide) ?_
  refine AW.rc 30 fun K hK => ?_
  repeat (with_reducible refine .s fun X Y Z W => ?_; simp; (first | refine Z.out _ _ ?_ | refine W.out _ ?_ | refine ⟨by kernel_rfl, W.out _ ?_⟩); clear Z W X Y; simp); (try refine .n ?_)
  refine .s fun K1 K2 hK1 hK2 => ?_
  simp
  refine orr_l ⟨by kernel_rfl, .inr (.inl ⟨_, _, _, c1, ?_⟩)⟩
  (try simp)
  refine hK1.out _ _ ?_
  clear hK1 hK2 K1 K2
  (try simp)
  repeat (with_reducible refine .s fun X Y Z W => ?_; simp; (first | refine Z.out _ _ ?_ | refine W.out _ ?_ | refine ⟨by kernel_rfl, W.out _ ?_⟩); clear Z W X Y; simp); (try refine .n ?_)
  refine Jt.f hK ?_
  clear hK K
  with_reducible repeat first | refine Jt.i ?_ | refine .g (by decide) ?_
  cases ob with
  | true =>
    refine AW.rc 40 fun K hK => ?_
    repeat (with_reducible refine .s fun X Y Z W => ?_; simp; (first | refine Z.out _ _ ?_ | refine W.out _ ?_ | refine ⟨by kernel_rfl, W.out _ ?_⟩); clear Z W X Y; simp); (try refine .n ?_)
    refine Jt.f hK ?_
    clear hK K
    with_reducible repeat first | refine Jt.i ?_ | refine .g (by decide) ?_
    refine AW.cf rfl ?_
    with_reducible repeat first | refine Jt.i ?_ | refine .g (by decide) ?_
    have g1 : ¬ (1048576 : Int) < (A.length : Int) := by omega
    have g2 : ¬ 1048576 < A.length := by omega
    have g3 : ¬ (A.length : Int) < 0 := by omega
    refine AW.rc 60 fun K hK => ?_
    repeat (with_reducible refine .s fun X Y Z W => ?_; simp [g1, g2, g3]; (first | refine Z.out _ _ ?_ | refine W.out _ ?_ | refine ⟨by kernel_rfl, W.out _ ?_⟩); clear Z W X Y; simp [g1, g2, g3]); (try refine .n ?_)
    refine Jt.f hK ?_
    clear hK K
    with_reducible repeat first | refine Jt.i ?_ | refine .g (by decide) ?_
    refine AW.cf rfl ?_
    with_reducible repeat first | refine Jt.i ?_ | refine .g (by decide) ?_
    refine AW.rc 80 fun K hK => ?_
    repeat (with_reducible refine .s fun X Y Z W => ?_; simp; (first | refine Z.out _ _ ?_ | refine W.out _ ?_ | refine ⟨by kernel_rfl, W.out _ ?_⟩); clear Z W X Y; simp); (try refine .n ?_)
    refine Jt.f hK ?_
    clear hK K
    with_reducible repeat first | refine Jt.i ?_ | refine .g (by decide) ?_
    refine nx_ret (T := ty) (rs := [.cell 4 24, .tmp 5]) (zs := [31, 100031]) (ds := [TD (A, []), dI 0]) (rr := [(.zn 31, .zn .live), (.zn 100031, .zn .live)]) (.inr rfl) rfl (by kernel_rfl) (by kernel_rfl) (by simp) rfl
  | false =>
    refine AW.rc 40 fun K hK => ?_
    repeat (with_reducible refine .s fun X Y Z W => ?_; simp; (first | refine Z.out _ _ ?_ | refine W.out _ ?_ | refine ⟨by kernel_rfl, W.out _ ?_⟩); clear Z W X Y; simp); (try refine .n ?_)
    refine Jt.f hK ?_
    clear hK K
    with_reducible repeat first | refine Jt.i ?_ | refine .g (by decide) ?_
    refine AW.ct rfl ?_
    with_reducible repeat first | refine Jt.i ?_ | refine .g (by decide) ?_
    refine AW.rc 50 fun K hK => ?_
    repeat (with_reducible refine .s fun X Y Z W => ?_; simp; (first | refine Z.out _ _ ?_ | refine W.out _ ?_ | refine ⟨by kernel_rfl, W.out _ ?_⟩); clear Z W X Y; simp); (try refine .n ?_)
    refine .s fun K1 K2 hK1 hK2 => ?_
    simp
    refine orr_l ⟨by kernel_rfl, .inr (.inl ⟨_, _, _, c0, ?_⟩)⟩
    (try simp)
    refine hK1.out _ _ ?_
    clear hK1 hK2 K1 K2
    (try simp)
    repeat (with_reducible refine .s fun X Y Z W => ?_; simp; (first | refine Z.out _ _ ?_ | refine W.out _ ?_ | refine ⟨by kernel_rfl, W.out _ ?_⟩); clear Z W X Y; simp); (try refine .n ?_)
    refine Jt.f hK ?_
    clear hK K
    with_reducible repeat first | refine Jt.i ?_ | refine .g (by decide) ?_
    by_cases hab : A.length < B.length
    · have hab' : (A.length : Int) < (B.length : Int) := by omega
      have g1 : ¬ (1048576 : Int) < (B.length : Int) := by omega
      have g2 : ¬ 1048576 < B.length := by omega
      refine AW.rc 60 fun K hK => ?_
      repeat (with_reducible refine .s fun X Y Z W => ?_; simp [g1, g2, hab, hab']; (first | refine Z.out _ _ ?_ | refine W.out _ ?_ | refine ⟨by kernel_rfl, W.out _ ?_⟩); clear Z W X Y; simp [g1, g2, hab, hab']); (try refine .n ?_)
      refine Jt.f hK ?_
      clear hK K
      with_reducible repeat first | refine Jt.i ?_ | refine .g (by decide) ?_
      refine AW.cf rfl ?_
      with_reducible repeat first | refine Jt.i ?_ | refine .g (by decide) ?_
      refine AW.rc 80 fun K hK => ?_
      repeat (with_reducible refine .s fun X Y Z W => ?_; simp; (first | refine Z.out _ _ ?_ | refine W.out _ ?_ | refine ⟨by kernel_rfl, W.out _ ?_⟩); clear Z W X Y; simp); (try refine .n ?_)
      refine Jt.f hK ?_
      clear hK K
      with_reducible repeat first | refine Jt.i ?_ | refine .g (by decide) ?_
      refine nx_ret (T := ty) (rs := [.cell 4 24, .tmp 5]) (zs := [31, 100031, 51, 100051]) (ds := [TD (A, B), dI 0]) (rr := [(.zn 31, .zn .live), (.zn 100031, .zn .live), (.zn 51, .zn .live), (.zn 100051, .zn .live)]) (.inr rfl) rfl (by kernel_rfl) (by kernel_rfl) (by simp) rfl
    · have hab' : ¬ (A.length : Int) < (B.length : Int) := by omega
      have g1 : ¬ (1048576 : Int) < (A.length : Int) := by omega
      have g2 : ¬ 1048576 < A.length := by omega
      refine AW.rc 60 fun K hK => ?_
      repeat (with_reducible refine .s fun X Y Z W => ?_; simp [g1, g2, hab, hab']; (first | refine Z.out _ _ ?_ | refine W.out _ ?_ | refine ⟨by kernel_rfl, W.out _ ?_⟩); clear Z W X Y; simp [g1, g2, hab, hab']); (try refine .n ?_)
      refine Jt.f hK ?_
      clear hK K
      with_reducible repeat first | refine Jt.i ?_ | refine .g (by decide) ?_
      refine AW.cf rfl ?_
      with_reducible repeat first | refine Jt.i ?_ | refine .g (by decide) ?_
      refine AW.rc 80 fun K hK => ?_
      repeat (with_reducible refine .s fun X Y Z W => ?_; simp; (first | refine Z.out _ _ ?_ | refine W.out _ ?_ | refine ⟨by kernel_rfl, W.out _ ?_⟩); clear Z W X Y; simp); (try refine .n ?_)
      refine Jt.f hK ?_
      clear hK K
      with_reducible repeat first | refine Jt.i ?_ | refine .g (by decide) ?_
      refine nx_ret (T := ty) (rs := [.cell 4 24, .tmp 5]) (zs := [31, 100031, 51, 100051]) (ds := [TD (A, B), dI 0]) (rr := [(.zn 31, .zn .live), (.zn 100031, .zn .live), (.zn 51, .zn .live), (.zn 100051, .zn .live)]) (.inr rfl) rfl (by kernel_rfl) (by kernel_rfl) (by simp) rfl
theorem keepsmall {t u : Tr} (ht : wfT t) (hu : wfT u) : ∀ x ∈ [t, u], wfT x := fun x hx => by
  simp at hx
  rcases hx with rfl | rfl <;> assumption
set_option maxHeartbeats 4000000 in
theorem join_ct (t u : Tr) (ob : Bool) (h1 : oneL t = true) (h2 : oneL u = true) (ht : wfT t) (hu : wfT u) (s1 : pairsT t ≤ 100000) (s2 : pairsT u ≤ 100000) : Ct Try.prog 90 [TD t, TD u, dB ob] none (.tup [TD (whichL [t, u] 1, if ob then [] else whichL [t, u] 0), dI 0]) := by
  have hp : pairsN [t, u] ≤ 1000000 := by unfold pairsN; simp; omega
  have cj := joined_ct [t, u] ob (keepsmall ht hu) hp
  have c1 := tone_ct t (by unfold pairsT at s1; omega)
  have c2 := tone_ct u (by unfold pairsT at s2; omega)
  rw [h1] at c1
  rw [h2] at c2
  generalize whichL [t, u] 1 = A at *
  generalize (if ob then [] else whichL [t, u] 0) = B at *
  refine ct_intro Try.func90 rfl Try.ntmps90 (by simp) (fun W0 Z => ?_)
  with_reducible repeat first | refine Jt.i ?_ | refine .g (by decide) ?_
  refine AW.at_ (fun L hL => ?_)
  simp at hL
  subst hL
  refine AW.rc 1 fun K hK => ?_
  repeat (with_reducible refine .s fun X Y Z W => ?_; simp; (first | refine Z.out _ _ ?_ | refine W.out _ ?_ | refine ⟨by kernel_rfl, W.out _ ?_⟩); clear Z W X Y; simp); (try refine .n ?_)
  refine Jt.f hK ?_
  clear hK K
  with_reducible repeat first | refine Jt.i ?_ | refine .g (by decide) ?_
  refine AW.rc 10 fun K hK => ?_
  repeat (with_reducible refine .s fun X Y Z W => ?_; simp; (first | refine Z.out _ _ ?_ | refine W.out _ ?_ | refine ⟨by kernel_rfl, W.out _ ?_⟩); clear Z W X Y; simp); (try refine .n ?_)
  refine .s fun K1 K2 hK1 hK2 => ?_
  simp
  refine orr_l ⟨by kernel_rfl, .inl ⟨_, c1, ?_⟩⟩
  (try simp)
  refine hK1.out _ _ ?_
  clear hK1 hK2 K1 K2
  (try simp)
  repeat (with_reducible refine .s fun X Y Z W => ?_; simp; (first | refine Z.out _ _ ?_ | refine W.out _ ?_ | refine ⟨by kernel_rfl, W.out _ ?_⟩); clear Z W X Y; simp); (try refine .n ?_)
  refine .s fun K1 K2 hK1 hK2 => ?_
  simp
  refine orr_l ⟨by kernel_rfl, .inl ⟨_, c2, ?_⟩⟩
  (try simp)
  refine hK1.out _ _ ?_
  clear hK1 hK2 K1 K2
  (try simp)
  repeat (with_reducible refine .s fun X Y Z W => ?_; simp; (first | refine Z.out _ _ ?_ | refine W.out _ ?_ | refine ⟨by kernel_rfl, W.out _ ?_⟩); clear Z W X Y; simp); (try refine .n ?_)
  refine Jt.f hK ?_
  clear hK K
  with_reducible repeat first | refine Jt.i ?_ | refine .g (by decide) ?_
  refine AW.cf rfl ?_
  with_reducible repeat first | refine Jt.i ?_ | refine .g (by decide) ?_
  refine AW.rc 30 fun K hK => ?_
  repeat (with_reducible refine .s fun X Y Z W => ?_; simp; (first | refine Z.out _ _ ?_ | refine W.out _ ?_ | refine ⟨by kernel_rfl, W.out _ ?_⟩); clear Z W X Y; simp); (try refine .n ?_)
  refine .s fun K1 K2 hK1 hK2 => ?_
  simp
  refine orr_l ⟨by kernel_rfl, .inl ⟨_, cj, ?_⟩⟩
  (try simp)
  refine hK1.out _ _ ?_
  clear hK1 hK2 K1 K2
  (try simp)
  repeat (with_reducible refine .s fun X Y Z W => ?_; simp; (first | refine Z.out _ _ ?_ | refine W.out _ ?_ | refine ⟨by kernel_rfl, W.out _ ?_⟩); clear Z W X Y; simp); (try refine .n ?_)
  refine Jt.f hK ?_
  clear hK K
  with_reducible repeat first | refine Jt.i ?_ | refine .g (by decide) ?_
  refine nx_ret (T := ty) (rs := [.cell 6 24, .tmp 7]) (zs := [34, 34]) (ds := [TD (A, B), dI 0]) (rr := [(.zn 34, .zn .live), (.zn 34, .zn .live)]) (.inr rfl) rfl (by kernel_rfl) (by kernel_rfl) (by simp) rfl
theorem join_ct' (t u : Tr) (ob : Bool) (h : oneL t = false ∨ oneL u = false) (s1 : pairsT t ≤ 100000) (s2 : pairsT u ≤ 100000) : Ct Try.prog 90 [TD t, TD u, dB ob] none (.tup [TD ([], []), dI 210]) := by
  have c1 := tone_ct t (by unfold pairsT at s1; omega)
  have c2 := tone_ct u (by unfold pairsT at s2; omega)
  cases h1 : oneL t with
  | false =>
    rw [h1] at c1
    refine ct_intro Try.func90 rfl Try.ntmps90 (by simp) (fun W0 Z => ?_)
    with_reducible repeat first | refine Jt.i ?_ | refine .g (by decide) ?_
    refine AW.at_ (fun L hL => ?_)
    simp at hL
    subst hL
    refine AW.rc 1 fun K hK => ?_
    repeat (with_reducible refine .s fun X Y Z W => ?_; simp; (first | refine Z.out _ _ ?_ | refine W.out _ ?_ | refine ⟨by kernel_rfl, W.out _ ?_⟩); clear Z W X Y; simp); (try refine .n ?_)
    refine Jt.f hK ?_
    clear hK K
    with_reducible repeat first | refine Jt.i ?_ | refine .g (by decide) ?_
    refine AW.rc 10 fun K hK => ?_
    repeat (with_reducible refine .s fun X Y Z W => ?_; simp; (first | refine Z.out _ _ ?_ | refine W.out _ ?_ | refine ⟨by kernel_rfl, W.out _ ?_⟩); clear Z W X Y; simp); (try refine .n ?_)
    refine .s fun K1 K2 hK1 hK2 => ?_
    simp
    refine orr_l ⟨by kernel_rfl, .inl ⟨_, c1, ?_⟩⟩
    (try simp)
    refine hK1.out _ _ ?_
    clear hK1 hK2 K1 K2
    (try simp)
    repeat (with_reducible refine .s fun X Y Z W => ?_; simp; (first | refine Z.out _ _ ?_ | refine W.out _ ?_ | refine ⟨by kernel_rfl, W.out _ ?_⟩); clear Z W X Y; simp); (try refine .n ?_)
    refine Jt.f hK ?_
    clear hK K
    with_reducible repeat first | refine Jt.i ?_ | refine .g (by decide) ?_
    refine AW.ct rfl ?_
    with_reducible repeat first | refine Jt.i ?_ | refine .g (by decide) ?_
    refine AW.rc 30 fun K hK => ?_
    repeat (with_reducible refine .s fun X Y Z W => ?_; simp; (first | refine Z.out _ _ ?_ | refine W.out _ ?_ | refine ⟨by kernel_rfl, W.out _ ?_⟩); clear Z W X Y; simp); (try refine .n ?_)
    refine Jt.f hK ?_
    clear hK K
    with_reducible repeat first | refine Jt.i ?_ | refine .g (by decide) ?_
    refine nx_ret (T := ty) (rs := [.cell 6 24, .tmp 7]) (zs := []) (ds := [TD ([], []), dI 210]) (rr := []) (.inr rfl) rfl (by kernel_rfl) (by kernel_rfl) (by simp) rfl
  | true =>
    have h2 : oneL u = false := by rcases h with h | h; rw [h1] at h; cases h; exact h
    rw [h1] at c1
    rw [h2] at c2
    refine ct_intro Try.func90 rfl Try.ntmps90 (by simp) (fun W0 Z => ?_)
    with_reducible repeat first | refine Jt.i ?_ | refine .g (by decide) ?_
    refine AW.at_ (fun L hL => ?_)
    simp at hL
    subst hL
    refine AW.rc 1 fun K hK => ?_
    repeat (with_reducible refine .s fun X Y Z W => ?_; simp; (first | refine Z.out _ _ ?_ | refine W.out _ ?_ | refine ⟨by kernel_rfl, W.out _ ?_⟩); clear Z W X Y; simp); (try refine .n ?_)
    refine Jt.f hK ?_
    clear hK K
    with_reducible repeat first | refine Jt.i ?_ | refine .g (by decide) ?_
    refine AW.rc 10 fun K hK => ?_
    repeat (with_reducible refine .s fun X Y Z W => ?_; simp; (first | refine Z.out _ _ ?_ | refine W.out _ ?_ | refine ⟨by kernel_rfl, W.out _ ?_⟩); clear Z W X Y; simp); (try refine .n ?_)
    refine .s fun K1 K2 hK1 hK2 => ?_
    simp
    refine orr_l ⟨by kernel_rfl, .inl ⟨_, c1, ?_⟩⟩
    (try simp)
    refine hK1.out _ _ ?_
    clear hK1 hK2 K1 K2
    (try simp)
    repeat (with_reducible refine .s fun X Y Z W => ?_; simp; (first | refine Z.out _ _ ?_ | refine W.out _ ?_ | refine ⟨by kernel_rfl, W.out _ ?_⟩); clear Z W X Y; simp); (try refine .n ?_)
    refine .s fun K1 K2 hK1 hK2 => ?_
    simp
    refine orr_l ⟨by kernel_rfl, .inl ⟨_, c2, ?_⟩⟩
    (try simp)
    refine hK1.out _ _ ?_
    clear hK1 hK2 K1 K2
    (try simp)
    repeat (with_reducible refine .s fun X Y Z W => ?_; simp; (first | refine Z.out _ _ ?_ | refine W.out _ ?_ | refine ⟨by kernel_rfl, W.out _ ?_⟩); clear Z W X Y; simp); (try refine .n ?_)
    refine Jt.f hK ?_
    clear hK K
    with_reducible repeat first | refine Jt.i ?_ | refine .g (by decide) ?_
    refine AW.ct rfl ?_
    with_reducible repeat first | refine Jt.i ?_ | refine .g (by decide) ?_
    refine AW.rc 30 fun K hK => ?_
    repeat (with_reducible refine .s fun X Y Z W => ?_; simp; (first | refine Z.out _ _ ?_ | refine W.out _ ?_ | refine ⟨by kernel_rfl, W.out _ ?_⟩); clear Z W X Y; simp); (try refine .n ?_)
    refine Jt.f hK ?_
    clear hK K
    with_reducible repeat first | refine Jt.i ?_ | refine .g (by decide) ?_
    refine nx_ret (T := ty) (rs := [.cell 6 24, .tmp 7]) (zs := []) (ds := [TD ([], []), dI 210]) (rr := []) (.inr rfl) rfl (by kernel_rfl) (by kernel_rfl) (by simp) rfl
end Go.Proofs.Ytlkdkhmdmgchbaa
