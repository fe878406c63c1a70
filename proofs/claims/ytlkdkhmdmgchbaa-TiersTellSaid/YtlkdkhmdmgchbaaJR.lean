/- The second logic: runs parted, searched. -/
import Derived.Test.YtlkdkhmdmgchbaaJE
import Derived.Test.YtlkdkhmdmgchbaaH10
import Derived.Laws.StructEq
import Derived.Shelf.SlicesE.Kit
namespace Go.Proofs.Ytlkdkhmdmgchbaa
set_option linter.unusedSimpArgs false
set_option linter.unusedVariables false
open Go.RowKit

set_option maxRecDepth 100000 in
theorem minusp_any (w : World) (va vb : Value) (la lb : List Pr) (ra : PRow w va la) (rb : PRow w vb lb) (hlen : la.length + lb.length ≤ 1048576) :
    Calls Try.prog 76 #[va, vb] w fun e w' => Below w.heap.size w w' ∧ ((rightL la && rightL lb) = false → e = .returned (.tuple #[.slice none 0 0, (.int .i64 (130))])) ∧
      ((rightL la && rightL lb) = true → ∃ v, e = .returned (.tuple #[v, (.int .i64 (0))]) ∧ POwn w.heap.size w' v (keptH (fun x y => x && !y) la lb)) := by
  have HC : Hid (HoldsC 131 #[] (fun x y => x && !y) (fun _ => False) (fun _ => True)) := by
    refine ⟨fun args w => by simp [go_sem], ?_, ?_⟩
    · rintro x y W -
      refine (alone_any x y W).mono ?_
      rintro e W' ⟨rfl, B⟩
      exact ⟨rfl, ⟨B.os, B.tape, B.output, B.size, fun i hi _ => B.block i hi⟩, trivial⟩
    · rintro W W' - -
      trivial
  have RA := hid ra; have RB := hid rb; have HL := hid hlen
  clear ra rb hlen
  go_enter Try.func76, Try.ntmps76
  go_wp2_with fail
  refine (kept_gen w _ va vb la lb 131 #[] (fun x y => x && !y) (fun _ => False) _ (fun _ _ => rfl) (Nat.le_refl _) RA.out RB.out HC.out (fun _ h => h.elim) trivial HL.out).mono ?_
  rintro e w1 ⟨k1, k2, k3⟩
  have K1 : Hid (Below w.heap.size w w1) := ⟨k1.os, k1.tape, k1.output, k1.size, fun i hi => k1.block i hi (fun h => h)⟩
  have K2 := hid k2; have K3 := hid k3
  clear k1 k2 k3
  cases hr : (rightL la && rightL lb) with
  | false =>
    rw [hr] at K2 K3
    obtain rfl := K2.out rfl
    go_wp2_with fail
    go_ret2
    exact ⟨K1.out, fun _ => rfl, fun h => by rw [hr] at h; cases h⟩
  | true =>
    rw [hr] at K2 K3
    obtain ⟨v, rfl, own⟩ := K3.out rfl
    have OW := hid own; clear own
    go_wp2_with fail
    go_ret2
    exact ⟨K1.out, fun h => by (rw [hr] at h; cases h), fun _ => ⟨v, rfl, OW.out⟩⟩
set_option maxRecDepth 100000 in
theorem unionp_any (w : World) (va vb : Value) (la lb : List Pr) (ra : PRow w va la) (rb : PRow w vb lb) (hlen : la.length + lb.length ≤ 1048576) :
    Calls Try.prog 75 #[va, vb] w fun e w' => Below w.heap.size w w' ∧ ((rightL la && rightL lb) = false → e = .returned (.tuple #[.slice none 0 0, (.int .i64 (130))])) ∧
      ((rightL la && rightL lb) = true → ∃ v, e = .returned (.tuple #[v, (.int .i64 (0))]) ∧ POwn w.heap.size w' v (keptH (fun x y => or x y) la lb)) := by
  have HC : Hid (HoldsC 130 #[] (fun x y => or x y) (fun _ => False) (fun _ => True)) := by
    refine ⟨fun args w => by simp [go_sem], ?_, ?_⟩
    · rintro x y W -
      refine (either_any x y W).mono ?_
      rintro e W' ⟨rfl, B⟩
      exact ⟨rfl, ⟨B.os, B.tape, B.output, B.size, fun i hi _ => B.block i hi⟩, trivial⟩
    · rintro W W' - -
      trivial
  have RA := hid ra; have RB := hid rb; have HL := hid hlen
  clear ra rb hlen
  go_enter Try.func75, Try.ntmps75
  go_wp2_with fail
  refine (kept_gen w _ va vb la lb 130 #[] (fun x y => or x y) (fun _ => False) _ (fun _ _ => rfl) (Nat.le_refl _) RA.out RB.out HC.out (fun _ h => h.elim) trivial HL.out).mono ?_
  rintro e w1 ⟨k1, k2, k3⟩
  have K1 : Hid (Below w.heap.size w w1) := ⟨k1.os, k1.tape, k1.output, k1.size, fun i hi => k1.block i hi (fun h => h)⟩
  have K2 := hid k2; have K3 := hid k3
  clear k1 k2 k3
  cases hr : (rightL la && rightL lb) with
  | false =>
    rw [hr] at K2 K3
    obtain rfl := K2.out rfl
    go_wp2_with fail
    go_ret2
    exact ⟨K1.out, fun _ => rfl, fun h => by rw [hr] at h; cases h⟩
  | true =>
    rw [hr] at K2 K3
    obtain ⟨v, rfl, own⟩ := K3.out rfl
    have OW := hid own; clear own
    go_wp2_with fail
    go_ret2
    exact ⟨K1.out, fun h => by (rw [hr] at h; cases h), fun _ => ⟨v, rfl, OW.out⟩⟩
/-! ### contracts -/
theorem minus_ct (a b : List Pr) (hn : a.length + b.length ≤ 1048576) (h : (rightL a && rightL b) = true) : Ct Try.prog 76 [.c (RD a), .c (RD b)] none (.tup [.c (RD (keptH (fun x y => x && !y) a b)), dI 0]) := ct2 fun Z w v u ha hb => by
  refine (minusp_any w v u a b (prow_of ha) (prow_of hb) hn).mono ?_
  rintro e w' ⟨B, -, k⟩
  obtain ⟨v', rfl, o⟩ := k h
  exact ctr_tup2 B (ctr_ownp o) (.v _)
theorem minus_ct' (a b : List Pr) (hn : a.length + b.length ≤ 1048576) (h : (rightL a && rightL b) = false) : Ct Try.prog 76 [.c (RD a), .c (RD b)] none (.tup [.c (.v (.slice none 0 0)), dI 130]) := ct2 fun Z w v u ha hb => by
  refine (minusp_any w v u a b (prow_of ha) (prow_of hb) hn).mono ?_
  rintro e w' ⟨B, k, -⟩
  obtain rfl := k h
  exact ctr_tup2 B (.v _) (.v _)
theorem unionp_ct (a b : List Pr) (hn : a.length + b.length ≤ 1048576) (h : (rightL a && rightL b) = true) : Ct Try.prog 75 [.c (RD a), .c (RD b)] none (.tup [.c (RD (keptH (fun x y => or x y) a b)), dI 0]) := ct2 fun Z w v u ha hb => by
  refine (unionp_any w v u a b (prow_of ha) (prow_of hb) hn).mono ?_
  rintro e w' ⟨B, -, k⟩
  obtain ⟨v', rfl, o⟩ := k h
  exact ctr_tup2 B (ctr_ownp o) (.v _)
theorem unionp_ct' (a b : List Pr) (hn : a.length + b.length ≤ 1048576) (h : (rightL a && rightL b) = false) : Ct Try.prog 75 [.c (RD a), .c (RD b)] none (.tup [.c (.v (.slice none 0 0)), dI 130]) := ct2 fun Z w v u ha hb => by
  refine (unionp_any w v u a b (prow_of ha) (prow_of hb) hn).mono ?_
  rintro e w' ⟨B, k, -⟩
  obtain rfl := k h
  exact ctr_tup2 B (.v _) (.v _)
theorem meet_ct (a b : List Pr) (hn : a.length + b.length ≤ 1048576) (h : (rightL a && rightL b) = true) : Ct Try.prog 77 [.c (RD a), .c (RD b)] none (.tup [.c (RD (keptH (fun x y => x && y) a b)), dI 0]) := ct2 fun Z w v u ha hb => by
  refine (meet_any w v u a b (prow_of ha) (prow_of hb) hn).mono ?_
  rintro e w' ⟨B, -, k⟩
  obtain ⟨v', rfl, o⟩ := k h
  exact ctr_tup2 B (ctr_ownp o) (.v _)
theorem meet_ct' (a b : List Pr) (hn : a.length + b.length ≤ 1048576) (h : (rightL a && rightL b) = false) : Ct Try.prog 77 [.c (RD a), .c (RD b)] none (.tup [.c (.v (.slice none 0 0)), dI 130]) := ct2 fun Z w v u ha hb => by
  refine (meet_any w v u a b (prow_of ha) (prow_of hb) hn).mono ?_
  rintro e w' ⟨B, k, -⟩
  obtain rfl := k h
  exact ctr_tup2 B (.v _) (.v _)
theorem search_ct (l : List Pr) (p : Pr) (hr : Rises l) (hn : l.length ≤ 100000000) : Ct Try.prog 152 [.c (RD l), PV p, .c (.v (.func (.func 56) #[] #[]))] none (.tup [dI (placeL l p : Nat), dB (decide (p ∈ l))]) := ct3 fun Z w v u t h1 h2 h3 => by
  obtain rfl := pair_of h2
  obtain rfl : t = _ := RepD.raw h3
  refine (search_any v l p.1 p.2 w (prow_of h1) hr hn).mono ?_
  rintro e w' ⟨rfl, B⟩
  exact ctr_tup2 B (.v _) (.v _)
end Go.Proofs.Ytlkdkhmdmgchbaa
namespace Go.Proofs.Ytlkdkhmdmgchbaa
set_option linter.unusedSimpArgs false
set_option linter.unusedVariables false
open Go.RowKit

theorem eq_pair : EqlAt Try.prog 52 (fun x : Pr => .agg (encP x).toArray) (fun x y => decide (x = y)) := by
  refine ⟨fun x y w => ?_, GuardAt.agg _ (by kernel_rfl)⟩
  have hS : Try.prog.underlying 52 = some (.struct (Try.prog.fieldsOf 52)) := by kernel_rfl
  have hp : Try.prog.stoodInHeld 52 = false := by kernel_rfl
  have u3 := Try.underlying50
  have a3 := Try.isAgg50
  have z3 := Try.sizeOf50
  simp only [encP]
  rw [run_eql_struct, show (10000 : Nat) = 9999 + 1 from rfl, run_equalIn_agg w 9999 52 _ _ hS hp]
  simp only [Program.fieldsOf, Try.underlying52]
  go_simp
  have : decide (x = y) = (decide (x.1 = y.1) && decide (x.2 = y.2)) := by
    rw [← Bool.decide_and, decide_eq_decide]
    exact Prod.ext_iff
  rw [this]
  by_cases h1 : x.fst = y.fst <;> by_cases h2 : x.snd = y.snd <;> simp [h1, h2]
theorem sba_mk {P : Program} {op : BinOp} {t : TypeId} {x y : Operand} {u v z : Value} {k : Value → Prop} (h : ∀ w, (do eqGuard op t x y u v; binOp op t u v : Sem Value).run P w = .ok z w) (hk : k z) : stBinAny P op t x y u v k := ⟨z, h, hk⟩
theorem sba_eql {x y : Operand} (p q : Pr) {b : Bool} (hb : decide (p = q) = b) {k : Value → Prop} (hk : k (.bool b)) : stBinAny Try.prog .eql 52 x y (.agg #[.int .u64 p.1, .int .u64 p.2]) (.agg #[.int .u64 q.1, .int .u64 q.2]) k := by
  refine ⟨_, fun w => ?_, hk⟩
  have h1 := eq_pair.2 .eql x y p q w
  have h2 := eq_pair.1 p q w
  simp only [encP] at h1 h2
  rw [← hb]
  simp [h1, h2]
theorem place_split {p : Pr} : ∀ {l : List Pr}, Rises l → (∀ x ∈ l.take (placeL l p), lt x p) ∧ ∀ x ∈ l.drop (placeL l p), ¬ lt x p
  | [], _ => ⟨fun x h => by simp at h, fun x h => by simp at h⟩
  | y :: l, hr => by
    obtain ⟨h1, h2⟩ := rises_cons.1 hr
    obtain ⟨i1, i2⟩ := place_split (p := p) h2
    by_cases hy : lt y p
    · have e : placeL (y :: l) p = placeL l p + 1 := by simp [placeL, hy]
      rw [e]
      refine ⟨fun x hx => ?_, fun x hx => ?_⟩
      · rw [List.take_succ_cons, List.mem_cons] at hx
        rcases hx with rfl | hx
        · exact hy
        · exact i1 x hx
      · exact i2 x (by simpa using hx)
    · have all : ∀ x ∈ l, ¬ lt x p := fun x hx hl => hy (lt_tr (h1 x hx) hl)
      have e : placeL (y :: l) p = 0 := by
        unfold placeL
        rw [List.filter_cons, if_neg (by simpa using hy), List.filter_eq_nil_iff.2 (fun x hx => by simpa using all x hx)]
        rfl
      rw [e]
      refine ⟨fun x hx => by simp at hx, fun x hx => ?_⟩
      simp only [List.drop_zero, List.mem_cons] at hx
      rcases hx with rfl | hx
      · exact hy
      · exact all x hx
theorem placeL_le (l : List Pr) (p : Pr) : placeL l p ≤ l.length := List.length_filter_le _ _
theorem place_mem {p : Pr} {l : List Pr} (hr : Rises l) (h : placeL l p < l.length) : p ∈ l ↔ l[placeL l p] = p := mem_at hr h (place_split hr).1 (place_split hr).2
theorem place_end {p : Pr} {l : List Pr} (hr : Rises l) (h : ¬ placeL l p < l.length) : p ∉ l := fun hm => by
  have := (place_split (p := p) hr).1
  rw [List.take_of_length_le (by omega)] at this
  have := this p hm
  unfold lt at this; omega
end Go.Proofs.Ytlkdkhmdmgchbaa
namespace Go.Proofs.Ytlkdkhmdmgchbaa
set_option linter.unusedSimpArgs false
set_option linter.unusedVariables false
open Go.RowKit
theorem lt_irr (p : Pr) : ¬ lt p p := by unfold lt; omega
theorem rises_nodup {l : List Pr} (h : Rises l) : l.Nodup := by
  unfold List.Nodup
  exact List.Pairwise.imp (fun {a b} hab e => by subst e; exact lt_irr _ hab) h
attribute [local simp ↓] gav_bool gav_undef arun_nil ob_some kva_av kfree_free khfree_free khown_own klive_live knm_false chk_true ya_true gsel_tt gsel_ff gsel_tf gsel_ft vb_bool vi_int vstr_string avps_ptr avps_seg avp_ptr avagg_agg avtup_tup avb_bool avown_own shs_struct shsa_struct shsa_arr sharr_arr shl_slice shla_slice shla_arr shls_slice shls_str shi_int bc_true bc_false hd1_cons opc_some opc_none opn_some opn_none unc_not unc_neg gd_none gd_some as_move as_assign as_pick as_bin as_un as_conv as_load as_faddr as_field as_extract as_iaddr as_slice as_alloc as_box as_store as_build as_rows as_call as_append as_lookup as_mapUpdate as_makeMap as_range as_next as_entry as_index as_fn as_len as_min as_max stMove stPick stBin stUn stConv stLoad stFaddr stField stExtract stIaddr stSlice stAlloc stBox stStore stBuild stIndex stRows stCall stAppend stFn stLen stMin stMax opd_tmp opd_const opd_func rawL_nil rawL_cons raw_c raw_st raw_a opr_e zr_nil zr_cons lvd_live hod_own obd_some obd_none kvd_av chd_true vid_int lk_cons lk_nil ins_nil ins_cons cells_zero cells_succ spread1_c spread1_own spread1_ptr spread1_fn spread1_seg spreadL_nil spreadL_cons spread_agg spread_c spread_own spread_seg spread_ptr spread_fn ex_zero ex_succ ops_e opb_none opb_int spreadD_agg spreadD_c spreadD_own spreadD_seg fillO_nil fillO_cons argsOf_nil argsOf_cons dvOf_c dvOf_seg dvOf_own dvOf_agg zrL_nil zrL_cons hdd_c hdd_seg hdd_own clz_e clv_raw clv_f callD_e dst0_n dst0_nil dst0_own goneH_e capc_ptr capc_seg capc_c capN_nil capN_cons capD_nil capD_cons deadZ_nil deadZ_cons
attribute [local simp] dok_some dok_none dflt_tmp dflt_vt dflt_cell dflt_zn dflt_nm dflt_hd dflt_df puts_nil puts_cons wr_some wr_none cst_agg cst_int cst_bool cst_string cst_slice cst_tuple cst_nilFunc cst_pointer cst_func bin_add bin_sub bin_mul bin_quo bin_rem bin_eql bin_neq bin_lss bin_leq bin_gtr bin_geq bin_bool bin_aggs binT_bool binT_aggs shbd_bool eqb_eql eqb_neq bin_slice bin_str_eql bin_str_neq bin_str_lss bin_str_add nz_v nz_n nz_s nz_p nz_f nz_st atz_v atz_n atz_s atz_p atz_f atz_st atz_agg atR_one atR_tup crow_nil crow_cons slc_c slc_n slc_own slc_nil raws setR placesT_nil placesT_cons zc chunk zsAll ocD_v ocD_n ocD_s ocD_p ocD_f ocD_st nrm_v nrm_n nrm_s nrm_p nrm_f nrm_st isV_one isV_tup isV_c isV_agg isV_v isV_n isV_s isV_p isV_f isV_st argRows Sh.agg zds_nil zds_e zds_v zds_s vcells_agg vcells_int vcells_bool vcells_string vcells_slice vcells_pointer toList_lit map_nilL map_consL nzr_e rowsOc_nil rowsOc_cons rowsOc_RD nzr_RD foks_nil foks_cons fok_tmp fok_vt fok_cell fok_nm fok_zn fok_hd fok_df Fv_c Fv_seg Fv_tup Fv_agg Fv_ptr Fv_ptrs Fv_fn Fv_fnd Fv_own Fv_ownd Fv_nown Fv_vown FvL_nil FvL_cons kvp_av hdp_some subz frz Uz Nm Uh vw_nb vw_zo vw_zf vw_hb tb_nil tb_cons fzc_nil fzc_cons fzcaps_nil fzcaps_cons ty2 ty3 ty4 ty5 ty6 ty7 ty8 ty9 ty10 ty11 ty12 ty13 ty14 ty15 ty16 ty17 ty18 ty19 ty20 ty21 ty22 ty23 ty24 ty25 ty26 ty27 ty30 ty40 ty48 ty50 ty51 ty52 ty55 ty57 ty62 ty63 ty85 ty94 ty101 ty121 ty122 ty123 ty124 ty125 ty126 ty128 ty148 ty149 ty151 ty164 ty165 ty179 ty182 ty196 ty203 ty205 ty209 ty211 ty215 ty216 ty217 ty218 ty219 ty220 ty221 ty223 ty224 ty225 ty226 ty227 Value.oneCell'
set_option maxRecDepth 100000
set_option maxHeartbeats 4000000 in
theorem place_ct (l : List Pr) (p : Pr) (hr : Rises l) (hn : l.length ≤ 100000000) : Ct Try.prog 122 [.c (RD l), PV p] none (.one (dI (placeL l p : Nat))) := by
  have c1 := search_ct l p hr hn
  refine ct_intro Try.func122 rfl Try.ntmps122 (by simp) (fun W0 Z => ?_)
  with_reducible repeat first | refine Jt.i ?_ | refine .g (by decide) ?_
  refine AW.at_ (fun L hL => ?_)
  simp at hL
  subst hL
  refine AW.rc 1 fun K hK => ?_
  repeat (with_reducible refine .s fun X Y Z W => ?_; simp; (first | refine Z.out _ _ ?_ | refine W.out _ ?_ | refine ⟨by kernel_rfl, W.out _ ?_⟩); clear Z W X Y; simp); (try refine .n ?_)
  refine Jt.f hK ?_
  clear hK K
  with_reducible repeat first | refine Jt.i ?_ | refine .g (by decide) ?_
  refine AW.rc 10 fun K hK => ?_
  repeat (with_reducible refine .s fun X Y Z W => ?_; simp; (first | refine Z.out _ _ ?_ | refine W.out _ ?_ | refine ⟨by kernel_rfl, W.out _ ?_⟩); clear Z W X Y; simp); (try refine .n ?_)
  refine .s fun K1 K2 hK1 hK2 => ?_
  simp
  refine orr_l ⟨by kernel_rfl, .inl ⟨_, c1, ?_⟩⟩
  (try simp)
  refine hK1.out _ _ ?_
  clear hK1 hK2 K1 K2
  (try simp)
  repeat (with_reducible refine .s fun X Y Z W => ?_; simp; (first | refine Z.out _ _ ?_ | refine W.out _ ?_ | refine ⟨by kernel_rfl, W.out _ ?_⟩); clear Z W X Y; simp); (try refine .n ?_)
  refine Jt.f hK ?_
  clear hK K
  with_reducible repeat first | refine Jt.i ?_ | refine .g (by decide) ?_
  refine AW.rc 30 fun K hK => ?_
  repeat (with_reducible refine .s fun X Y Z W => ?_; simp; (first | refine Z.out _ _ ?_ | refine W.out _ ?_ | refine ⟨by kernel_rfl, W.out _ ?_⟩); clear Z W X Y; simp); (try refine .n ?_)
  refine Jt.f hK ?_
  clear hK K
  with_reducible repeat first | refine Jt.i ?_ | refine .g (by decide) ?_
  refine nx_ret (T := ty) (rs := [.tmp 4]) (zs := []) (ds := [dI (placeL l p : Nat)]) (rr := []) (.inr rfl) rfl (by kernel_rfl) (by kernel_rfl) (by simp) rfl
set_option maxHeartbeats 4000000 in
theorem has_ct (l : List Pr) (p : Pr) (hr : Rises l) (hrt : rightL l = true) (hn : l.length ≤ 1000000) : Ct Try.prog 65 [.c (RD l), PV p] none (.one (dB (decide (p ∈ l)))) := by
  have c1 := place_ct l p hr (by omega)
  have c2 := check_ct l
  rw [hrt] at c2
  have hm : (hgo : placeL l p < l.length) → (p ∈ l ↔ l[placeL l p] = p) := fun h => place_mem hr h
  have he := place_end (p := p) (l := l) hr
  generalize placeL l p = i at *
  by_cases hgo : i < l.length
  · have hm := hm hgo
    obtain ⟨x, hx⟩ : ∃ x, l[i] = x := ⟨_, rfl⟩
    rw [hx] at hm
    by_cases hxp : x = p
    · have e : decide (p ∈ l) = true := by rw [decide_eq_true_iff]; exact hm.2 hxp
      rw [e]
      have hb : decide (x = p) = true := by rw [decide_eq_true_iff]; exact hxp
      refine ct_intro Try.func65 rfl Try.ntmps65 (by simp) (fun W0 Z => ?_)
      with_reducible repeat first | refine Jt.i ?_ | refine .g (by decide) ?_
      refine AW.at_ (fun L hL => ?_)
      simp at hL
      subst hL
      refine AW.rc 1 fun K hK => ?_
      repeat (with_reducible refine .s fun X Y Z W => ?_; simp; (first | refine Z.out _ _ ?_ | refine W.out _ ?_ | refine ⟨by kernel_rfl, W.out _ ?_⟩); clear Z W X Y; simp); (try refine .n ?_)
      refine Jt.f hK ?_
      clear hK K
      with_reducible repeat first | refine Jt.i ?_ | refine .g (by decide) ?_
      refine AW.rc 10 fun K hK => ?_
      repeat (with_reducible refine .s fun X Y Z W => ?_; simp; (first | refine Z.out _ _ ?_ | refine W.out _ ?_ | refine ⟨by kernel_rfl, W.out _ ?_⟩); clear Z W X Y; simp); (try refine .n ?_)
      refine .s fun K1 K2 hK1 hK2 => ?_
      simp
      refine orr_l ⟨by kernel_rfl, .inl ⟨_, c1, ?_⟩⟩
      (try simp)
      refine hK1.out _ _ ?_
      clear hK1 hK2 K1 K2
      (try simp)
      repeat (with_reducible refine .s fun X Y Z W => ?_; simp; (first | refine Z.out _ _ ?_ | refine W.out _ ?_ | refine ⟨by kernel_rfl, W.out _ ?_⟩); clear Z W X Y; simp); (try refine .n ?_)
      refine Jt.f hK ?_
      clear hK K
      with_reducible repeat first | refine Jt.i ?_ | refine .g (by decide) ?_
      refine AW.rc 20 fun K hK => ?_
      repeat (with_reducible refine .s fun X Y Z W => ?_; simp [hgo]; (first | refine Z.out _ _ ?_ | refine W.out _ ?_ | refine ⟨by kernel_rfl, W.out _ ?_⟩); clear Z W X Y; simp [hgo]); (try refine .n ?_)
      refine .s fun K1 K2 hK1 hK2 => ?_
      simp [hgo]
      refine ⟨i, PD x, rfl, by simp [hgo, hx], ?_⟩
      refine hK1.out _ _ ?_
      clear hK1 hK2 K1 K2
      (try simp [hgo])
      repeat (with_reducible refine .s fun X Y Z W => ?_; simp [hgo]; (first | refine Z.out _ _ ?_ | refine W.out _ ?_ | refine ⟨by kernel_rfl, W.out _ ?_⟩); clear Z W X Y; simp [hgo]); (try refine .n ?_)
      refine .s fun K1 K2 hK1 hK2 => ?_
      simp [hgo]
      refine sba_eql x p hb ?_
      refine hK1.out _ _ ?_
      clear hK1 hK2 K1 K2
      (try simp [hgo])
      repeat (with_reducible refine .s fun X Y Z W => ?_; simp [hgo]; (first | refine Z.out _ _ ?_ | refine W.out _ ?_ | refine ⟨by kernel_rfl, W.out _ ?_⟩); clear Z W X Y; simp [hgo]); (try refine .n ?_)
      refine .s fun K1 K2 hK1 hK2 => ?_
      simp [hgo]
      refine orr_l ⟨by kernel_rfl, .inl ⟨_, c2, ?_⟩⟩
      (try simp [hgo])
      refine hK1.out _ _ ?_
      clear hK1 hK2 K1 K2
      (try simp [hgo])
      repeat (with_reducible refine .s fun X Y Z W => ?_; simp [hgo]; (first | refine Z.out _ _ ?_ | refine W.out _ ?_ | refine ⟨by kernel_rfl, W.out _ ?_⟩); clear Z W X Y; simp [hgo]); (try refine .n ?_)
      refine ⟨chk_drawn (by kernel_rfl) (by kernel_rfl), hK.out _ ?_⟩
      clear hK K
      with_reducible repeat first | refine Jt.i ?_ | refine .g (by decide) ?_
      refine nx_ret (T := ty) (rs := [.tmp 4]) (zs := []) (ds := [dB true]) (rr := []) (.inr rfl) rfl (by kernel_rfl) (by kernel_rfl) (by simp) rfl
    · have e : decide (p ∈ l) = false := by rw [decide_eq_false_iff_not]; exact fun h => hxp (hm.1 h)
      rw [e]
      have hb : decide (x = p) = false := by rw [decide_eq_false_iff_not]; exact hxp
      refine ct_intro Try.func65 rfl Try.ntmps65 (by simp) (fun W0 Z => ?_)
      with_reducible repeat first | refine Jt.i ?_ | refine .g (by decide) ?_
      refine AW.at_ (fun L hL => ?_)
      simp at hL
      subst hL
      refine AW.rc 1 fun K hK => ?_
      repeat (with_reducible refine .s fun X Y Z W => ?_; simp [hgo]; (first | refine Z.out _ _ ?_ | refine W.out _ ?_ | refine ⟨by kernel_rfl, W.out _ ?_⟩); clear Z W X Y; simp [hgo]); (try refine .n ?_)
      refine Jt.f hK ?_
      clear hK K
      with_reducible repeat first | refine Jt.i ?_ | refine .g (by decide) ?_
      refine AW.rc 10 fun K hK => ?_
      repeat (with_reducible refine .s fun X Y Z W => ?_; simp [hgo]; (first | refine Z.out _ _ ?_ | refine W.out _ ?_ | refine ⟨by kernel_rfl, W.out _ ?_⟩); clear Z W X Y; simp [hgo]); (try refine .n ?_)
      refine .s fun K1 K2 hK1 hK2 => ?_
      simp [hgo]
      refine orr_l ⟨by kernel_rfl, .inl ⟨_, c1, ?_⟩⟩
      (try simp [hgo])
      refine hK1.out _ _ ?_
      clear hK1 hK2 K1 K2
      (try simp [hgo])
      repeat (with_reducible refine .s fun X Y Z W => ?_; simp [hgo]; (first | refine Z.out _ _ ?_ | refine W.out _ ?_ | refine ⟨by kernel_rfl, W.out _ ?_⟩); clear Z W X Y; simp [hgo]); (try refine .n ?_)
      refine Jt.f hK ?_
      clear hK K
      with_reducible repeat first | refine Jt.i ?_ | refine .g (by decide) ?_
      refine AW.rc 20 fun K hK => ?_
      repeat (with_reducible refine .s fun X Y Z W => ?_; simp [hgo]; (first | refine Z.out _ _ ?_ | refine W.out _ ?_ | refine ⟨by kernel_rfl, W.out _ ?_⟩); clear Z W X Y; simp [hgo]); (try refine .n ?_)
      refine .s fun K1 K2 hK1 hK2 => ?_
      simp [hgo]
      refine ⟨i, PD x, rfl, by simp [hgo, hx], ?_⟩
      refine hK1.out _ _ ?_
      clear hK1 hK2 K1 K2
      (try simp [hgo])
      repeat (with_reducible refine .s fun X Y Z W => ?_; simp [hgo]; (first | refine Z.out _ _ ?_ | refine W.out _ ?_ | refine ⟨by kernel_rfl, W.out _ ?_⟩); clear Z W X Y; simp [hgo]); (try refine .n ?_)
      refine .s fun K1 K2 hK1 hK2 => ?_
      simp [hgo]
      refine sba_eql x p hb ?_
      refine hK1.out _ _ ?_
      clear hK1 hK2 K1 K2
      (try simp [hgo])
      repeat (with_reducible refine .s fun X Y Z W => ?_; simp [hgo]; (first | refine Z.out _ _ ?_ | refine W.out _ ?_ | refine ⟨by kernel_rfl, W.out _ ?_⟩); clear Z W X Y; simp [hgo]); (try refine .n ?_)
      refine ⟨chk_drawn (by kernel_rfl) (by kernel_rfl), hK.out _ ?_⟩
      clear hK K
      with_reducible repeat first | refine Jt.i ?_ | refine .g (by decide) ?_
      refine nx_ret (T := ty) (rs := [.tmp 4]) (zs := []) (ds := [dB false]) (rr := []) (.inr rfl) rfl (by kernel_rfl) (by kernel_rfl) (by simp) rfl
  · have e : decide (p ∈ l) = false := by rw [decide_eq_false_iff_not]; exact he hgo
    rw [e]
    refine ct_intro Try.func65 rfl Try.ntmps65 (by simp) (fun W0 Z => ?_)
    with_reducible repeat first | refine Jt.i ?_ | refine .g (by decide) ?_
    refine AW.at_ (fun L hL => ?_)
    simp at hL
    subst hL
    refine AW.rc 1 fun K hK => ?_
    repeat (with_reducible refine .s fun X Y Z W => ?_; simp [hgo]; (first | refine Z.out _ _ ?_ | refine W.out _ ?_ | refine ⟨by kernel_rfl, W.out _ ?_⟩); clear Z W X Y; simp [hgo]); (try refine .n ?_)
    refine Jt.f hK ?_
    clear hK K
    with_reducible repeat first | refine Jt.i ?_ | refine .g (by decide) ?_
    refine AW.rc 10 fun K hK => ?_
    repeat (with_reducible refine .s fun X Y Z W => ?_; simp [hgo]; (first | refine Z.out _ _ ?_ | refine W.out _ ?_ | refine ⟨by kernel_rfl, W.out _ ?_⟩); clear Z W X Y; simp [hgo]); (try refine .n ?_)
    refine .s fun K1 K2 hK1 hK2 => ?_
    simp [hgo]
    refine orr_l ⟨by kernel_rfl, .inl ⟨_, c1, ?_⟩⟩
    (try simp [hgo])
    refine hK1.out _ _ ?_
    clear hK1 hK2 K1 K2
    (try simp [hgo])
    repeat (with_reducible refine .s fun X Y Z W => ?_; simp [hgo]; (first | refine Z.out _ _ ?_ | refine W.out _ ?_ | refine ⟨by kernel_rfl, W.out _ ?_⟩); clear Z W X Y; simp [hgo]); (try refine .n ?_)
    refine Jt.f hK ?_
    clear hK K
    with_reducible repeat first | refine Jt.i ?_ | refine .g (by decide) ?_
    refine AW.rc 20 fun K hK => ?_
    repeat (with_reducible refine .s fun X Y Z W => ?_; simp [hgo]; (first | refine Z.out _ _ ?_ | refine W.out _ ?_ | refine ⟨by kernel_rfl, W.out _ ?_⟩); clear Z W X Y; simp [hgo]); (try refine .n ?_)
    refine ⟨chk_drawn (by kernel_rfl) (by kernel_rfl), hK.out _ ?_⟩
    clear hK K
    with_reducible repeat first | refine Jt.i ?_ | refine .g (by decide) ?_
    refine nx_ret (T := ty) (rs := [.tmp 4]) (zs := []) (ds := [dB false]) (rr := []) (.inr rfl) rfl (by kernel_rfl) (by kernel_rfl) (by simp) rfl
end Go.Proofs.Ytlkdkhmdmgchbaa
namespace Go.Proofs.Ytlkdkhmdmgchbaa
set_option linter.unusedSimpArgs false
set_option linter.unusedVariables false
open Go.RowKit
/-! ### what is met and what is left -/
abbrev miF : Bool → Bool → Bool := fun x y => x && !y
abbrev meF : Bool → Bool → Bool := fun x y => x && y
abbrev unF : Bool → Bool → Bool := fun x y => or x y
section
variable {a b : List Pr} (ha : Rises a) (hb : Rises b)
include ha hb
theorem mi_mem (p : Pr) : p ∈ keptH miF a b ↔ p ∈ a ∧ p ∉ b := by
  rw [keptH_mem _ ha hb]
  simp only [miF, Bool.and_eq_true, decide_eq_true_eq, Bool.not_eq_true', decide_eq_false_iff_not]
  exact ⟨fun h => h.2, fun h => ⟨.inl h.1, h⟩⟩
theorem me_mem (p : Pr) : p ∈ keptH meF a b ↔ p ∈ a ∧ p ∈ b := by
  rw [keptH_mem _ ha hb]
  simp only [meF, Bool.and_eq_true, decide_eq_true_eq]
  exact ⟨fun h => h.2, fun h => ⟨.inl h.1, h⟩⟩
theorem un_mem (p : Pr) : p ∈ keptH unF a b ↔ p ∈ a ∨ p ∈ b := by
  rw [keptH_mem _ ha hb]
  simp only [unF, Bool.or_eq_true, decide_eq_true_eq]
  exact ⟨fun h => h.2, fun h => ⟨h, h⟩⟩
theorem parts_back : keptH unF (keptH miF a b) (keptH meF a b) = a := by
  have h1 := keptH_rises miF ha hb
  have h2 := keptH_rises meF ha hb
  refine rises_ext (keptH_rises unF h1 h2) ha fun p => ?_
  rw [un_mem h1 h2, mi_mem ha hb, me_mem ha hb]
  by_cases h : p ∈ b <;> simp [h]
theorem un_swap : keptH unF b a = keptH unF a b := rises_ext (keptH_rises _ hb ha) (keptH_rises _ ha hb) fun p => by rw [un_mem hb ha, un_mem ha hb]; exact Or.comm
theorem un_len : (keptH unF a b).length = a.length + b.length - (keptH meF a b).length ∧ (keptH meF a b).length ≤ a.length := by
  have n1 := rises_nodup (keptH_rises miF ha hb)
  have n2 := rises_nodup (keptH_rises meF ha hb)
  have n3 := rises_nodup (keptH_rises unF ha hb)
  have na := rises_nodup ha
  have nb := rises_nodup hb
  have e1 : a.length = (keptH miF a b).length + (keptH meF a b).length := by
    have nd : (keptH miF a b ++ keptH meF a b).Nodup := List.nodup_append.2 ⟨n1, n2, fun x hx y hy e => by
      subst e
      exact ((mi_mem ha hb x).1 hx).2 ((me_mem ha hb x).1 hy).2⟩
    have := ((List.perm_ext_iff_of_nodup na nd).2 fun p => by
      rw [List.mem_append, mi_mem ha hb, me_mem ha hb]
      by_cases h : p ∈ b <;> simp [h]).length_eq
    rw [this, List.length_append]
  have e2 : (keptH unF a b).length = (keptH miF a b).length + b.length := by
    have nd : (keptH miF a b ++ b).Nodup := List.nodup_append.2 ⟨n1, nb, fun x hx y hy e => by
      subst e
      exact ((mi_mem ha hb x).1 hx).2 hy⟩
    have := ((List.perm_ext_iff_of_nodup n3 nd).2 fun p => by
      rw [List.mem_append, mi_mem ha hb, un_mem ha hb]
      by_cases h : p ∈ b <;> simp [h]).length_eq
    rw [this, List.length_append]
  omega
end
theorem right_kept (h : Bool → Bool → Bool) {a b : List Pr} (ha : Rises a) (hb : Rises b) (hn : a.length + b.length ≤ 1048576) : rightL (keptH h a b) = true := by
  unfold rightL
  have := keptH_len h a b
  simp only [Bool.and_eq_true, decide_eq_true_eq]
  exact ⟨keptH_rises h ha hb, by omega⟩
theorem right_rises {l : List Pr} (h : rightL l = true) : Rises l := by
  unfold rightL at h
  simp only [Bool.and_eq_true, decide_eq_true_eq] at h
  exact h.1
end Go.Proofs.Ytlkdkhmdmgchbaa
