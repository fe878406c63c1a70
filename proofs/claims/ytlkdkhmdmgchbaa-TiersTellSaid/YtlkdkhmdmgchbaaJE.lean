/- The second logic: rows of pairs told, sorted, made compact; run.Of. -/
import Derived.Test.YtlkdkhmdmgchbaaJC
import Derived.Test.YtlkdkhmdmgchbaaJD
import Derived.Shelf.SlSortCmp.WholeK
import Derived.Shelf.SlicesG.Cmp
import Derived.Test.YtlkdkhmdmgchbaaJS
import Derived.Shelf.SlSortCmp.NoneTotal
import Derived.Lib.SlicesCompact
import Derived.Lib.SliceRun
import Derived.Laws.IdiomCopy
namespace Go.Proofs.Ytlkdkhmdmgchbaa
set_option linter.unusedSimpArgs false
set_option linter.unusedVariables false
open Go.RowKit Go.Shelf
attribute [local go_sem] Oper.semAt_some

abbrev told1 (l : List Pr) : List (List DV) := l.map fun p => [PV p]
theorem vcell {Z : Zone} {w0 W : World} {p : Option Addr} {cap : Nat} {l : List Pr} (hr : RepD Z w0 (.slice p l.length cap) (RD l)) (hk : KZ Z w0 w0 W) (hl : 0 < l.length) :
    ∃ g o, p = some ⟨g, o, none⟩ ∧ ∀ k (h : k < l.length), W.cell? ⟨g, o + k * 2, none⟩ = some (.int .u64 (l[k]).1) ∧ W.cell? ⟨g, o + k * 2 + 1, none⟩ = some (.int .u64 (l[k]).2) := by
  obtain ⟨g, o, cap', vals, e, h1, h2, h3, h4⟩ := hr.at (by simpa using hl)
  simp only [Value.slice.injEq] at e
  obtain ⟨rfl, -, -⟩ := e
  refine ⟨g, o, rfl, fun k h => ?_⟩
  have q := fun j x => h4 k (PD l[k]) j x (by simp [h])
  have tr : ∀ o' u, Z g → w0.cell? ⟨g, o', none⟩ = some u → W.cell? ⟨g, o', none⟩ = some u := fun o' u hz hc => by
    have hlt := World.lt_of_cell hc
    exact (World.cell?_of_block (w := w0) (a := ⟨g, o', none⟩) (hk g hz hlt)).trans hc
  obtain ⟨a1, a2, a3⟩ := q 0 _ rfl
  obtain ⟨b1, b2, b3⟩ := q 1 _ rfl
  rw [a3.raw] at a2
  rw [b3.raw] at b2
  exact ⟨tr _ _ a1 a2, tr _ _ b1 b2⟩
set_option maxRecDepth 100000 in
set_option maxHeartbeats 4000000 in
theorem vals_iter (Z : Zone) (w0 : World) (b : Nat) (p : Option Addr) (cap : Nat) (l : List Pr) (hz : Z b) (c0 : w0.cell? ⟨b, 0, none⟩ = some (.slice p l.length cap)) (hr : RepD Z w0 (.slice p l.length cap) (RD l)) :
    Iter Try.prog 158 #[.pointer (some ⟨b, 0, none⟩)] (fun vs : Array Value => vs) (fun _ => True) (fun W => KZ Z w0 w0 W) (fun A B => KZ Z w0 A B)
      (fun pre vs => ∃ x, (told1 l)[pre.length]? = some x ∧ Reps (fun g => Z g ∧ g < w0.heap.size) w0 vs x) (fun xs => xs.length = (told1 l).length) (fun _ => True) := by
  intro y J Jx W hW jK jxK hY h0
  have HJ := hid jK
  have HJx := hid jxK
  have HY := hid hY
  clear jK jxK hY
  have len : l.length ≤ maxI := by
    obtain ⟨_, _, e, h1, h2, _⟩ := hr.form
    simp only [Value.slice.injEq, List.length_map] at e h1
    omega
  have HLN := hid len
  have VC := hid (fun W hk hl => vcell (W := W) hr hk hl)
  have CB := hid (fun (W : World) (hk : KZ Z w0 w0 W) => show W.cell? ⟨b, 0, none⟩ = some (.slice p l.length cap) from (World.cell?_of_block (w := w0) (a := ⟨b, 0, none⟩) (hk b hz (World.lt_of_cell c0))).trans c0)
  have KM := hid (fun (W W' : World) (hk : KZ Z w0 w0 W) (hb : Below W.heap.size W W') => show KZ Z w0 w0 W' from fun g hg hl => (hb.block g (by have q := hk g hg hl; rw [Array.getElem?_eq_getElem hl] at q; exact (Array.getElem?_eq_some_iff.1 q).1)).trans (hk g hg hl))
  clear hr len
  refine callsIn_of_wp Try.func158 rfl trivial ?_ rfl
  simp only [Try.ntmps158, List.size_toArray, List.length_cons, List.length_nil, Nat.reduceAdd, Nat.reduceSub, Array.replicate_succ, Array.replicate_zero, List.push_toArray, List.append_toArray, List.nil_append, List.cons_append]
  have cw := CB.out W hW
  have HW := hid hW; clear hW
  have H0 := hid h0; clear h0
  clear c0
  refine wpIn_wide.2 ?_
  go_wp2_with fail
  clear cw
  go_loopw [7] (fun v7 wr => ∃ (k : Nat) (pre : List (Array Value)), v7 = (.int .i64 (k)) ∧ k ≤ l.length ∧ pre.length = k ∧ Hid (KZ Z w0 w0 wr) ∧ Hid (J pre wr)) (fun v7 _ => l.length - (intOf v7).toNat)
  case atStart => exact ⟨0, [], rfl, Nat.zero_le _, rfl, HW, H0⟩
  case round =>
    clear HW H0
    obtain ⟨k, pre, rfl, hk, hpre, H, HP⟩ := hrel
    by_cases hgo : k < l.length
    · have hgo' : (k : Int) < (l.length : Int) := by omega
      have hwk : IntKind.i64.wrap ((k : Int) + 1) = ((k + 1 : Nat) : Int) := by have := HLN.out; unfold maxI at this; rw [i64_ok _ (by omega) (by omega)]; omega
      obtain ⟨g, o, hp, hc⟩ := VC.out wr H.out (by omega)
      subst hp
      obtain ⟨d0, d1⟩ := hc k hgo
      clear hc
      obtain ⟨x, hx⟩ : ∃ x, l[k] = x := ⟨_, rfl⟩
      rw [hx] at d0 d1
      obtain ⟨x0, x1⟩ := x
      simp only at d0 d1
      have s3 := World.lt_of_cell d0
      have HX := hid hx; clear hx
      have HP' := hid (HJ.out _ _ _ HP.out (Keeps.of_below (below_alloc wr (.cells #[.int .u64 x0, .int .u64 x1] 52))))
      have H' := hid (KM.out _ _ H.out (below_alloc wr (.cells #[.int .u64 x0, .int .u64 x1] 52)))
      obtain ⟨fn, tmps, assign, body, hy, hR⟩ := HY.out pre #[.agg #[.int .u64 x0, .int .u64 x1]] _ HP'.out ⟨[PV (x0, x1)], by simp [hpre, hgo, HX.out], by simp, by
        intro i d hd
        match i, hd with
        | 0, hd =>
          simp at hd
          subst hd
          exact ⟨#[.int .u64 x0, .int .u64 x1], rfl, rfl, fun j d hd => by
            match j, hd with
            | 0, hd => simp at hd; subst hd; exact .v _
            | 1, hd => simp at hd; subst hd; exact .v _⟩⟩
      have HR := hid hR; clear hR
      go_upto_region 3 with fail
      refine (wpIn_wide (n := 9)).1 ?_
      gi_wp2_with fail
      refine HR.out.mono ?_
      have KT := hid (fun W' (h : KZ Z w0 (wr.alloc (.cells #[.int .u64 x0, .int .u64 x1] 52)) W') => KZ.trans H'.out h)
      rintro e w8 (⟨rfl, hj4, hk8⟩ | ⟨rfl, hj4⟩)
      · have H8 := hid (KT.out _ hk8)
        have HJ8 := hid hj4
        clear d0 d1 hy hk8
        gi_wp2_with fail
        (try go_wp2_with fail)
        exact ⟨⟨k + 1, pre ++ [#[.agg #[.int .u64 x0, .int .u64 x1]]], by simp, hgo, by simp [hpre], H8, HJ8⟩, by simp [intOf]; omega⟩
      · have HJ8 := hid hj4
        clear d0 d1 hy
        gi_wp2_with fail
        (try go_wp2_with fail)
        (try rw [Exit.noGoto_ret]); (try rw [Exit.noGoto_normal])
        refine bodyPost_ret (results_none rfl _ _ _) rfl ?_
        exact ⟨⟨_, rfl⟩, .inr ⟨_, trivial, HJ8.out⟩⟩
    · obtain rfl : k = l.length := by omega
      have h1 : ¬ (l.length : Int) < (l.length : Int) := by omega
      go_wp2_with fail
      (try rw [Exit.noGoto_ret]); (try rw [Exit.noGoto_normal])
      go_end0
      exact ⟨⟨_, rfl⟩, .inl ⟨pre, by simpa using hpre, HP.out⟩⟩
set_option maxRecDepth 100000 in
/-- slices.Values: a function that tells the row's pairs. -/
theorem itok_vals (Z : Zone) (w : World) (b : Nat) (v : Value) (l : List Pr) (hz : Z b) (c0 : w.cell? ⟨b, 0, none⟩ = some v) (hr : RepD Z w v (RD l)) :
    ItOk Try.prog (told1 l) Z w (.func (.func 158) #[] #[.pointer (some ⟨b, 0, none⟩)]) := by
  obtain ⟨p, cap, rfl, h1, h2, h3⟩ := hr.form
  simp only [List.length_map] at c0 hr
  exact ⟨_, _, rfl, fun _ _ => rfl, vals_iter Z w b p cap l hz c0 hr⟩
end Go.Proofs.Ytlkdkhmdmgchbaa
namespace Go.Proofs.Ytlkdkhmdmgchbaa
set_option linter.unusedSimpArgs false
set_option linter.unusedVariables false
open Go.RowKit
attribute [local simp ↓] gav_bool gav_undef arun_nil ob_some kva_av kfree_free khfree_free khown_own klive_live knm_false chk_true ya_true gsel_tt gsel_ff gsel_tf gsel_ft vb_bool vi_int vstr_string avps_ptr avps_seg avp_ptr avagg_agg avtup_tup avb_bool avown_own shs_struct shsa_struct shsa_arr sharr_arr shl_slice shla_slice shla_arr shls_slice shls_str shi_int bc_true bc_false hd1_cons opc_some opc_none opn_some opn_none unc_not unc_neg gd_none gd_some as_move as_assign as_pick as_bin as_un as_conv as_load as_faddr as_field as_extract as_iaddr as_slice as_alloc as_box as_store as_build as_rows as_call as_append as_lookup as_mapUpdate as_makeMap as_range as_next as_entry as_index as_fn as_len as_min as_max stMove stPick stBin stUn stConv stLoad stFaddr stField stExtract stIaddr stSlice stAlloc stBox stStore stBuild stIndex stRows stCall stAppend stFn stLen stMin stMax opd_tmp opd_const opd_func rawL_nil rawL_cons raw_c raw_st raw_a opr_e zr_nil zr_cons lvd_live hod_own obd_some obd_none kvd_av chd_true vid_int lk_cons lk_nil ins_nil ins_cons cells_zero cells_succ spread1_c spread1_own spread1_ptr spread1_fn spread1_seg spreadL_nil spreadL_cons spread_agg spread_c spread_own spread_seg spread_ptr spread_fn ex_zero ex_succ ops_e opb_none opb_int spreadD_agg spreadD_c spreadD_own spreadD_seg fillO_nil fillO_cons argsOf_nil argsOf_cons dvOf_c dvOf_seg dvOf_own dvOf_agg zrL_nil zrL_cons hdd_c hdd_seg hdd_own clz_e clv_raw clv_f callD_e dst0_n dst0_nil dst0_own goneH_e capc_ptr capc_seg capc_c capN_nil capN_cons capD_nil capD_cons deadZ_nil deadZ_cons
attribute [local simp] dok_some dok_none dflt_tmp dflt_vt dflt_cell dflt_zn dflt_nm dflt_hd dflt_df puts_nil puts_cons wr_some wr_none cst_agg cst_int cst_bool cst_string cst_slice cst_tuple cst_nilFunc cst_pointer cst_func bin_add bin_sub bin_mul bin_quo bin_rem bin_eql bin_neq bin_lss bin_leq bin_gtr bin_geq bin_bool bin_aggs binT_bool binT_aggs shbd_bool eqb_eql eqb_neq bin_slice bin_str_eql bin_str_neq bin_str_lss bin_str_add nz_v nz_n nz_s nz_p nz_f nz_st atz_v atz_n atz_s atz_p atz_f atz_st atz_agg atR_one atR_tup crow_nil crow_cons slc_c slc_n slc_own slc_nil raws setR placesT_nil placesT_cons zc chunk zsAll ocD_v ocD_n ocD_s ocD_p ocD_f ocD_st nrm_v nrm_n nrm_s nrm_p nrm_f nrm_st isV_one isV_tup isV_c isV_agg isV_v isV_n isV_s isV_p isV_f isV_st argRows Sh.agg zds_nil zds_e zds_v zds_s vcells_agg vcells_int vcells_bool vcells_string vcells_slice vcells_pointer toList_lit map_nilL map_consL nzr_e rowsOc_nil rowsOc_cons rowsOc_RD nzr_RD foks_nil foks_cons fok_tmp fok_vt fok_cell fok_nm fok_zn fok_hd fok_df Fv_c Fv_seg Fv_tup Fv_agg Fv_ptr Fv_ptrs Fv_fn Fv_fnd Fv_own Fv_ownd Fv_nown Fv_vown FvL_nil FvL_cons kvp_av hdp_some subz frz Uz Nm Uh vw_nb vw_zo vw_zf vw_hb tb_nil tb_cons fzc_nil fzc_cons fzcaps_nil fzcaps_cons ty2 ty3 ty4 ty5 ty6 ty7 ty8 ty9 ty10 ty11 ty12 ty13 ty14 ty15 ty16 ty17 ty18 ty19 ty20 ty21 ty22 ty23 ty24 ty25 ty26 ty27 ty30 ty40 ty48 ty50 ty51 ty52 ty55 ty57 ty62 ty63 ty85 ty94 ty101 ty121 ty122 ty123 ty124 ty125 ty126 ty128 ty148 ty149 ty151 ty164 ty165 ty179 ty182 ty196 ty203 ty205 ty209 ty211 ty215 ty216 ty217 ty218 ty219 ty220 ty221 ty223 ty224 ty225 ty226 ty227 Value.oneCell'
set_option maxRecDepth 100000
abbrev itV (l : List (List DV)) : DV := .c (.st (itP Try.prog l))
theorem values_ca (l : List Pr) : Ca Try.prog 118 [.c (RD l)] (.one (itV (told1 l))) := by
  rintro Z w vs ⟨hs, hv⟩
  obtain ⟨v, rfl⟩ : ∃ v, vs = #[v] := ⟨vs[0]'(by rw [hs]; simp), by
    apply Array.ext
    · simpa using hs
    · intro i h1 h2
      simp at h2; subst h2; rfl⟩
  have hr : RepD Z w v (RD l) := hv 0 _ rfl
  go_enter Try.func118, Try.ntmps118
  obtain ⟨p, cap, rfl, h1, h2, h3⟩ := hr.form
  go_wp2_with (first | (at_builtin; exact hmf))
  simp only [List.length_map] at hr
  refine bodyPost_ret (v := .func (.func 158) #[] #[.pointer (some ⟨w.heap.size, 0, none⟩)]) (by simp [results, Try.results118, go_sem]) rfl ?_
  have hb : Below w.heap.size w (w.alloc (.cells #[.slice p l.length cap] 22)) := (Below.refl _ w).alloc (Nat.le_refl _) _
  have hnew := World.alloc_heap_new w (.cells #[.slice p l.length cap] 22)
  refine ⟨_, fun g => g = w.heap.size, rfl, hb, fun g hg => ?_, .st _ _ (itok_vals _ _ w.heap.size (.slice p l.length cap) l (.inr rfl) ?_ ?_)⟩
  · subst hg
    exact ⟨Nat.le_refl _, .mk hnew⟩
  · unfold World.cell?
    rw [hnew]
    rfl
  · exact hr.evo fun g hg hl => ⟨.inl hg, hb.block g hl⟩
theorem told1_len {l : List Pr} : ∀ x ∈ told1 l, x.length = 1 := by
  intro x hx
  obtain ⟨p, _, rfl⟩ := List.mem_map.1 hx
  rfl
def apS (l : List Pr) (k : Nat) : Row := [(.zn 0, .zn .live), (.zn 900, .zn .live), (.hd 900, .hd (.own 52 2 900 [] ((l.take k).map PD))), (.nm 1, .nm true), (.cell 1 0, .av (.own 900)), (.vt 0 2, .av (.ptr 1 0))]
set_option maxHeartbeats 4000000 in
theorem appendseq_ct (l : List Pr) (hn : l.length ≤ 1000000) : Ct Try.prog 171 [.c (.v (.slice none 0 0)), itV (told1 l)] (some 52) (.one (.c (RD l))) := by
  refine ct_intro Try.func171 rfl Try.ntmps171 (by simp) (fun W0 Z => ?_)
  with_reducible repeat first | refine Jt.i ?_ | refine .g (by decide) ?_
  refine AW.at_ (fun L hL => ?_)
  simp at hL
  subst hL
  refine AW.rc 1 fun K hK => ?_
  repeat (with_reducible refine .s fun X Y Z W => ?_; simp; (first | refine Z.out _ _ ?_ | refine W.out _ ?_ | refine ⟨by kernel_rfl, W.out _ ?_⟩); clear Z W X Y; simp); (try refine .n ?_)
  refine Jt.f hK ?_
  clear hK K
  with_reducible repeat first | refine Jt.i ?_ | refine .g (by decide) ?_
  refine AW.rc 10 fun K hK => ?_
  repeat (with_reducible refine .s fun X Y Z W => ?_; simp; (first | refine Z.out _ _ ?_ | refine W.out _ ?_ | refine ⟨by kernel_rfl, W.out _ ?_⟩); clear Z W X Y; simp); (try refine .n ?_)
  refine Jt.f hK ?_
  clear hK K
  with_reducible repeat first | refine Jt.i ?_ | refine .g (by decide) ?_
  refine AW.range (zs := [0]) (l := told1 l) (rr := [(.tmp 6, .av (.c [0] (.st (itP Try.prog (told1 l)))))]) (rz := [(.zn 0, .zn .live)]) (ps := #[7]) rfl (fun z g h => h.2) (by kernel_rfl) (by kernel_rfl) (by kernel_rfl) told1_len (by simp) (by simp [cx]) (fun k => apS l k) (fun _ _ => none) (fun k => by kernel_rfl) (fun c k L' h => by cases h)
    (fun C' hP hN => ?_) (fun k x hx => ?_) ?_ (fun c k L' h => by cases h)
  · have hP : C'.pz = [0, 0] := hP
    simp only [vtOf]
    exact (view_of (vw [] [(900, [])] [] [(900, none)]) (by simp [apS]))
  · obtain ⟨y, hy, hxy⟩ : ∃ y, l[k]? = some y ∧ x = [PV y] := by
      simp only [told1, List.getElem?_map, Option.map_eq_some_iff] at hx
      obtain ⟨y, h1, h2⟩ := hx
      exact ⟨y, h1, h2.symm⟩
    subst hxy
    obtain ⟨hk, hky⟩ := List.getElem?_eq_some_iff.1 hy
    have TS := List.take_succ_eq_append_getElem hk
    rw [hky] at TS
    apply Exists.intro
    refine ⟨?_, fun ln C' hP hN => ?_, fun ln C' hP hN => ?_⟩
    rotate_left
    · have hP : C'.pz = [0, 0] := hP
      have hN : C'.N = 13 := hN
      simp only [parRows, apS, tmB]
      with_reducible repeat first | refine Jt.i ?_ | refine .g (by decide) ?_
      refine AW.rc 100 fun K hK => ?_
      repeat (with_reducible refine .s fun X Y Z W => ?_; simp; (first | refine Z.out _ _ ?_ | refine W.out _ ?_ | refine ⟨by kernel_rfl, W.out _ ?_⟩); clear Z W X Y; simp); (try refine .n ?_)
      refine Jt.f hK ?_
      clear hK K
      with_reducible repeat first | refine Jt.i ?_ | refine .g (by decide) ?_
      exact fun a w h => ⟨rfl, h⟩
    · have hP : C'.pz = [0, 0] := hP
      have hN : C'.N = 13 := hN
      with_reducible repeat first | refine Jt.i ?_ | refine .g (by decide) ?_
      refine AW.rc 200 fun K hK => ?_
      repeat (with_reducible refine .s fun X Y Z W => ?_; simp; (first | refine Z.out _ _ ?_ | refine W.out _ ?_ | refine ⟨by kernel_rfl, W.out _ ?_⟩); clear Z W X Y; simp); (try refine .n ?_)
      refine .s fun K1 K2 hK1 hK2 => ?_
      simp
      refine ya_mk (by (simp [maxI]; omega)) ?_
      (try simp)
      refine hK1.out _ _ ?_
      clear hK1 hK2 K1 K2
      (try simp)
      repeat (with_reducible refine .s fun X Y Z W => ?_; simp; (first | refine Z.out _ _ ?_ | refine W.out _ ?_ | refine ⟨by kernel_rfl, W.out _ ?_⟩); clear Z W X Y; simp); (try refine .n ?_)
      refine Jt.f hK ?_
      clear hK K
      with_reducible repeat first | refine Jt.i ?_ | refine .g (by decide) ?_
      exact (view_of (vw [] [(900, [203])] [] [(900, some 203)]) (by simp [apS, TS]))
    · kernel_rfl
  · refine NX.view (L' := (.df, .df 1) :: tmOf (apS l l.length)) (by rw [show (told1 l).length = l.length by simp]; exact fun _ _ h => h) ?_
    simp only [apS, tmOf, List.take_length]
    with_reducible repeat first | refine Jt.i ?_ | refine .g (by decide) ?_
    refine AW.rc 300 fun K hK => ?_
    repeat (with_reducible refine .s fun X Y Z W => ?_; simp; (first | refine Z.out _ _ ?_ | refine W.out _ ?_ | refine ⟨by kernel_rfl, W.out _ ?_⟩); clear Z W X Y; simp); (try refine .n ?_)
    refine Jt.f hK ?_
    clear hK K
    with_reducible repeat first | refine Jt.i ?_ | refine .g (by decide) ?_
    exact nx_reto (t := 4) (n := 900) (y := 900) (zs := []) (rr := [(.zn 900, .zn .live)]) (.inr rfl) rfl (by kernel_rfl) (by kernel_rfl) (by kernel_rfl) (by simp) rfl
set_option maxRecDepth 100000
set_option maxHeartbeats 4000000 in
theorem collect_ct (l : List Pr) (hn : l.length ≤ 1000000) : Ct Try.prog 156 [itV (told1 l)] (some 52) (.one (.c (RD l))) := by
  have cc := appendseq_ct l hn
  refine ct_intro Try.func156 rfl Try.ntmps156 (by simp) (fun W0 Z => ?_)
  with_reducible repeat first | refine Jt.i ?_ | refine .g (by decide) ?_
  refine AW.at_ (fun L hL => ?_)
  simp at hL
  subst hL
  refine AW.rc 1 fun K hK => ?_
  repeat (with_reducible refine .s fun X Y Z W => ?_; simp; (first | refine Z.out _ _ ?_ | refine W.out _ ?_ | refine ⟨by kernel_rfl, W.out _ ?_⟩); clear Z W X Y; simp); (try refine .n ?_)
  refine Jt.f hK ?_
  clear hK K
  with_reducible repeat first | refine Jt.i ?_ | refine .g (by decide) ?_
  refine AW.rc 10 fun K hK => ?_
  repeat (with_reducible refine .s fun X Y Z W => ?_; simp; (first | refine Z.out _ _ ?_ | refine W.out _ ?_ | refine ⟨by kernel_rfl, W.out _ ?_⟩); clear Z W X Y; simp); (try refine .n ?_)
  refine .s fun K1 K2 hK1 hK2 => ?_
  simp
  refine orr_l ⟨by kernel_rfl, .inr (.inl ⟨_, _, _, cc, ?_⟩)⟩
  (try simp)
  refine hK1.out _ _ ?_
  clear hK1 hK2 K1 K2
  (try simp)
  repeat (with_reducible refine .s fun X Y Z W => ?_; simp; (first | refine Z.out _ _ ?_ | refine W.out _ ?_ | refine ⟨by kernel_rfl, W.out _ ?_⟩); clear Z W X Y; simp); (try refine .n ?_)
  refine Jt.f hK ?_
  clear hK K
  with_reducible repeat first | refine Jt.i ?_ | refine .g (by decide) ?_
  exact nx_reto (t := 2) (n := 11) (y := 11) (zs := [100011]) (rr := [(.zn 11, .zn .live), (.zn 100011, .zn .live)]) (.inr rfl) rfl (by kernel_rfl) (by kernel_rfl) (by kernel_rfl) (by simp) rfl
end Go.Proofs.Ytlkdkhmdmgchbaa
namespace Go.Proofs.Ytlkdkhmdmgchbaa
set_option linter.unusedSimpArgs false
set_option linter.unusedVariables false
open Go.RowKit Go.Shelf Go.Lib Go.Sort

theorem grow3 (w : World) (a b c : Obj) : (((w.alloc a).alloc b).alloc c).drew = grow (w.drewN 1) #[a, b, c] := by
  rw [alloc_eq_grow, alloc_eq_grow, alloc_eq_grow, grow_grow, grow_grow]
  rfl
set_option maxRecDepth 100000 in
set_option maxHeartbeats 2000000 in
theorem compare_grow (a b c d : Int) (w : World) : Calls Try.prog 56 #[.agg #[(.int .u64 (a)), (.int .u64 (b))], .agg #[(.int .u64 (c)), (.int .u64 (d))]] w fun e w' => e = .returned (.int .i64 (pcmp (a, b) (c, d))) ∧ ∃ q os', w' = grow (w.drewN q) os' := by
  have C1 := hid (fun W => cmp_any a c W)
  have C2 := hid (fun W => cmp_any b d W)
  have E : Hid (pcmp (a, b) (c, d) = if cmpI a c = 0 then cmpI b d else cmpI a c) := rfl
  rw [E.out]
  generalize cmpI a c = x at *
  generalize cmpI b d = y at *
  have O := hid (fun g W h0 h1 => or_any g x y W h0 h1)
  clear E
  generalize (if x = 0 then y else x) = z at *
  go_enter Try.func56, Try.ntmps56
  go_wp2_with fail
  go_region_held3 (fun W => W.cell? ⟨w.heap.size, 0, none⟩ = some (.int .u64 (a)) ∧ W.cell? ⟨w.heap.size, 1, none⟩ = some (.int .u64 (b)) ∧ W.cell? ⟨(w.heap.size + 1), 0, none⟩ = some (.int .u64 (c)) ∧ W.cell? ⟨(w.heap.size + 1), 1, none⟩ = some (.int .u64 (d))) (first | assumption | go_keep)
    (first | (go_at_call_of 114 a; refine (C1.out _).mono ?_; rintro e wa ⟨rfl, rfl⟩) | (go_at_call_of 114 b; refine (C2.out _).mono ?_; rintro e wa ⟨rfl, rfl⟩) | (go_at_call 113; refine (O.out _ _ (by go_simp) (by go_simp)).mono ?_; rintro e wa ⟨rfl, rfl⟩))
  all_goals
    go_wp2_with fail
    go_ret
    refine ⟨rfl, ?_⟩
    exact ⟨1, #[.cells #[(.int .u64 (a)), (.int .u64 (b))] 52, .cells #[(.int .u64 (c)), (.int .u64 (d))] 52, .cells #[(.int .i64 (x)), (.int .i64 (y))] 3], grow3 _ _ _ _⟩

end Go.Proofs.Ytlkdkhmdmgchbaa
namespace Go.Proofs.Ytlkdkhmdmgchbaa
set_option linter.unusedSimpArgs false
set_option linter.unusedVariables false
open Go.RowKit Go.Shelf Go.Lib Go.Sort
end Go.Proofs.Ytlkdkhmdmgchbaa
namespace Go.Proofs.Ytlkdkhmdmgchbaa
set_option linter.unusedSimpArgs false
set_option linter.unusedVariables false
open Go.RowKit Go.Shelf Go.Lib Go.Sort

abbrev encP (p : Pr) : List Value := [.int .u64 p.1, .int .u64 p.2]
def flatP : List Pr → List Value
  | [] => []
  | p :: l => .int .u64 p.1 :: .int .u64 p.2 :: flatP l
theorem flatP_len : ∀ l : List Pr, (flatP l).length = l.length * 2
  | [] => rfl
  | p :: l => by simp [flatP, flatP_len l]; omega
theorem flatP_get : ∀ (l : List Pr) (i : Nat) (h : i < l.length), (flatP l)[i * 2]? = some (.int .u64 l[i].1) ∧ (flatP l)[i * 2 + 1]? = some (.int .u64 l[i].2)
  | p :: l, 0, h => ⟨rfl, rfl⟩
  | p :: l, i + 1, h => by
    have := flatP_get l i (by simpa using h)
    have e : (i + 1) * 2 = i * 2 + 2 := by omega
    rw [e]
    simpa [flatP] using this
theorem flatP_one : ∀ (l : List Pr), ∀ u ∈ flatP l, u.oneCell' = true
  | [], u, h => by simp [flatP] at h
  | p :: l, u, h => by
    simp only [flatP, List.mem_cons] at h
    rcases h with rfl | rfl | h
    · rfl
    · rfl
    · exact flatP_one l u h
theorem rowat_of (Z : Zone) (w : World) (v : Value) (l : List Pr) (E : TypeId) (h : w.ownsRow 0 E 2 v l.length (flatP l)) : RowAt Z w v E 2 (l.map PD) True := by
  refine ⟨flatP l, by simpa using h, flatP_one l, fun i r hr => ?_, fun _ i r j x hi hj => ?_⟩
  · simp only [List.getElem?_map, Option.map_eq_some_iff] at hr
    obtain ⟨p, _, rfl⟩ := hr
    rfl
  · simp only [List.getElem?_map, Option.map_eq_some_iff] at hi
    obtain ⟨p, hp, rfl⟩ := hi
    obtain ⟨hlt, rfl⟩ := List.getElem?_eq_some_iff.1 hp
    obtain ⟨q1, q2⟩ := flatP_get l i hlt
    match j, hj with
    | 0, hj =>
      simp at hj; subst hj
      simp only [List.getD_eq_getElem?_getD, Nat.add_zero, q1]
      exact .v _
    | 1, hj =>
      simp at hj; subst hj
      simp only [List.getD_eq_getElem?_getD, q2]
      exact .v _
theorem rowat_to {Z : Zone} {w : World} {v : Value} {l : List Pr} {E : TypeId} {lean : Prop} (h : RowAt Z w v E 2 (l.map PD) lean) (hl : lean) : w.ownsRow 0 E 2 v l.length (flatP l) := by
  obtain ⟨vals, h1, h2, h3, h4⟩ := h
  have : vals = flatP l := by
    have hlen : vals.length = l.length * 2 := by simpa using h1.1
    refine List.ext_getElem (by rw [hlen, flatP_len]) fun t ht1 ht2 => ?_
    have hi : t / 2 < l.length := by omega
    obtain ⟨q1, q2⟩ := flatP_get l (t / 2) hi
    have r := fun j x => h4 hl (t / 2) (PD l[t / 2]) j x (by simp [hi])
    rcases Nat.mod_two_eq_zero_or_one t with e | e
    · have et : t / 2 * 2 = t := by omega
      have := (r 0 _ rfl).raw
      rw [Nat.add_zero, et] at this
      rw [et] at q1
      rw [List.getElem?_eq_getElem ht2] at q1
      simp only [List.getD_eq_getElem?_getD, List.getElem?_eq_getElem ht1, Option.getD_some] at this
      rw [this]; simpa using q1.symm
    · have et : t / 2 * 2 + 1 = t := by omega
      have := (r 1 _ rfl).raw
      rw [et] at this
      rw [et] at q2
      rw [List.getElem?_eq_getElem ht2] at q2
      simp only [List.getD_eq_getElem?_getD, List.getElem?_eq_getElem ht1, Option.getD_some] at this
      rw [this]; simpa using q2.symm
  rw [this] at h1
  simpa using h1
theorem flatK_P (l : List Pr) : flatK encP 2 l.toArray = (flatP l).toArray := by
  refine ext_get! (by simp [flatP_len]) fun t ht => ?_
  have ht' : t < l.length * 2 := by simpa using ht
  rw [get_flatK _ _ _ _ (by simpa using ht')]
  have hi : t / 2 < l.length := by omega
  obtain ⟨q1, q2⟩ := flatP_get l (t / 2) hi
  have e0 : l.toArray[t / 2]! = l[t / 2] := by simp [hi]
  rw [e0]
  rcases Nat.mod_two_eq_zero_or_one t with e | e
  · have et : t / 2 * 2 = t := by omega
    rw [e]
    rw [et] at q1
    simp [getElem!_def, q1]
  · have et : t / 2 * 2 + 1 = t := by omega
    rw [e]
    rw [et] at q2
    simp [getElem!_def, q2]
end Go.Proofs.Ytlkdkhmdmgchbaa
namespace Go.Proofs.Ytlkdkhmdmgchbaa
set_option linter.unusedSimpArgs false
set_option linter.unusedVariables false
open Go.RowKit Go.Shelf Go.Lib Go.Sort

/-- the pairs, one behind the other. -/
def srt (l : List Pr) : List Pr := l.mergeSort fun x y => !(ltOf pcmp) y x
theorem ltOf_lt (x y : Pr) : ltOf pcmp x y = decide (lt x y) := by
  unfold ltOf
  rw [decide_eq_decide]
  exact pcmp_lt x y
theorem swo_pr : SWO (ltOf pcmp) where
  irrefl x := by rw [ltOf_lt]; unfold lt; simp
  trans x y z h1 h2 := by rw [ltOf_lt] at *; simp only [decide_eq_true_eq] at *; unfold lt at *; omega
  ntrans x y z h1 h2 := by rw [ltOf_lt] at *; simp only [decide_eq_false_iff_not] at *; unfold lt at *; omega
theorem parts_pr (x y : Pr) (h1 : ltOf pcmp x y = false) (h2 : ltOf pcmp y x = false) : x = y := by
  rw [ltOf_lt] at *
  simp only [decide_eq_false_iff_not] at *
  unfold lt at *
  exact Prod.ext (by omega) (by omega)
theorem srt_len (l : List Pr) : (srt l).length = l.length := List.length_mergeSort ..
theorem cmp_lays (blk size : Nat) (w : World) : CmpLays Try.prog 56 #[] encP 2 pcmp blk 0 size w := fun _ _ _ _ x y => compare_grow x.1 x.2 y.1 y.2 _
/-- the row's block, its cells laid anew. -/
theorem putrow_block {w : World} {g : Nat} {cur : Array Value} {E : TypeId} {F : Array Value} (hg : w.heap[g]? = some (.cells cur E (0, 0))) (hF : F.size ≤ cur.size) : ∃ cur', (putRow id w g 0 F).heap[g]? = some (.cells cur' E (0, 0)) ∧ cur'.size = cur.size ∧ cur'.toList.take F.size = F.toList := by
  refine ⟨putCells id 0 F cur, ?_, by simp [putCells], ?_⟩
  · unfold putRow mapBlock
    simp only [Array.getElem?_modify, if_true, hg]
    rfl
  · refine List.ext_getElem (by simp [putCells]; omega) fun t h1 h2 => ?_
    have h2' : t < F.size := by simpa using h2
    simp [putCells, h2']
theorem sort_world_row {w : World} {g n : Nat} {os : Array Obj} {l' : List Pr} {cur : Array Value} {E : TypeId} (hg : w.heap[g]? = some (.cells cur E (0, 0))) (hc : l'.length * 2 ≤ cur.size) :
    Keeps (fun k => k ≠ g) w (sortWorldK encP 2 w g 0 n l'.toArray os) ∧ ∃ cur', (sortWorldK encP 2 w g 0 n l'.toArray os).heap[g]? = some (.cells cur' E (0, 0)) ∧ cur'.size = cur.size ∧ cur'.toList.take (l'.length * 2) = flatP l' := by
  have hlt : g < w.heap.size := (Array.getElem?_eq_some_iff.1 hg).1
  have hsz : (flatP l').toArray.size = l'.length * 2 := by simp [flatP_len]
  obtain ⟨cur', h1, h2, h3⟩ := putrow_block (F := (flatP l').toArray) (w := Sort.ahead w n) (g := g) hg (by rw [hsz]; exact hc)
  rw [hsz] at h3
  unfold sortWorldK putRowK
  rw [flatK_P]
  refine ⟨⟨rfl, rfl, rfl, by simp [Sort.ahead], fun k hk hne => ?_⟩, cur', ?_, h2, h3⟩
  · rw [heap_grow_old _ _ (by simpa using hk)]
    unfold putRow mapBlock
    simp only [Array.getElem?_modify]
    rw [if_neg (fun e => hne e.symm)]
    rfl
  · rw [heap_grow_old _ _ (by simpa using hlt)]
    exact h1
theorem sort_ku (l : List Pr) (hn : l.length ≤ 1000000000) : Ku Try.prog 157 [.c (.v (.func (.func 56) #[] #[]))] 52 2 (l.map PD) ((srt l).map PD) := by
  intro Z w v vs hrow hnz hr
  have how := rowat_to hrow trivial
  obtain ⟨f, rfl⟩ : ∃ f, vs = #[f] := ⟨vs[0]'(by rw [hr.1]; simp), by
    apply Array.ext
    · simpa using hr.1
    · intro i h1 h2
      simp at h2; subst h2; rfl⟩
  have hf : f = .func (.func 56) #[] #[] := RepD.raw (hr.2 0 _ rfl)
  subst hf
  rcases how.2 with ⟨rfl, h0⟩ | ⟨g, cap, cur, rfl, -, hg, h1, h2, h3, h4⟩
  · have hl : l = [] := List.length_eq_zero_iff.1 h0
    subst hl
    refine (AnyF.slices_SortFunc_none Try.sortPr none 0 _ w).mono ?_
    rintro e w' ⟨rfl, rfl⟩
    exact ⟨rfl, Keeps.refl _ _, by have : srt [] = [] := List.length_eq_zero_iff.1 (srt_len []); rw [this]; exact hrow⟩
  · have hlt : g < w.heap.size := (Array.getElem?_eq_some_iff.1 hg).1
    have hH : HoldsK encP 2 w g 0 l.toArray := by
      intro j hj
      rw [flatK_P] at hj ⊢
      have hj' : j < (flatP l).length := by simpa using hj
      have e : cur[j]? = (flatP l)[j]? := by
        rw [← h4, List.getElem?_take, if_pos (by rw [flatP_len] at hj'; exact hj')]
        simp
      refine ⟨?_, ?_⟩
      · unfold World.cell?
        simp only [hg, Nat.zero_add, e, List.getElem?_eq_getElem hj']
        simp [getElem!_def, hj']
      · unfold World.frozen?
        simp only [hg]
        simp
    have eg : ∀ args w, (callFunc 56 args).run Try.prog w = .ok (.enter 56 args) w := enters_of Try.func56 (by kernel_rfl) rfl
    have hcon := AnyQ.slices_SortFunc_total Try.sortPr 2 Try.isAgg52 Try.sizeOf52 encP (fun _ => rfl) (fun x v hv => by simp [encP] at hv; rcases hv with rfl | rfl <;> rfl) pcmp swo_pr 56 #[] g 0 cap l.toArray w eg (cmp_lays g _ w) hH hlt (by simp; omega) parts_pr
    change Calls Try.prog 157 _ _ _ at hcon
    refine Calls.mono (by simpa using hcon) ?_
    rintro e w' ⟨rfl, n, os, hw⟩
    have hw : w' = sortWorldK encP 2 w g 0 n (srt l).toArray os := hw
    obtain ⟨k1, cur', k2, k3, k4⟩ := sort_world_row (n := n) (os := os) (l' := srt l) hg (by rw [srt_len]; omega)
    rw [← hw] at k1 k2
    refine ⟨rfl, ⟨k1.os, k1.tape, k1.output, k1.size, fun k hk hb => k1.block k hk (fun e => hb (by rw [e]; rfl))⟩, rowat_of _ _ _ _ _ ?_⟩
    rw [srt_len] at k4 ⊢
    exact ⟨by rw [flatP_len, srt_len], .inr ⟨g, cap, cur', rfl, Nat.zero_le _, k2, h1, h2, k3.trans h3, k4⟩⟩
end Go.Proofs.Ytlkdkhmdmgchbaa
namespace Go.Proofs.Ytlkdkhmdmgchbaa
set_option linter.unusedSimpArgs false
set_option linter.unusedVariables false
open Go.RowKit Go.Shelf Go.Lib Go.Sort

/-- a row's block, as it is later; all else as it was. -/
def RwB (w : World) (g C : Nat) (l : List Pr) (wr : World) : Prop := Keeps (fun k => k ≠ g) w wr ∧ l.length * 2 ≤ C ∧ ∃ cur, wr.heap[g]? = some (.cells cur 52 (0, 0)) ∧ cur.size = C ∧ cur.toList.take (l.length * 2) = flatP l
section
variable {w wr : World} {g C : Nat} {l : List Pr}
theorem RwB.drew (h : RwB w g C l wr) : RwB w g C l wr.drew := ⟨⟨h.1.os, h.1.tape, h.1.output, h.1.size, h.1.block⟩, h.2⟩
theorem RwB.cells (h : RwB w g C l wr) {k : Nat} (hk : k < l.length) : wr.cell? ⟨g, k * 2, none⟩ = some (.int .u64 l[k].1) ∧ wr.cell? ⟨g, k * 2 + 1, none⟩ = some (.int .u64 l[k].2) ∧ wr.frozen? ⟨g, k * 2, none⟩ = false ∧ wr.frozen? ⟨g, k * 2 + 1, none⟩ = false := by
  obtain ⟨_, hC, cur, hg, hs, ht⟩ := h
  obtain ⟨q1, q2⟩ := flatP_get l k hk
  have e : ∀ t, t < l.length * 2 → cur[t]? = (flatP l)[t]? := fun t htl => by
    rw [← ht, List.getElem?_take, if_pos htl]; simp
  have f : ∀ t, wr.frozen? ⟨g, t, none⟩ = false := fun t => by
    unfold World.frozen?
    simp [hg]
  refine ⟨?_, ?_, f _, f _⟩
  · unfold World.cell?
    simp only [hg]
    rw [e _ (by omega), q1]
    rfl
  · unfold World.cell?
    simp only [hg]
    rw [e _ (by omega), q2]
    rfl
theorem flatP_set : ∀ (l : List Pr) (i : Nat) (u : Pr), i < l.length → flatP (l.set i u) = ((flatP l).set (i * 2) (.int .u64 u.1)).set (i * 2 + 1) (.int .u64 u.2)
  | [], i, u, h => by simp at h
  | p :: l, 0, u, h => rfl
  | p :: l, i + 1, u, h => by
    have e : (i + 1) * 2 = i * 2 + 2 := by omega
    rw [e]
    simp only [List.set_cons_succ, flatP]
    rw [flatP_set l i u (by simpa using h)]
theorem flatP_take : ∀ (l : List Pr) (k : Nat), flatP (l.take k) = (flatP l).take (k * 2)
  | [], k => by simp [flatP]
  | p :: l, 0 => rfl
  | p :: l, k + 1 => by
    have e : (k + 1) * 2 = k * 2 + 2 := by omega
    rw [e]
    simp only [List.take_succ_cons, flatP]
    rw [flatP_take l k]
theorem RwB.set (h : RwB w g C l wr) {i : Nat} (hi : i < l.length) (u : Pr) : RwB w g C (l.set i u) ((wr.setCell ⟨g, i * 2, none⟩ (.int .u64 u.1)).setCell ⟨g, i * 2 + 1, none⟩ (.int .u64 u.2)) := by
  obtain ⟨k, hC, cur, hg, hs, ht⟩ := h
  refine ⟨(k.setCell (by simp) _).setCell (by simp) _, by simpa using hC, _, set_heap_same (set_heap_same hg), by simpa using hs, ?_⟩
  rw [List.length_set, flatP_set l i u hi, ← ht]
  simp only [Array.toList_setIfInBounds, List.take_set]
theorem setCells_block (g : Nat) (E : TypeId) : ∀ (vs : List Value) (o : Nat) (W : World) (cur : Array Value), W.heap[g]? = some (.cells cur E (0, 0)) → ∃ cur', (W.setCells g o vs).heap[g]? = some (.cells cur' E (0, 0)) ∧ cur'.size = cur.size ∧ cur'.toList.take o = cur.toList.take o ∧ Keeps (fun k => k ≠ g) W (W.setCells g o vs)
  | [], o, W, cur, h => ⟨cur, h, rfl, rfl, Keeps.refl _ _⟩
  | v :: vs, o, W, cur, h => by
    obtain ⟨cur', h1, h2, h3, h4⟩ := setCells_block g E vs (o + 1) (W.setCell ⟨g, o, none⟩ v) _ (set_heap_same h)
    refine ⟨cur', h1, by simpa using h2, ?_, ((Keeps.refl _ W).setCell (by simp) _).trans h4⟩
    have := congrArg (List.take o) h3
    rw [List.take_take, List.take_take] at this
    simp only [Nat.min_eq_left (Nat.le_succ o)] at this
    rw [this]
    simp only [Array.toList_setIfInBounds, List.take_set]
    rw [List.set_eq_of_length_le (by rw [List.length_take]; omega)]
theorem RwB.tail (h : RwB w g C l wr) {k : Nat} (hk : k ≤ l.length) (vs : List Value) : RwB w g C (l.take k) (wr.setCells g (k * 2) vs) := by
  obtain ⟨kp, hC, cur, hg, hs, ht⟩ := h
  obtain ⟨cur', h1, h2, h3, h4⟩ := setCells_block g 52 vs (k * 2) wr cur hg
  have hl : (l.take k).length = k := by simp; omega
  refine ⟨kp.trans h4, by rw [hl]; omega, cur', h1, h2.trans hs, ?_⟩
  rw [hl, h3, flatP_take, ← ht, List.take_take, Nat.min_eq_left (by omega)]
/-- 'clear' at a row of aggregates. -/
theorem run_clear_rows {P : Program} (w : World) (t e ty : TypeId) (z : Value) (ht : P.underlying t = some (.slice e)) (hv : ∀ w, (zeroValue e).run P w = .ok z w) (b o n c : Nat) (hn : 0 < n)
    (h1 : ∀ v ∈ (Builtin.zeroCells z.cells n).toList, v.oneCell' = true)
    (hc : ∀ j, j < (Builtin.zeroCells z.cells n).toList.length → (w.cell? ⟨b, o + j, none⟩).isSome = true) (hf : ∀ j, j < (Builtin.zeroCells z.cells n).toList.length → w.frozen? ⟨b, o + j, none⟩ = false) :
    (Builtin.clear_ #[t] ty #[.slice (some ⟨b, o, none⟩) n c]).run P w = .ok (.tuple #[]) (w.setCells b o (Builtin.zeroCells z.cells n).toList) := by
  have hst := run_storeCells_cells (P := P) b o (Builtin.zeroCells z.cells n).toList 0 w (by simpa using hc) (by simpa using hf) h1
  simp only [Nat.add_zero] at hst
  obtain ⟨m, rfl⟩ : ∃ m, n = m + 1 := ⟨n - 1, by omega⟩
  simp [Builtin.clear_, run_underlying ht, hv, hst]
theorem zero_cells_len (n : Nat) : (Builtin.zeroCells #[Value.int .u64 0, .int .u64 0] n).toList.length = n * 2 := by simp [Builtin.zeroCells]
theorem zero_cells_one (n : Nat) : ∀ v ∈ (Builtin.zeroCells #[Value.int .u64 0, .int .u64 0] n).toList, v.oneCell' = true := by
  intro v hv
  simp only [Builtin.zeroCells, Array.toList_map, List.mem_map] at hv
  obtain ⟨i, _, rfl⟩ := hv
  have : i % 2 = 0 ∨ i % 2 = 1 := by omega
  rcases this with e | e <;> (simp [e]; rfl)
/-- what Compact leaves. -/
def dd (l : List Pr) : List Pr := compactUpTo l.toArray l.length
theorem dd_all {l : List Pr} (h : ∀ j, j < l.length → keeps l.toArray j = true) : dd l = l := by
  unfold dd
  have := compactUpTo_all l.toArray l.length h
  rw [this]
  have := range_map_get l.toArray
  simpa using this
end
set_option maxRecDepth 100000 in
set_option maxHeartbeats 4000000 in
theorem compact_raw (l : List Pr) (g cap C : Nat) (w : World) (h : RwB w g C l w) (hcap : l.length ≤ cap) (hn : l.length ≤ 1000000000) (hcm : cap ≤ 9223372036854775807) :
    Calls Try.prog 116 #[.slice (some ⟨g, 0, none⟩) l.length cap] w fun e w' => e = .returned (.slice (some ⟨g, 0, none⟩) (dd l).length cap) ∧ RwB w g C (dd l) w' := by
  have HH := hid h; clear h
  by_cases h2 : l.length < 2
  · have h2' : (l.length : Int) < 2 := by omega
    have hd : dd l = l := dd_all fun j hj => keeps_lt_one _ j (by omega)
    rw [hd]
    go_enter Try.func116, Try.ntmps116
    go_wp2_with fail
    go_ret
    exact ⟨rfl, HH.out⟩
  · have h2' : ¬ (l.length : Int) < 2 := by omega
    go_enter Try.func116, Try.ntmps116
    go_wp2_with fail
    go_loopw [3] (fun v3 wr => ∃ k : Nat, v3 = (.int .i64 (k)) ∧ 1 ≤ k ∧ k ≤ l.length ∧ Hid (RwB w g C l wr) ∧ Hid (∀ j, j < k → keeps l.toArray j = true)) (fun v3 _ => l.length - (intOf v3).toNat)
    case atStart => exact ⟨1, rfl, Nat.le_refl _, by omega, HH, keeps_lt_one _⟩
    case round =>
      obtain ⟨k, rfl, hk1, hk, R, A⟩ := hrel
      by_cases hgo : k < l.length
      · have hgo' : (k : Int) < (l.length : Int) := by omega
        have hw1 : IntKind.i64.wrap ((k : Int) - 1) = ((k - 1 : Nat) : Int) := by rw [i64_ok _ (by omega) (by omega)]; omega
        have hw2 : IntKind.i64.wrap ((k : Int) + 1) = ((k + 1 : Nat) : Int) := by rw [i64_ok _ (by omega) (by omega)]; omega
        obtain ⟨c0, c1, -, -⟩ := R.out.cells hgo
        obtain ⟨d0, d1, -, -⟩ := R.out.cells (show k - 1 < l.length by omega)
        obtain ⟨⟨x0, x1⟩, hx⟩ : ∃ x, l[k] = x := ⟨_, rfl⟩
        obtain ⟨⟨y0, y1⟩, hy⟩ : ∃ y, l[k - 1] = y := ⟨_, rfl⟩
        rw [hx] at c0 c1
        rw [hy] at d0 d1
        simp only at c0 c1 d0 d1
        have KK : Hid (keeps l.toArray k = decide (¬ (x0 = y0 ∧ x1 = y1))) := by
          show _ = _
          unfold keeps
          have e1 : l.toArray[k]! = (x0, x1) := by simp [hgo, hx]
          have e2 : l.toArray[k - 1]! = (y0, y1) := by simp [show k - 1 < l.length by omega, hy]
          rw [e1, e2]
          rw [decide_eq_decide]
          simp; omega
        clear hx hy
        by_cases hxy : x0 = y0 ∧ x1 = y1
        · obtain ⟨rfl, rfl⟩ := hxy
          go_wp2_with fail
          go_region
          have hwn : IntKind.i64.wrap ((l.length : Int) - (k : Int)) = ((l.length - k : Nat) : Int) := by rw [i64_ok _ (by omega) (by omega)]; omega
          go_wp2_with fail
          clear c0 c1 d0 d1
          go_loopw [3, 5] (fun v3 v5 wr => ∃ (kk k2 : Nat) (m : List Pr), v3 = (.int .i64 (kk)) ∧ v5 = (.int .i64 (k2)) ∧ 1 ≤ k2 ∧ k + k2 ≤ l.length ∧ Hid (RwB w g C m wr) ∧ Hid (CompInv l.toArray (k + k2) kk m.toArray)) (fun _ v5 _ => l.length - (intOf v5).toNat)
          case atStart => exact ⟨k, 1, l, rfl, rfl, Nat.le_refl _, by omega, R.out.drew, CompInv.start A.out KK.out⟩
          case round =>
            obtain ⟨kk, k2, m, rfl, rfl, h1, hle, R2, I2⟩ := hrel
            have hkk := I2.out.lt
            have hms : m.length = l.length := by have := I2.out.size; simpa using this
            by_cases hlt2 : k + k2 < l.length
            · have g1 : (k2 : Int) < ((l.length - k : Nat) : Int) := by omega
              have w3 : IntKind.i64.wrap ((k2 : Int) - 1) = ((k2 - 1 : Nat) : Int) := by rw [i64_ok _ (by omega) (by omega)]; omega
              have w4 : IntKind.i64.wrap ((k2 : Int) + 1) = ((k2 + 1 : Nat) : Int) := by rw [i64_ok _ (by omega) (by omega)]; omega
              have w5 : IntKind.i64.wrap ((kk : Int) + 1) = ((kk + 1 : Nat) : Int) := by rw [i64_ok _ (by omega) (by omega)]; omega
              have w6 : ((k2 - 1 : Nat) : Int) < ((l.length - k : Nat) : Int) := by omega
              have w7 : (kk : Int) < (l.length : Int) := by omega
              obtain ⟨c0, c1, -, -⟩ := R2.out.cells (show k + k2 < m.length by omega)
              obtain ⟨d0, d1, -, -⟩ := R2.out.cells (show k + k2 - 1 < m.length by omega)
              obtain ⟨e0, e1, f0, f1⟩ := R2.out.cells (show kk < m.length by omega)
              obtain ⟨⟨x0, x1⟩, hx⟩ : ∃ x, m[k + k2] = x := ⟨_, rfl⟩
              obtain ⟨⟨y0, y1⟩, hy⟩ : ∃ y, m[k + k2 - 1] = y := ⟨_, rfl⟩
              rw [hx] at c0 c1
              rw [hy] at d0 d1
              have q1 : (k + k2) * 2 = k * 2 + k2 * 2 := by omega
              have q2 : (k + k2 - 1) * 2 = k * 2 + (k2 - 1) * 2 := by omega
              rw [q1] at c0 c1
              rw [q2] at d0 d1
              clear q1 q2
              simp only at c0 c1 d0 d1
              have ex : l.toArray[k + k2]! = (x0, x1) := by
                have := I2.out.high (k + k2) (by omega)
                rw [← this]; simp [show k + k2 < m.length by omega, hx]
              have ey : l.toArray[k + k2 - 1]! = (y0, y1) := by
                have := I2.out.high (k + k2 - 1) (by omega)
                rw [← this]; simp [show k + k2 - 1 < m.length by omega, hy]
              have KX : Hid (l.toArray[k + k2]! = (x0, x1)) := ex
              have KK2 : Hid (keeps l.toArray (k + k2) = decide (¬ (x0 = y0 ∧ x1 = y1))) := by
                show _ = _
                unfold keeps
                rw [ex, ey]
                rw [decide_eq_decide]
                simp; omega
              clear hx hy ex ey
              generalize m[kk].1 = o0 at e0
              generalize m[kk].2 = o1 at e1
              by_cases hxy : x0 = y0 ∧ x1 = y1
              · obtain ⟨rfl, rfl⟩ := hxy
                go_wp2_with fail
                go_region
                all_goals
                  go_wp2_with fail
                  refine ⟨⟨kk, k2 + 1, m, rfl, by simp, by omega, by omega, R2.out.drew, ?_⟩, by simp [intOf]; omega⟩
                  exact I2.out.skip KK2.out
              · have key : (¬ x0 = y0) ∨ (x0 = y0 ∧ ¬ x1 = y1) := by
                  by_cases q : x0 = y0
                  · exact .inr ⟨q, fun q' => hxy ⟨q, q'⟩⟩
                  · exact .inl q
                have KT : Hid (keeps l.toArray (k + k2) = true) := by
                  show _ = _
                  rw [KK2.out, decide_eq_true_iff]; exact hxy
                clear hxy KK2
                have R3 := hid (R2.out.drew.set (show kk < m.length by omega) (x0, x1))
                rcases key with r1 | ⟨rfl, r2⟩
                all_goals
                  go_wp2_with fail
                  go_region
                  all_goals
                    go_wp2_with fail
                    (try go_region)
                    go_wp2_with fail
                    refine ⟨⟨kk + 1, k2 + 1, m.set kk (x0, x1), by simp, by simp, by omega, by omega, R3.out, ?_⟩, by simp [intOf]; omega⟩
                    have := I2.out.keep (by simpa using hlt2) KT.out
                    rw [KX.out] at this
                    show CompInv _ _ _ _
                    rw [show k + (k2 + 1) = k + k2 + 1 by omega]
                    simpa using this
            · have hend : k + k2 = l.length := by omega
              have g1 : ¬ (k2 : Int) < ((l.length - k : Nat) : Int) := by omega
              have w7 : (kk : Int) ≤ (l.length : Int) := by omega
              have hcl : ∀ ty, (Builtin.clear_ #[22] ty #[.slice (some ⟨g, kk * 2, none⟩) (l.length - kk) (cap - kk)]).run Try.prog wr = .ok (.tuple #[]) (wr.setCells g (kk * 2) (Builtin.zeroCells #[Value.int .u64 0, .int .u64 0] (l.length - kk)).toList) :=
                fun ty => run_clear_rows wr _ 52 ty (.agg #[.int .u64 0, .int .u64 0]) Try.underlying22 Try.zeroValue52 g (kk * 2) _ _ (by omega) (zero_cells_one _) (fun j hj => by
                  have hj : j < (l.length - kk) * 2 := by have := zero_cells_len (l.length - kk); rw [← this]; exact hj
                  obtain ⟨p0, p1, -, -⟩ := R2.out.cells (show kk + j / 2 < m.length by omega)
                  rcases Nat.mod_two_eq_zero_or_one j with e | e
                  · rw [show kk * 2 + j = (kk + j / 2) * 2 by omega, p0]; rfl
                  · rw [show kk * 2 + j = (kk + j / 2) * 2 + 1 by omega, p1]; rfl) (fun j hj => by
                  have hj : j < (l.length - kk) * 2 := by have := zero_cells_len (l.length - kk); rw [← this]; exact hj
                  obtain ⟨-, -, p0, p1⟩ := R2.out.cells (show kk + j / 2 < m.length by omega)
                  rcases Nat.mod_two_eq_zero_or_one j with e | e
                  · rw [show kk * 2 + j = (kk + j / 2) * 2 by omega, p0]
                  · rw [show kk * 2 + j = (kk + j / 2) * 2 + 1 by omega, p1])
              go_wp2_with (first | (at_builtin; exact hcl _))
              go_ret
              have I := I2.out
              rw [hend] at I
              have dl : (dd l).length = kk := I.len
              have de : dd l = m.take kk := by
                refine List.ext_getElem? fun j => ?_
                by_cases hj : j < kk
                · have := I.low j hj
                  rw [List.getElem?_take, if_pos hj]
                  refine this.trans ?_
                  simp [show j < m.length by omega]
                · rw [List.getElem?_eq_none (by omega), List.getElem?_eq_none (by simp; omega)]
              refine ⟨by rw [dl]; rfl, ?_⟩
              rw [de]
              exact R2.out.tail (by omega) _
        · have KT : Hid (keeps l.toArray k = true) := by
            show _ = _
            rw [KK.out, decide_eq_true_iff]; exact hxy
          have key : (¬ x0 = y0) ∨ (x0 = y0 ∧ ¬ x1 = y1) := by
            by_cases q : x0 = y0
            · exact .inr ⟨q, fun q' => hxy ⟨q, q'⟩⟩
            · exact .inl q
          clear hxy KK
          rcases key with r1 | ⟨r1, r2⟩
          all_goals
            go_wp2_with fail
            go_region
            all_goals
              go_wp2_with fail
              refine ⟨⟨k + 1, by simp, by omega, by omega, R.out.drew, fun j hj => ?_⟩, by simp [intOf]; omega⟩
              by_cases e : j = k
              · subst e; exact KT.out
              · exact A.out j (by omega)
      · obtain rfl : k = l.length := by omega
        have h1 : ¬ (l.length : Int) < (l.length : Int) := by omega
        have hd := hid (dd_all A.out)
        go_wp2_with fail
        go_ret
        rw [hd.out]
        exact ⟨rfl, R.out⟩
end Go.Proofs.Ytlkdkhmdmgchbaa
namespace Go.Proofs.Ytlkdkhmdmgchbaa
set_option linter.unusedSimpArgs false
set_option linter.unusedVariables false
open Go.RowKit
attribute [local simp ↓] gav_bool gav_undef arun_nil ob_some kva_av kfree_free khfree_free khown_own klive_live knm_false chk_true ya_true gsel_tt gsel_ff gsel_tf gsel_ft vb_bool vi_int vstr_string avps_ptr avps_seg avp_ptr avagg_agg avtup_tup avb_bool avown_own shs_struct shsa_struct shsa_arr sharr_arr shl_slice shla_slice shla_arr shls_slice shls_str shi_int bc_true bc_false hd1_cons opc_some opc_none opn_some opn_none unc_not unc_neg gd_none gd_some as_move as_assign as_pick as_bin as_un as_conv as_load as_faddr as_field as_extract as_iaddr as_slice as_alloc as_box as_store as_build as_rows as_call as_append as_lookup as_mapUpdate as_makeMap as_range as_next as_entry as_index as_fn as_len as_min as_max stMove stPick stBin stUn stConv stLoad stFaddr stField stExtract stIaddr stSlice stAlloc stBox stStore stBuild stIndex stRows stCall stAppend stFn stLen stMin stMax opd_tmp opd_const opd_func rawL_nil rawL_cons raw_c raw_st raw_a opr_e zr_nil zr_cons lvd_live hod_own obd_some obd_none kvd_av chd_true vid_int lk_cons lk_nil ins_nil ins_cons cells_zero cells_succ spread1_c spread1_own spread1_ptr spread1_fn spread1_seg spreadL_nil spreadL_cons spread_agg spread_c spread_own spread_seg spread_ptr spread_fn ex_zero ex_succ ops_e opb_none opb_int spreadD_agg spreadD_c spreadD_own spreadD_seg fillO_nil fillO_cons argsOf_nil argsOf_cons dvOf_c dvOf_seg dvOf_own dvOf_agg zrL_nil zrL_cons hdd_c hdd_seg hdd_own clz_e clv_raw clv_f callD_e dst0_n dst0_nil dst0_own goneH_e capc_ptr capc_seg capc_c capN_nil capN_cons capD_nil capD_cons deadZ_nil deadZ_cons
attribute [local simp] dok_some dok_none dflt_tmp dflt_vt dflt_cell dflt_zn dflt_nm dflt_hd dflt_df puts_nil puts_cons wr_some wr_none cst_agg cst_int cst_bool cst_string cst_slice cst_tuple cst_nilFunc cst_pointer cst_func bin_add bin_sub bin_mul bin_quo bin_rem bin_eql bin_neq bin_lss bin_leq bin_gtr bin_geq bin_bool bin_aggs binT_bool binT_aggs shbd_bool eqb_eql eqb_neq bin_slice bin_str_eql bin_str_neq bin_str_lss bin_str_add nz_v nz_n nz_s nz_p nz_f nz_st atz_v atz_n atz_s atz_p atz_f atz_st atz_agg atR_one atR_tup crow_nil crow_cons slc_c slc_n slc_own slc_nil raws setR placesT_nil placesT_cons zc chunk zsAll ocD_v ocD_n ocD_s ocD_p ocD_f ocD_st nrm_v nrm_n nrm_s nrm_p nrm_f nrm_st isV_one isV_tup isV_c isV_agg isV_v isV_n isV_s isV_p isV_f isV_st argRows Sh.agg zds_nil zds_e zds_v zds_s vcells_agg vcells_int vcells_bool vcells_string vcells_slice vcells_pointer toList_lit map_nilL map_consL nzr_e rowsOc_nil rowsOc_cons rowsOc_RD nzr_RD foks_nil foks_cons fok_tmp fok_vt fok_cell fok_nm fok_zn fok_hd fok_df Fv_c Fv_seg Fv_tup Fv_agg Fv_ptr Fv_ptrs Fv_fn Fv_fnd Fv_own Fv_ownd Fv_nown Fv_vown FvL_nil FvL_cons kvp_av hdp_some subz frz Uz Nm Uh vw_nb vw_zo vw_zf vw_hb tb_nil tb_cons fzc_nil fzc_cons fzcaps_nil fzcaps_cons ty2 ty3 ty4 ty5 ty6 ty7 ty8 ty9 ty10 ty11 ty12 ty13 ty14 ty15 ty16 ty17 ty18 ty19 ty20 ty21 ty22 ty23 ty24 ty25 ty26 ty27 ty30 ty40 ty48 ty50 ty51 ty52 ty55 ty57 ty62 ty63 ty85 ty94 ty101 ty121 ty122 ty123 ty124 ty125 ty126 ty128 ty148 ty149 ty151 ty164 ty165 ty179 ty182 ty196 ty203 ty205 ty209 ty211 ty215 ty216 ty217 ty218 ty219 ty220 ty221 ty223 ty224 ty225 ty226 ty227 Value.oneCell'
set_option maxRecDepth 100000
set_option maxHeartbeats 4000000 in
theorem sortedfunc_ct (l : List Pr) (hn : l.length ≤ 1000000) : Ct Try.prog 117 [itV (told1 l), .c (.v (.func (.func 56) #[] #[]))] (some 52) (.one (.c (RD (srt l)))) := by
  have cc := collect_ct l hn
  have cs := sort_ku l (by omega)
  refine ct_intro Try.func117 rfl Try.ntmps117 (by simp) (fun W0 Z => ?_)
  with_reducible repeat first | refine Jt.i ?_ | refine .g (by decide) ?_
  refine AW.at_ (fun L hL => ?_)
  simp at hL
  subst hL
  refine AW.rc 1 fun K hK => ?_
  repeat (with_reducible refine .s fun X Y Z W => ?_; simp; (first | refine Z.out _ _ ?_ | refine W.out _ ?_ | refine ⟨by kernel_rfl, W.out _ ?_⟩); clear Z W X Y; simp); (try refine .n ?_)
  refine Jt.f hK ?_
  clear hK K
  with_reducible repeat first | refine Jt.i ?_ | refine .g (by decide) ?_
  refine AW.rc 10 fun K hK => ?_
  repeat (with_reducible refine .s fun X Y Z W => ?_; simp; (first | refine Z.out _ _ ?_ | refine W.out _ ?_ | refine ⟨by kernel_rfl, W.out _ ?_⟩); clear Z W X Y; simp); (try refine .n ?_)
  refine .s fun K1 K2 hK1 hK2 => ?_
  simp
  refine orr_l ⟨by kernel_rfl, .inr (.inl ⟨_, _, _, cc, ?_⟩)⟩
  (try simp)
  refine hK1.out _ _ ?_
  clear hK1 hK2 K1 K2
  (try simp)
  repeat (with_reducible refine .s fun X Y Z W => ?_; simp; (first | refine Z.out _ _ ?_ | refine W.out _ ?_ | refine ⟨by kernel_rfl, W.out _ ?_⟩); clear Z W X Y; simp); (try refine .n ?_)
  refine Jt.f hK ?_
  clear hK K
  with_reducible repeat first | refine Jt.i ?_ | refine .g (by decide) ?_
  refine AW.rc 20 fun K hK => ?_
  repeat (with_reducible refine .s fun X Y Z W => ?_; simp; (first | refine Z.out _ _ ?_ | refine W.out _ ?_ | refine ⟨by kernel_rfl, W.out _ ?_⟩); clear Z W X Y; simp); (try refine .n ?_)
  refine .s fun K1 K2 hK1 hK2 => ?_
  simp
  refine orr_r ?_
  simp [stOver_cons, overAny]
  refine ⟨by kernel_rfl, _, cs, ?_⟩
  (try simp)
  refine hK1.out _ _ ?_
  clear hK1 hK2 K1 K2
  (try simp)
  repeat (with_reducible refine .s fun X Y Z W => ?_; simp; (first | refine Z.out _ _ ?_ | refine W.out _ ?_ | refine ⟨by kernel_rfl, W.out _ ?_⟩); clear Z W X Y; simp); (try refine .n ?_)
  refine Jt.f hK ?_
  clear hK K
  with_reducible repeat first | refine Jt.i ?_ | refine .g (by decide) ?_
  refine AW.rc 30 fun K hK => ?_
  repeat (with_reducible refine .s fun X Y Z W => ?_; simp; (first | refine Z.out _ _ ?_ | refine W.out _ ?_ | refine ⟨by kernel_rfl, W.out _ ?_⟩); clear Z W X Y; simp); (try refine .n ?_)
  refine Jt.f hK ?_
  clear hK K
  with_reducible repeat first | refine Jt.i ?_ | refine .g (by decide) ?_
  exact nx_reto (t := 4) (n := 11) (y := 22) (zs := [100011]) (rr := [(.zn 22, .zn .live), (.zn 100011, .zn .live)]) (.inr rfl) rfl (by kernel_rfl) (by kernel_rfl) (by kernel_rfl) (by simp) rfl
end Go.Proofs.Ytlkdkhmdmgchbaa
namespace Go.Proofs.Ytlkdkhmdmgchbaa
set_option linter.unusedSimpArgs false
set_option linter.unusedVariables false
open Go.RowKit Go.Lib

theorem flat_P : ∀ l : List Pr, flatP l = flat l
  | [] => rfl
  | p :: l => by simp [flatP, flat, flat_P l]
theorem dd_nil : dd [] = [] := rfl
set_option maxRecDepth 100000 in
theorem compact_nil (w : World) : Calls Try.prog 116 #[.slice none 0 0] w fun e w' => e = .returned (.slice none 0 0) ∧ w' = w := by
  go_enter Try.func116, Try.ntmps116
  go_wp2_with fail
  go_ret
  exact ⟨rfl, rfl⟩
theorem dd_len (l : List Pr) : (dd l).length ≤ l.length := by
  unfold dd compactUpTo
  rw [List.length_map]
  refine Nat.le_trans (List.length_filter_le _ _) ?_
  simp
theorem compact_own {Z : Zone} {w : World} {v : Value} {l : List Pr} (h : RowAt Z w v 52 2 (l.map PD) True) (hn : l.length ≤ 1000000000) :
    Calls Try.prog 116 #[v] w fun e w' => ∃ v', e = .returned v' ∧ Keeps (fun k => v.ownBlock ≠ some k) w w' ∧ POwn 0 w' v' (dd l) ∧ (∀ g, v'.ownBlock = some g → v.ownBlock = some g) := by
  have how := rowat_to h trivial
  rcases how.2 with ⟨rfl, h0⟩ | ⟨g, cap, cur, rfl, -, hg, h1, h2, h3, h4⟩
  · have hl : l = [] := List.length_eq_zero_iff.1 h0
    subst hl
    refine (compact_nil w).mono ?_
    rintro e w' ⟨rfl, rfl⟩
    exact ⟨_, rfl, Keeps.refl _ _, POwn.nil _ _, fun g hg => hg⟩
  · refine (compact_raw l g cap cur.size w ⟨Keeps.refl _ _, by omega, cur, hg, rfl, h4⟩ h1 hn h2).mono ?_
    rintro e w' ⟨rfl, k, k1, cur', k2, k3, k4⟩
    refine ⟨_, rfl, ⟨k.os, k.tape, k.output, k.size, fun i hi hb => k.block i hi (fun e => hb (by rw [e]; rfl))⟩, ?_, fun g' hg' => hg'⟩
    have := dd_len l
    refine ⟨by rw [← flat_P, flatP_len], .inr ⟨g, cap, cur', rfl, Nat.zero_le _, k2, by omega, h2, k3.trans h3, ?_⟩⟩
    rw [← flat_P]; exact k4
theorem POwn.up {B : Nat} {w : World} {v : Value} {l : List Pr} (h : POwn 0 w v l) (hB : ∀ g, v.ownBlock = some g → B ≤ g) : POwn B w v l := by
  refine ⟨h.1, ?_⟩
  rcases h.2 with h | ⟨g, cap, cur, rfl, _, rest⟩
  · exact .inl h
  · exact .inr ⟨g, cap, cur, rfl, hB g rfl, rest⟩
def ofS (l : List Pr) : List Pr := dd (srt l)
set_option maxRecDepth 100000 in
set_option maxHeartbeats 2000000 in
theorem of_ct (l : List Pr) (hn : l.length ≤ 1000000) : Ct Try.prog 59 [.c (RD l)] none (.tup [.c (RD (ofS l)), dI 0]) := ct1 fun Z w v h => by
  have H := hid h; clear h
  have C2 := hid (sortedfunc_ct l hn)
  have hs := srt_len l
  have hd := dd_len (srt l)
  have el : ofS l = dd (srt l) := rfl
  go_enter Try.func59, Try.ntmps59
  go_wp2_with fail
  refine (values_ca l Z _ #[v] ⟨rfl, fun i x hx => by
    match i, hx with
    | 0, hx => simp at hx; subst hx; exact H.out⟩).mono ?_
  rintro e w1 ⟨v1, Zn, rfl, B1, z1, r1⟩
  go_wp2_with fail
  refine (C2.out (fun g => Z g ∨ Zn g) _ #[v1, .func (.func 56) #[] #[]] ⟨rfl, fun i x hx => by
    match i, hx with
    | 0, hx => simp at hx; subst hx; exact r1
    | 1, hx => simp at hx; subst hx; exact .v _⟩).mono ?_
  rintro e w2 ⟨v2, Zn2, rfl, B2, z2, r2, q2⟩
  go_wp2_with fail
  refine (compact_own r2 (by omega)).mono ?_
  rintro e w3 ⟨v3, rfl, k3, o3, q3⟩
  have s1 := B1.size
  have s2 := B2.size
  have BB : Hid (Below w.heap.size w w3) := by
    have b12 := B1.trans (B2.mono (by omega))
    exact ⟨k3.os.trans b12.os, k3.tape.trans b12.tape, k3.output.trans b12.output, Nat.le_trans b12.size k3.size, fun k hk => (k3.block k (by omega) (fun e => by have := (q2 k e).1; omega)).trans (b12.block k hk)⟩
  have QQ : Hid (POwn w.heap.size w3 v3 (dd (srt l))) := o3.up fun g hg => by have := (q2 g (q3 g hg)).1; omega
  rw [← el] at QQ hd
  clear r1 r2 q2 q3 k3 z1 z2 C2 o3 el
  generalize ofS l = m at *
  obtain ⟨p3, c3, rfl⟩ := QQ.out.row.form
  have g3 : ¬ (1048576 : Int) < (m.length : Int) := by omega
  go_wp2_with fail
  refine bodyPost_ret (v := .tuple #[.slice p3 m.length c3, .int .i64 0]) (by simp [results, Try.results59, go_sem]) rfl ?_
  exact ctr_tup2 BB.out (ctr_ownp QQ.out) (.v _)
end Go.Proofs.Ytlkdkhmdmgchbaa
namespace Go.Proofs.Ytlkdkhmdmgchbaa
set_option linter.unusedSimpArgs false
set_option linter.unusedVariables false
open Go.Lib

theorem lt_tri (x y : Pr) : lt x y ∨ x = y ∨ lt y x := by
  obtain ⟨x0, x1⟩ := x
  obtain ⟨y0, y1⟩ := y
  simp only [lt, Prod.mk.injEq]
  omega
theorem lt_tr {x y z : Pr} (h : lt x y) (k : lt y z) : lt x z := by unfold lt at *; omega
theorem srt_sorted (l : List Pr) : (srt l).Pairwise fun x y => ¬ lt y x := by
  have := List.pairwise_mergeSort (le := fun x y : Pr => !(ltOf pcmp) y x) (fun a b c h1 h2 => by
    simp only [ltOf_lt, Bool.not_eq_true', decide_eq_false_iff_not] at *
    unfold lt at *; omega) (fun a b => by
    simp only [ltOf_lt, Bool.or_eq_true, Bool.not_eq_true', decide_eq_false_iff_not]
    unfold lt; omega) l
  refine List.Pairwise.imp ?_ this
  intro a b h
  simpa [ltOf_lt] using h
theorem dd_sorted {s : List Pr} (hs : s.Pairwise fun x y => ¬ lt y x) : ∀ m, m ≤ s.length → Rises (compactUpTo s.toArray m) ∧ ∀ q, q ∈ compactUpTo s.toArray m ↔ q ∈ s.take m
  | 0, _ => ⟨Rises.nil, fun q => by simp [compactUpTo]⟩
  | m + 1, h => by
    obtain ⟨ih1, ih2⟩ := dd_sorted hs m (by omega)
    rw [compactUpTo_succ]
    have e : s.toArray[m]! = s[m] := by simp [show m < s.length by omega]
    have ts : s.take (m + 1) = s.take m ++ [s[m]] := List.take_succ_eq_append_getElem (by omega)
    have le : ∀ q ∈ s.take m, ¬ lt s[m] q := fun q hq => by
      obtain ⟨i, hi, rfl⟩ := List.mem_iff_getElem.1 hq
      rw [List.length_take] at hi
      rw [List.getElem_take]
      exact List.pairwise_iff_getElem.1 hs i m (by omega) (by omega) (by omega)
    rw [ts]
    by_cases hk : keeps s.toArray m = true
    · rw [if_pos hk, e]
      have lq : ∀ q ∈ s.take m, lt q s[m] := fun q hq => by
        have h0 : m ≠ 0 := by rintro rfl; simp at hq
        have hne : s[m] ≠ s[m - 1] := by
          have := hk
          simp only [keeps, decide_eq_true_eq] at this
          rcases this with h | h
          · exact absurd h h0
          · rw [e] at h
            simpa [show m - 1 < s.length by omega] using h
        have h1 : ¬ lt s[m] s[m - 1] := List.pairwise_iff_getElem.1 hs (m - 1) m (by omega) (by omega) (by omega)
        have h2 : lt s[m - 1] s[m] := by
          rcases lt_tri s[m - 1] s[m] with h | h | h
          · exact h
          · exact absurd h.symm hne
          · exact absurd h h1
        obtain ⟨i, hi, rfl⟩ := List.mem_iff_getElem.1 hq
        rw [List.length_take] at hi
        rw [List.getElem_take]
        by_cases hi' : i = m - 1
        · subst hi'; exact h2
        · have h3 : ¬ lt s[m - 1] s[i] := List.pairwise_iff_getElem.1 hs i (m - 1) (by omega) (by omega) (by omega)
          rcases lt_tri s[i] s[m - 1] with h | h | h
          · exact lt_tr h h2
          · rw [h]; exact h2
          · exact absurd h h3
      refine ⟨?_, fun q => ?_⟩
      · unfold Rises
        rw [List.pairwise_append]
        refine ⟨ih1, List.pairwise_singleton _ _, fun a ha b hb => ?_⟩
        simp only [List.mem_singleton] at hb
        subst hb
        exact lq a ((ih2 a).1 ha)
      · simp only [List.mem_append, ih2]
    · rw [if_neg hk, List.append_nil]
      refine ⟨ih1, fun q => ?_⟩
      rw [ih2]
      simp only [List.mem_append, List.mem_singleton]
      refine ⟨.inl, ?_⟩
      rintro (h | rfl)
      · exact h
      · simp only [keeps, decide_eq_true_eq, not_or, Decidable.not_not] at hk
        obtain ⟨h0, h1⟩ := hk
        rw [e] at h1
        have e1 : s.toArray[m - 1]! = s[m - 1] := by simp [show m - 1 < s.length by omega]
        rw [e1] at h1
        rw [h1]
        exact List.mem_take_iff_getElem.2 ⟨m - 1, by omega, rfl⟩
theorem ofS_eq (l : List Pr) : ofS l = ofL l := by
  obtain ⟨h1, h2⟩ := dd_sorted (srt_sorted l) (srt l).length (Nat.le_refl _)
  refine rises_ext h1 (ofL_rises l) fun p => ?_
  rw [ofL_mem]
  refine (h2 p).trans ?_
  rw [List.take_length]
  exact List.mem_mergeSort ..
theorem of2_ct (l : List Pr) (hn : l.length ≤ 1000000) : Ct Try.prog 59 [.c (RD l)] none (.tup [.c (RD (ofL l)), dI 0]) := by
  have := of_ct l hn
  rwa [ofS_eq] at this
end Go.Proofs.Ytlkdkhmdmgchbaa
