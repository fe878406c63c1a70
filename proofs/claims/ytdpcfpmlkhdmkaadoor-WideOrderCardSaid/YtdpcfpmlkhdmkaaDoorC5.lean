/- The law WideOrder of colanderlaw01 answers true at every row of wide numbers and every two wide numbers, and its arguments read afterwards as before. No condition beyond those of the given statement. -/
import Derived.Test.YtdpcfpmlkhdmkaaDoorL5
import Derived.Test.YtdpcfpmlkhdmkaaDoorG1
namespace Go.Proofs.YtdpcfpmlkhdmkaaDoor
open Go.ChangeShapes Go.WideShapes Go.ChangeAt Go.RowKit Go.Joins Go.Deep

set_option maxRecDepth 100000 in
theorem w_row {H : Type} {enc : TypeId × Value → H} {W : World} {base n : Nat} {held : Bool} {v : Value} {y : DataW H × List MemPlace} (h : DataW.trod enc Tryd.prog W base (fun _ => true) held n 22 [v] = some y) :
    ∃ l, WRow W v l ∧ WU l ∧ (l.length : Int) ≤ 9223372036854775807 := by
  rcases open_slice Tryd.underlying22 h with ⟨e, -⟩ | ⟨a, len, cap, m, k, D, Pl, e, -, hlc, hm, hmm, -, hx⟩
  · simp at e
    subst e
    exact ⟨[], ⟨none, 0, rfl, Nat.le_refl _, fun _ => rfl, fun h => by simp at h⟩, fun _ h => (by cases h), by simp⟩
  · simp at e
    subst e
    simp at hmm
    subst hmm
    rw [cells27] at hx
    obtain ⟨f, hf⟩ := choose_lt (n := m) (α := Int × Int) (p := fun i x => (U64 x.1 ∧ U64 x.2) ∧ W.cell? (a.add (i * 2)) = some (.int .u64 x.1) ∧ W.cell? ((a.add (i * 2)).add 1) = some (.int .u64 x.2)) (fun i hi => by
      obtain ⟨cs', h1, h2⟩ := hx i hi
      obtain ⟨x, b, rfl, u⟩ := wide_data h2
      obtain ⟨-, -, hc⟩ := World.cells?_some h1
      exact ⟨(x, b), u, by simpa [Addr.add] using hc 0 (by omega), by simpa using hc 1 (by omega)⟩)
    refine ⟨(List.range len).map f, ⟨some a, m, by simp, by simpa using hlc, fun h => (by cases h), fun hl => ?_⟩, ?_, ?_⟩
    · simp at hl
      have h0 := (hf 0 (by omega)).2.1
      have hs : a.spot = none := by simpa [Addr.add] using World.cell?_spot h0
      obtain ⟨g, o, s⟩ := a
      simp at hs
      subst hs
      refine ⟨g, o, rfl, fun j x hj => ?_⟩
      rw [List.getElem?_map, Option.map_eq_some_iff] at hj
      obtain ⟨i, hi, hfi⟩ := hj
      obtain ⟨hi', rfl⟩ := List.getElem?_eq_some_iff.1 hi
      simp at hi' hfi
      obtain ⟨-, q0, q1⟩ := hf j (by omega)
      rw [hfi] at q0 q1
      have e0 : (⟨g, o, none⟩ : Addr).add (j * 2) = ⟨g, o + j * 2, none⟩ := by unfold Addr.add; split <;> simp_all
      rw [e0] at q0 q1
      exact ⟨q0, by simpa [Addr.add] using q1⟩
    · intro x hmem
      simp only [List.mem_map, List.mem_range] at hmem
      obtain ⟨i, hi, e⟩ := hmem
      have := (hf i (by omega)).1
      rw [e] at this
      exact this
    · have := hm; simp [maxLen] at this ⊢; omega

theorem ord_reads (os : Os) {H : Type} (enc : TypeId × Value → H) : ∃ places, DataW.whole enc Tryd.prog ((laidWorld os).forCall (fun _ _ => 0) ⟨#[], #[.slice none 0 0, .agg #[.int .u64 0, .int .u64 0], .agg #[.int .u64 0, .int .u64 0]], []⟩).memory Tryd.f8.params.toList Rows.wideOrderSpec.vars false #[.slice none 0 0, .agg #[.int .u64 0, .int .u64 0], .agg #[.int .u64 0, .int .u64 0]].toList 8 = some ([.nil, .agg [.lit (.int .u64 0), .lit (.int .u64 0)], .agg [.lit (.int .u64 0), .lit (.int .u64 0)]], [], places) :=
  ⟨[], by kernel_rfl⟩
theorem ord_met (os : Os) : laidMet Tryd.prog Rows.wideOrderRow.laid ((laidWorld os).forCall (fun _ _ => 0) ⟨#[], #[.slice none 0 0, .agg #[.int .u64 0, .int .u64 0], .agg #[.int .u64 0, .int .u64 0]], []⟩).memory :=
  laidMet_of_run' 8 (by kernel_rfl) (by kernel_rfl)

set_option maxRecDepth 100000 in
theorem ord_contract (H : Type) (enc : TypeId × Value → H) (W : World) (base : Nat) (args : Array Value) (ds gs : List (DataW H)) (before : List MemPlace)
    (hval : ∀ (j : Nat) t v, Tryd.f8.params[j]? = some t → args[j]? = some v → Value.okWide Tryd.prog W .any base t v)
    (hW : DataW.Whole enc Tryd.prog Tryd.f8.params.toList Rows.wideOrderSpec.vars false W args.toList ds gs before) (hL : laidMetH Tryd.prog Rows.wideOrderRow.laid W) :
    Calls Tryd.prog 8 args W fun e W' => ∃ v, e = .returned v ∧ Rows.wideOrderSpec.post enc Tryd.prog Tryd.f8 false true false false W args v W' := by
  have hW' := hW
  obtain ⟨p, q, hA0, hV, rfl, hfz, hnd⟩ := hW
  have hA : DataW.TrodAll enc Tryd.prog W 0 (fun _ => true) true Tryd.f8.params.toList args.toList ds p := hA0
  have hAA := hA
  rw [Tryd.params8] at hA hval
  obtain ⟨v0, vs0, d0, ds0, p0, q0, hargs, rfl, rfl, h0, r0⟩ := trodAll_cons hA
  obtain ⟨v1, vs1, d1, ds1, p1, q1, rfl, rfl, rfl, h1, r1⟩ := trodAll_cons r0
  obtain ⟨v2, vs2, d2, ds2, p2, q2, rfl, rfl, rfl, h2, r2⟩ := trodAll_cons r1
  obtain ⟨rfl, rfl, rfl⟩ := trodAll_nil r2
  obtain rfl : args = #[v0, v1, v2] := by cases args; simp_all
  obtain ⟨rfl, rfl⟩ := trodVars_none hV
  obtain ⟨sa, sl, sc, rfl⟩ := okWide_slice Tryd.underlying22 (hval 0 22 v0 rfl rfl)
  obtain ⟨a0, a1, y0, y1, m0, rfl, rfl, rfl, hy0, hy1⟩ := open_agg2 Tryd.underlying27 (by kernel_rfl) cells27 (hval 1 27 v1 rfl rfl) h1
  obtain ⟨b0, b1, z0, z1, m1, rfl, rfl, rfl, hz0, hz1⟩ := open_agg2 Tryd.underlying27 (by kernel_rfl) cells27 (hval 2 27 v2 rfl rfl) h2
  obtain ⟨a, e0, rfl, wa⟩ := DataW.trod_int Tryd.underlying23 hy0
  obtain ⟨b, e1, rfl, wb⟩ := DataW.trod_int Tryd.underlying23 hy1
  obtain ⟨c, e2, rfl, wc⟩ := DataW.trod_int Tryd.underlying23 hz0
  obtain ⟨d, e3, rfl, wd⟩ := DataW.trod_int Tryd.underlying23 hz1
  simp at e0 e1 e2 e3
  subst e0 e1 e2 e3
  obtain ⟨fuel, h0'⟩ := h0
  obtain ⟨l, hr, hu, hlen⟩ := w_row (v := .slice sa sl sc) h0'
  simp only [List.append_nil] at hW'
  refine (order_any _ l a b c d W hr hu (u64_of_wf wa) (u64_of_wf wb) (u64_of_wf wc) (u64_of_wf wd) (one_of_laid hL) hlen).mono fun e W' ⟨he, hB⟩ => ?_
  subst he
  refine ⟨_, rfl, _, _, _, [], _, [], hW', ?_, args_again hAA hB ?_, ?_, World.keptBut_mono (fun p hp => hp.elim) (hB.frame (fun _ => False)), fun h => by cases h⟩
  · exact trodAll_cons_mk (shut_bool Tryd.underlying4 _) trodAll_mk0
  · rw [Tryd.params8]; decide +kernel
  · rfl

set_option maxRecDepth 100000 in
theorem ord_lifted (os : Os) (started : os.Started) (H : Type) (enc : TypeId × Value → H) (F : Stop.Interp) :
    ReturnsInHanded {} Tryd.checked os 8 .any ((OpenSpec.ofChange Rows.wideOrderSpec).preRow enc Tryd.prog Tryd.f8 Rows.wideOrderRow.domain false Rows.wideOrderRow.laid) (((OpenSpec.ofChange Rows.wideOrderSpec).at F).post enc Tryd.prog Tryd.f8 false true false false) := by
  obtain ⟨places, hx⟩ := ord_reads os enc
  refine returnsInHanded_of_row (C := Tryd.checked) (s := OpenSpec.ofChange Rows.wideOrderSpec) own started (by kernel_rfl) Tryd.func8
    (witness_row_at (enc := enc) (C := Tryd.checked) false (laidWorld os) #[.slice none 0 0, .agg #[.int .u64 0, .int .u64 0], .agg #[.int .u64 0, .int .u64 0]] rfl (by kernel_rfl) (by kernel_rfl) (by kernel_rfl)
      (OpenSpec.preRow_of_cond 8 hx (by kernel_rfl) (fun k hk => by cases hk) (by kernel_rfl) (ord_met os))) ?_
  intro W base args ds gs before hval hW _ _ _ hL _ _
  exact ord_contract H enc W base args ds gs before hval hW hL

theorem ord_said : Rows.WideOrderSaid :=
  OpenClaim.holds_of_cond 8 Tryd.f8 rfl rfl rfl rfl rfl rfl rfl ⟨rfl, rfl, rfl, rfl, rfl⟩ rfl rfl rfl rfl rfl (by kernel_rfl) Tryd.func8 (by kernel_rfl)
    (of_decide_eq_true (by kernel_rfl)) (by unfold Func.isWrapper; first | (rw [if_pos (by decide +kernel)]; kernel_rfl) | (rw [if_neg (by decide +kernel)]; exact ⟨rfl, rfl⟩))
    (fun os started H enc _ F => by rw [OpenClaim.pre_eq_preRow]; exact ord_lifted os started H enc F)

theorem ord_plain (f : FuncId) (fn : Func) (hf : Tryd.pinned.checked.prog.funcNamed "colander/colanderlaw01.WideOrder" = some f) (hfn : Tryd.pinned.checked.prog.funcs[f]? = some fn) :
    true = Tryd.pinned.checked.prog.looks [] ∧ ∀ (j : Nat) t, fn.params[j]? = some t → Tryd.pinned.checked.prog.wantsStandIn t = false := by
  obtain rfl : f = 8 := Option.some.inj ((show Tryd.prog.funcNamed "colander/colanderlaw01.WideOrder" = some 8 by kernel_rfl).symm.trans hf) |>.symm
  obtain rfl : fn = Tryd.f8 := (Option.some.inj (Tryd.func8.symm.trans hfn)).symm
  refine ⟨by kernel_rfl, fun j t ht => ?_⟩
  rw [Tryd.params8] at ht
  have ht := Array.mem_of_getElem? ht
  simp at ht
  rcases ht with rfl | rfl
  · exact (show Tryd.prog.wantsStandIn 22 = false by kernel_rfl)
  · exact (show Tryd.prog.wantsStandIn 27 = false by kernel_rfl)

theorem ord_card : Rows.WideOrderCardSaid :=
  Claim7.holds_tied_plain_at .later [] _ _ _ _ ord_said (fun _ h => by cases h) (by kernel_rfl) (fun _ h => by cases h) wideOrder_row_tie rfl ⟨rfl, rfl⟩ (by kernel_rfl) rfl ord_plain (by kernel_rfl)
end Go.Proofs.YtdpcfpmlkhdmkaaDoor
