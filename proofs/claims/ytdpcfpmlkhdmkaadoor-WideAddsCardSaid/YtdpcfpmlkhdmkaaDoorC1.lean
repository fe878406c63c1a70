/- The law WideAdds of colanderlaw01 answers true at every row of pairs of wide numbers, and its argument reads afterwards as before. No condition beyond those of the given statement. -/
import Derived.Test.YtdpcfpmlkhdmkaaDoorL1
import Derived.Test.YtdpcfpmlkhdmkaaDoorG1
namespace Go.Proofs.YtdpcfpmlkhdmkaaDoor
open Go.ChangeShapes Go.WideShapes Go.ChangeAt Go.RowKit Go.Joins Go.Deep

theorem cells41 : Tryd.prog.cellsOf 41 = 4 := by kernel_rfl
set_option maxRecDepth 100000 in
theorem q_data {H : Type} {enc : TypeId × Value → H} {W : World} {base n : Nat} {sp : Nat → Bool} {held : Bool} {cs : List Value} {y : DataW H × List MemPlace} (h : DataW.trod enc Tryd.prog W base sp held n 41 cs = some y) :
    ∃ a b c d : Int, cs = [.int .u64 a, .int .u64 b, .int .u64 c, .int .u64 d] ∧ U64 a ∧ U64 b ∧ U64 c ∧ U64 d := by
  obtain ⟨xs, m, -, -, hl, hn, hx⟩ := DataW.trod_array Tryd.underlying41 h
  rw [cells41] at hl
  obtain ⟨c0, c1, c2, c3, rfl⟩ := list4 hl
  have h0 := hx 0 (by omega)
  have h1 := hx 1 (by omega)
  rw [cells27] at h0 h1
  rw [List.getElem?_eq_getElem (by omega)] at h0 h1
  obtain ⟨a, b, e0, ua, ub⟩ := wide_data h0
  obtain ⟨c, d, e1, uc, ud⟩ := wide_data h1
  simp at e0 e1
  obtain ⟨rfl, rfl⟩ := e0
  obtain ⟨rfl, rfl⟩ := e1
  exact ⟨a, b, c, d, rfl, ua, ub, uc, ud⟩
set_option maxRecDepth 100000 in
theorem q_row {H : Type} {enc : TypeId × Value → H} {W : World} {base n : Nat} {held : Bool} {v : Value} {y : DataW H × List MemPlace} (h : DataW.trod enc Tryd.prog W base (fun _ => true) held n 40 [v] = some y) :
    ∃ l, QRow W v l ∧ QU l ∧ (l.length : Int) ≤ 9223372036854775807 := by
  rcases open_slice Tryd.underlying40 h with ⟨e, -⟩ | ⟨a, len, cap, m, k, D, Pl, e, -, hlc, hm, hmm, -, hx⟩
  · simp at e
    subst e
    exact ⟨[], ⟨none, 0, rfl, fun h => by simp at h⟩, fun _ _ _ _ h => (by cases h), by simp⟩
  · simp at e
    subst e
    simp at hmm
    subst hmm
    rw [cells41] at hx
    obtain ⟨f, hf⟩ := choose_lt (n := m) (α := Int × Int × Int × Int) (p := fun i x => (U64 x.1 ∧ U64 x.2.1 ∧ U64 x.2.2.1 ∧ U64 x.2.2.2) ∧ W.cell? (a.add (i * 4)) = some (.int .u64 x.1) ∧ W.cell? ((a.add (i * 4)).add 1) = some (.int .u64 x.2.1) ∧ W.cell? ((a.add (i * 4)).add 2) = some (.int .u64 x.2.2.1) ∧ W.cell? ((a.add (i * 4)).add 3) = some (.int .u64 x.2.2.2)) (fun i hi => by
      obtain ⟨cs', h1, h2⟩ := hx i hi
      obtain ⟨x, b, c, d, rfl, u⟩ := q_data h2
      obtain ⟨-, -, hc⟩ := World.cells?_some h1
      exact ⟨(x, b, c, d), u, by simpa [Addr.add] using hc 0 (by omega), by simpa using hc 1 (by omega), by simpa using hc 2 (by omega), by simpa using hc 3 (by omega)⟩)
    refine ⟨(List.range len).map f, ⟨some a, m, by simp, fun hl => ?_⟩, ?_, ?_⟩
    · simp at hl
      have h0 := (hf 0 (by omega)).2.1
      have hs : a.spot = none := by simpa [Addr.add] using World.cell?_spot h0
      obtain ⟨g, o, s⟩ := a
      simp at hs
      subst hs
      refine ⟨g, o, rfl, fun j x b c d hj => ?_⟩
      rw [List.getElem?_map, Option.map_eq_some_iff] at hj
      obtain ⟨i, hi, hfi⟩ := hj
      obtain ⟨hi', rfl⟩ := List.getElem?_eq_some_iff.1 hi
      simp at hi' hfi
      obtain ⟨-, q0, q1, q2, q3⟩ := hf j (by omega)
      rw [hfi] at q0 q1 q2 q3
      have e0 : (⟨g, o, none⟩ : Addr).add (j * 4) = ⟨g, o + j * 4, none⟩ := by unfold Addr.add; split <;> simp_all
      rw [e0] at q0 q1 q2 q3
      exact ⟨q0, by simpa [Addr.add] using q1, by simpa [Addr.add] using q2, by simpa [Addr.add] using q3⟩
    · intro x b c d hmem
      simp only [List.mem_map, List.mem_range] at hmem
      obtain ⟨i, hi, e⟩ := hmem
      have := (hf i (by omega)).1
      rw [e] at this
      exact this
    · have := hm; simp [maxLen] at this ⊢; omega

theorem adds_reads (os : Os) {H : Type} (enc : TypeId × Value → H) : ∃ places, DataW.whole enc Tryd.prog ((laidWorld os).forCall (fun _ _ => 0) ⟨#[], #[.slice none 0 0], []⟩).memory Tryd.f4.params.toList Rows.wideAddsSpec.vars false #[Value.slice none 0 0].toList 8 = some ([.nil], [], places) :=
  ⟨[], by kernel_rfl⟩
theorem adds_met (os : Os) : laidMet Tryd.prog Rows.wideAddsRow.laid ((laidWorld os).forCall (fun _ _ => 0) ⟨#[], #[.slice none 0 0], []⟩).memory :=
  laidMet_of_run' 8 (by kernel_rfl) (by kernel_rfl)

set_option maxRecDepth 100000 in
theorem adds_contract (H : Type) (enc : TypeId × Value → H) (W : World) (base : Nat) (args : Array Value) (ds gs : List (DataW H)) (before : List MemPlace)
    (hval : ∀ (j : Nat) t v, Tryd.f4.params[j]? = some t → args[j]? = some v → Value.okWide Tryd.prog W .any base t v)
    (hW : DataW.Whole enc Tryd.prog Tryd.f4.params.toList Rows.wideAddsSpec.vars false W args.toList ds gs before) (hL : laidMetH Tryd.prog Rows.wideAddsRow.laid W) :
    Calls Tryd.prog 4 args W fun e W' => ∃ v, e = .returned v ∧ Rows.wideAddsSpec.post enc Tryd.prog Tryd.f4 false true false false W args v W' := by
  have hW' := hW
  obtain ⟨p, q, hA0, hV, rfl, hfz, hnd⟩ := hW
  have hA : DataW.TrodAll enc Tryd.prog W 0 (fun _ => true) true Tryd.f4.params.toList args.toList ds p := hA0
  have hAA := hA
  rw [Tryd.params4] at hA hval
  obtain ⟨v0, vs0, d0, ds0, p0, q0, hargs, rfl, rfl, h0, r0⟩ := trodAll_cons hA
  obtain ⟨rfl, rfl, rfl⟩ := trodAll_nil r0
  obtain rfl : args = #[v0] := by cases args; simp_all
  obtain ⟨rfl, rfl⟩ := trodVars_none hV
  obtain ⟨sa, sl, sc, rfl⟩ := okWide_slice Tryd.underlying40 (hval 0 40 v0 rfl rfl)
  obtain ⟨n, h0'⟩ := h0
  obtain ⟨l, hr, hu, hlen⟩ := q_row (v := .slice sa sl sc) h0'
  simp only [List.append_nil] at hW'
  refine (adds_any _ l W hr hu (one_of_laid hL) hlen).mono fun e W' ⟨he, hB⟩ => ?_
  subst he
  refine ⟨_, rfl, _, _, _, [], _, [], hW', ?_, args_again hAA hB ?_, ?_, World.keptBut_mono (fun p hp => hp.elim) (hB.frame (fun _ => False)), fun h => by cases h⟩
  · exact trodAll_cons_mk (shut_bool Tryd.underlying4 _) trodAll_mk0
  · rw [Tryd.params4]; decide +kernel
  · rfl

set_option maxRecDepth 100000 in
theorem adds_lifted (os : Os) (started : os.Started) (H : Type) (enc : TypeId × Value → H) (F : Stop.Interp) :
    ReturnsInHanded {} Tryd.checked os 4 .any ((OpenSpec.ofChange Rows.wideAddsSpec).preRow enc Tryd.prog Tryd.f4 Rows.wideAddsRow.domain false Rows.wideAddsRow.laid) (((OpenSpec.ofChange Rows.wideAddsSpec).at F).post enc Tryd.prog Tryd.f4 false true false false) := by
  obtain ⟨places, hx⟩ := adds_reads os enc
  refine returnsInHanded_of_row (C := Tryd.checked) (s := OpenSpec.ofChange Rows.wideAddsSpec) own started (by kernel_rfl) Tryd.func4
    (witness_row_at (enc := enc) (C := Tryd.checked) false (laidWorld os) #[.slice none 0 0] rfl (by kernel_rfl) (by kernel_rfl) (by kernel_rfl)
      (OpenSpec.preRow_of_cond 8 hx (by kernel_rfl) (fun k hk => by cases hk) (by kernel_rfl) (adds_met os))) ?_
  intro W base args ds gs before hval hW _ _ _ hL _ _
  exact adds_contract H enc W base args ds gs before hval hW hL

theorem adds_said : Rows.WideAddsSaid :=
  OpenClaim.holds_of_cond 4 Tryd.f4 rfl rfl rfl rfl rfl rfl rfl ⟨rfl, rfl, rfl, rfl, rfl⟩ rfl rfl rfl rfl rfl (by kernel_rfl) Tryd.func4 (by kernel_rfl)
    (of_decide_eq_true (by kernel_rfl)) (by unfold Func.isWrapper; first | (rw [if_pos (by decide +kernel)]; kernel_rfl) | (rw [if_neg (by decide +kernel)]; exact ⟨rfl, rfl⟩))
    (fun os started H enc _ F => by rw [OpenClaim.pre_eq_preRow]; exact adds_lifted os started H enc F)

theorem adds_plain (f : FuncId) (fn : Func) (hf : Tryd.pinned.checked.prog.funcNamed "colander/colanderlaw01.WideAdds" = some f) (hfn : Tryd.pinned.checked.prog.funcs[f]? = some fn) :
    true = Tryd.pinned.checked.prog.looks [] ∧ ∀ (j : Nat) t, fn.params[j]? = some t → Tryd.pinned.checked.prog.wantsStandIn t = false := by
  obtain rfl : f = 4 := Option.some.inj ((show Tryd.prog.funcNamed "colander/colanderlaw01.WideAdds" = some 4 by kernel_rfl).symm.trans hf) |>.symm
  obtain rfl : fn = Tryd.f4 := (Option.some.inj (Tryd.func4.symm.trans hfn)).symm
  refine ⟨by kernel_rfl, fun j t ht => ?_⟩
  rw [Tryd.params4] at ht
  have ht := Array.mem_of_getElem? ht
  simp at ht
  subst ht
  exact (show Tryd.prog.wantsStandIn 40 = false by kernel_rfl)

theorem adds_card : Rows.WideAddsCardSaid :=
  Claim7.holds_tied_plain_at .later [] _ _ _ _ adds_said (fun _ h => by cases h) (by kernel_rfl) (fun _ h => by cases h) wideAdds_row_tie rfl ⟨rfl, rfl⟩ (by kernel_rfl) rfl adds_plain (by kernel_rfl)
end Go.Proofs.YtdpcfpmlkhdmkaaDoor
