/- The law MergeSteps of colanderlaw12 answers true at every merge and every row of numbers, and its arguments read afterwards as before. No condition beyond those of the given statement. -/
import Derived.Test.YtlkdkhmdmgchbaaH23
import Derived.Test.YtlkdkhmdmgchbaaG3
namespace Go.Proofs.Ytlkdkhmdmgchbaa
open Go.ChangeShapes Go.WideShapes Go.ChangeAt Go.RowKit Go.Joins Go.Deep

theorem agg_of {cs : Array Value} {l : List Value} (h : cs.toList = l) : cs = l.toArray := by subst h; simp
section
variable {H : Type} {enc : TypeId × Value → H} {W : World} {base n : Nat} {held : Bool} {y : DataW H × List MemPlace}
set_option maxRecDepth 100000 in
theorem i_row {v : Value} (h : DataW.trod enc Try.prog W base (fun _ => true) held n 27 [v] = some y) : ∃ l, IRow W v l := by
  rcases open_slice Try.underlying27 h with ⟨e, -⟩ | ⟨a, len, cap, m, k, D, Pl, e, -, hlc, hm, hmm, -, hx⟩
  · simp at e
    subst e
    exact ⟨[], none, 0, rfl, by simp, fun h => by simp at h⟩
  · simp at e
    subst e
    simp at hmm
    subst hmm
    rw [cellsInt] at hx
    obtain ⟨f, hf⟩ := choose_lt (n := m) (α := Int) (p := fun i x => W.cell? (a.add (i * 1)) = some (.int .i64 x)) (fun i hi => by
      obtain ⟨cs', h1, h2⟩ := hx i hi
      obtain ⟨x, rfl, -⟩ := DataW.trod_int Try.underlying3 h2
      obtain ⟨-, -, hc⟩ := World.cells?_some h1
      exact ⟨x, by simpa [Addr.add] using hc 0 (by omega)⟩)
    refine ⟨(List.range len).map f, some a, m, by simp, by simp [maxLen] at hm ⊢; omega, fun hl => ?_⟩
    simp at hl
    have h0 := hf 0 (by omega)
    have hs : a.spot = none := by simpa [Addr.add] using World.cell?_spot h0
    obtain ⟨g, o, s⟩ := a
    simp at hs
    subst hs
    refine ⟨g, o, rfl, fun j x hj => ?_⟩
    rw [List.getElem?_map, Option.map_eq_some_iff] at hj
    obtain ⟨i, hi, hfi⟩ := hj
    obtain ⟨hi', rfl⟩ := List.getElem?_eq_some_iff.1 hi
    simp at hi' hfi
    have q0 := hf j (by omega)
    rw [hfi] at q0
    have e0 : (⟨g, o, none⟩ : Addr).add (j * 1) = ⟨g, o + j, none⟩ := by unfold Addr.add; split <;> simp_all
    rw [e0] at q0
    exact q0
end

theorem steps_reads (os : Os) {H : Type} (enc : TypeId × Value → H) : ∃ places, DataW.whole enc Try.prog ((wWorld os).forCall (fun _ _ => 0) ⟨#[], #[.agg #[.slice none 0 0, .slice none 0 0, .slice none 0 0, .slice none 0 0, .bool false, .int .i64 0, .slice none 0 0, .slice none 0 0], .slice none 0 0], []⟩).memory Try.f3.params.toList Rows.mergeStepsSpec.vars false #[.agg #[.slice none 0 0, .slice none 0 0, .slice none 0 0, .slice none 0 0, .bool false, .int .i64 0, .slice none 0 0, .slice none 0 0], .slice none 0 0].toList 8 = some ([.agg [.agg [.nil, .nil], .agg [.nil, .nil], .lit (.bool false), .lit (.int .i64 0), .agg [.nil, .nil]], .nil], [], places) :=
  ⟨[], by kernel_rfl⟩
theorem steps_met (os : Os) : laidMet Try.prog Rows.mergeStepsRow.laid ((wWorld os).forCall (fun _ _ => 0) ⟨#[], #[.agg #[.slice none 0 0, .slice none 0 0, .slice none 0 0, .slice none 0 0, .bool false, .int .i64 0, .slice none 0 0, .slice none 0 0], .slice none 0 0], []⟩).memory :=
  laidMet_of_run' 8 (by kernel_rfl) (by kernel_rfl)

set_option maxRecDepth 100000 in
theorem steps_contract (H : Type) (enc : TypeId × Value → H) (W : World) (base : Nat) (args : Array Value) (ds gs : List (DataW H)) (before : List MemPlace)
    (hval : ∀ (j : Nat) t v, Try.f3.params[j]? = some t → args[j]? = some v → Value.okWide Try.prog W .any base t v)
    (hW : DataW.Whole enc Try.prog Try.f3.params.toList Rows.mergeStepsSpec.vars false W args.toList ds gs before) (hL : laidMetH Try.prog Rows.mergeStepsRow.laid W) :
    Calls Try.prog 3 args W fun e W' => ∃ v, e = .returned v ∧ Rows.mergeStepsSpec.post enc Try.prog Try.f3 false true false false W args v W' := by
  have hW' := hW
  obtain ⟨p, q, hA0, hV, rfl, hfz, hnd⟩ := hW
  have hA : DataW.TrodAll enc Try.prog W 0 (fun _ => true) true Try.f3.params.toList args.toList ds p := hA0
  have hAA := hA
  rw [Try.params3] at hA hval
  obtain ⟨v0, vs0, d0, ds0, p0, q0, hargs, rfl, rfl, h0, r0⟩ := trodAll_cons hA
  obtain ⟨v1, vs1, d1, ds1, p1, q1, rfl, rfl, rfl, h1, r1⟩ := trodAll_cons r0
  obtain ⟨rfl, rfl, rfl⟩ := trodAll_nil r1
  obtain rfl : args = #[v0, v1] := by cases args; simp_all
  obtain ⟨rfl, rfl⟩ := trodVars_none hV
  obtain ⟨cs, rfl, hsz⟩ := okWide_struct Try.underlying26 (hval 0 26 v0 rfl rfl)
  obtain ⟨sa, sl, sc, rfl⟩ := okWide_slice Try.underlying27 (hval 1 27 v1 rfl rfl)
  obtain ⟨fuel0, h0'⟩ := h0
  obtain ⟨fuel1, h1'⟩ := h1
  obtain ⟨a0, a1, a2, a3, a4, a5, m, hcs, hm⟩ := merge_data h0'
  obtain rfl := agg_of hcs
  obtain ⟨l, hl⟩ := i_row (v := .slice sa sl sc) h1'
  simp only [List.append_nil] at hW'
  refine (msteps_any a0 a1 a2 a3 a4 a5 _ m l W hm hl).mono fun e W' ⟨he, hB⟩ => ?_
  subst he
  refine ⟨_, rfl, _, _, _, [], _, [], hW', ?_, args_again hAA hB ?_, ?_, World.keptBut_mono (fun p hp => hp.elim) (hB.frame (fun _ => False)), fun h => by cases h⟩
  · exact trodAll_cons_mk (shut_bool Try.underlying4 _) trodAll_mk0
  · rw [Try.params3]; decide +kernel
  · rfl

set_option maxRecDepth 100000 in
theorem steps_lifted (os : Os) (started : os.Started) (H : Type) (enc : TypeId × Value → H) (F : Stop.Interp) :
    ReturnsInHanded {} Try.checked os 3 .any ((OpenSpec.ofChange Rows.mergeStepsSpec).preRow enc Try.prog Try.f3 Rows.mergeStepsRow.domain false Rows.mergeStepsRow.laid) (((OpenSpec.ofChange Rows.mergeStepsSpec).at F).post enc Try.prog Try.f3 false true false false) := by
  obtain ⟨places, hx⟩ := steps_reads os enc
  refine returnsInHanded_of_row (C := Try.checked) (s := OpenSpec.ofChange Rows.mergeStepsSpec) own started (by kernel_rfl) Try.func3
    (witness_row_at (enc := enc) (C := Try.checked) false (wWorld os) #[.agg #[.slice none 0 0, .slice none 0 0, .slice none 0 0, .slice none 0 0, .bool false, .int .i64 0, .slice none 0 0, .slice none 0 0], .slice none 0 0] rfl (by kernel_rfl) (by kernel_rfl) (by kernel_rfl)
      (OpenSpec.preRow_of_cond 8 hx (by kernel_rfl) (fun k hk => by cases hk) (by kernel_rfl) (steps_met os))) ?_
  intro W base args ds gs before hval hW _ _ _ hL _ _
  exact steps_contract H enc W base args ds gs before hval hW hL

theorem steps_make : (Try.pinned.checked.prog.make == some Rows.mergeStepsRow.make) = true := make_is
theorem steps_final : (Rows.mergeStepsRow.lifted == Try.pinned.checked.prog.liftsFinal) = true := final_is
set_option maxRecDepth 100000 in
theorem steps_closed : joinedFacts Try.pinned.checked.prog 3 Try.f3 (OpenSpec.ofChange Rows.mergeStepsSpec).bare Rows.mergeStepsRow = true := by
  unfold joinedFacts
  repeat' (with_reducible refine Bool.and_eq_true_iff.2 ⟨?_, ?_⟩)
  all_goals first | (with_reducible exact enter_is) | (with_reducible exact steps_final) | (with_reducible exact steps_make) | kernel_rfl
theorem steps_said : Rows.MergeStepsSaid :=
  OpenClaim.holds_of_cond 3 Try.f3 rfl rfl rfl rfl rfl rfl rfl ⟨rfl, rfl, rfl, rfl, rfl⟩ rfl rfl rfl rfl rfl (by kernel_rfl) Try.func3 steps_closed
    (of_decide_eq_true (by kernel_rfl)) (by unfold Func.isWrapper; first | (rw [if_pos (by decide +kernel)]; kernel_rfl) | (rw [if_neg (by decide +kernel)]; exact ⟨rfl, rfl⟩))
    (fun os started H enc _ F => by rw [OpenClaim.pre_eq_preRow]; exact steps_lifted os started H enc F)
end Go.Proofs.Ytlkdkhmdmgchbaa
