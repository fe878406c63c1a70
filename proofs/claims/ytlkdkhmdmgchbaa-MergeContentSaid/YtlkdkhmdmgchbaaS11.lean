/- The law MergeContent of colanderlaw12 answers true at every two tiers and every row of tiers, and its arguments read afterwards as before. No condition beyond those of the given statement. -/
import Derived.Test.YtlkdkhmdmgchbaaJO
import Derived.Test.YtlkdkhmdmgchbaaGB
import Derived.Test.YtlkdkhmdmgchbaaGA
import Derived.Test.YtlkdkhmdmgchbaaG3
namespace Go.Proofs.Ytlkdkhmdmgchbaa
set_option linter.unusedSimpArgs false
set_option linter.unusedVariables false
open Go.ChangeShapes Go.WideShapes Go.ChangeAt Go.RowKit Go.Joins Go.Deep

theorem agg_of {cs : Array Value} {l : List Value} (h : cs.toList = l) : cs = l.toArray := by subst h; simp

theorem cont_reads (os : Os) {H : Type} (enc : TypeId × Value → H) : ∃ places, DataW.whole enc Try.prog ((wWorld os).forCall (fun _ _ => 0) ⟨#[], #[.agg #[.slice none 0 0, .slice none 0 0], .agg #[.slice none 0 0, .slice none 0 0], .slice none 0 0], []⟩).memory Try.f18.params.toList Rows.mergeContentSpec.vars false #[.agg #[.slice none 0 0, .slice none 0 0], .agg #[.slice none 0 0, .slice none 0 0], .slice none 0 0].toList 8 = some ([.agg [.nil, .nil], .agg [.nil, .nil], .nil], [], places) :=
  ⟨[], by kernel_rfl⟩
theorem cont_met (os : Os) : laidMet Try.prog Rows.mergeContentRow.laid ((wWorld os).forCall (fun _ _ => 0) ⟨#[], #[.agg #[.slice none 0 0, .slice none 0 0], .agg #[.slice none 0 0, .slice none 0 0], .slice none 0 0], []⟩).memory :=
  laidMet_of_run' 8 (by kernel_rfl) (by kernel_rfl)

set_option maxRecDepth 100000 in
theorem cont_contract (H : Type) (enc : TypeId × Value → H) (W : World) (base : Nat) (args : Array Value) (ds gs : List (DataW H)) (before : List MemPlace)
    (hval : ∀ (j : Nat) t v, Try.f18.params[j]? = some t → args[j]? = some v → Value.okWide Try.prog W .any base t v)
    (hW : DataW.Whole enc Try.prog Try.f18.params.toList Rows.mergeContentSpec.vars false W args.toList ds gs before) (hL : laidMetH Try.prog Rows.mergeContentRow.laid W) :
    Calls Try.prog 18 args W fun e W' => ∃ v, e = .returned v ∧ Rows.mergeContentSpec.post enc Try.prog Try.f18 false true false false W args v W' := by
  have hW' := hW
  obtain ⟨p, q, hA0, hV, rfl, hfz, hnd⟩ := hW
  have hA : DataW.TrodAll enc Try.prog W 0 (fun _ => true) true Try.f18.params.toList args.toList ds p := hA0
  have hAA := hA
  rw [Try.params18] at hA hval
  obtain ⟨v0, vs0, d0, ds0, p0, q0, hargs, rfl, rfl, h0, r0⟩ := trodAll_cons hA
  obtain ⟨v1, vs1, d1, ds1, p1, q1, rfl, rfl, rfl, h1, r1⟩ := trodAll_cons r0
  obtain ⟨v2, vs2, d2, ds2, p2, q2, rfl, rfl, rfl, h2, r2⟩ := trodAll_cons r1
  obtain ⟨rfl, rfl, rfl⟩ := trodAll_nil r2
  obtain rfl : args = #[v0, v1, v2] := by cases args; simp_all
  obtain ⟨rfl, rfl⟩ := trodVars_none hV
  obtain ⟨cs, rfl, hsz⟩ := okWide_struct Try.underlying24 (hval 0 24 v0 rfl rfl)
  obtain ⟨cs', rfl, hsz'⟩ := okWide_struct Try.underlying24 (hval 1 24 v1 rfl rfl)
  obtain ⟨sa, sl, sc, rfl⟩ := okWide_slice Try.underlying40 (hval 2 40 v2 rfl rfl)
  obtain ⟨fuel0, h0'⟩ := h0
  obtain ⟨fuel1, h1'⟩ := h1
  obtain ⟨fuel2, h2'⟩ := h2
  obtain ⟨a0, a1, t, hcs, ht, wt⟩ := tier_data3 h0'
  obtain rfl := agg_of hcs
  obtain ⟨b0, b1, u, hcs', hu, wu⟩ := tier_data3 h1'
  obtain rfl := agg_of hcs'
  obtain ⟨l, hl, wl⟩ := t_row3 (v := .slice sa sl sc) h2'
  simp only [List.append_nil] at hW'
  refine ((content12_ct t u l wt wu wl).lawN (reps3 (all_tpair (fun _ => trivial) ht) (all_tpair (fun _ => trivial) hu) hl)).mono fun e W' ⟨he, hB⟩ => ?_
  subst he
  refine ⟨_, rfl, _, _, _, [], _, [], hW', ?_, args_again hAA hB ?_, ?_, World.keptBut_mono (fun p hp => hp.elim) (hB.frame (fun _ => False)), fun h => by cases h⟩
  · exact trodAll_cons_mk (shut_bool Try.underlying4 _) trodAll_mk0
  · rw [Try.params18]; decide +kernel
  · rfl

set_option maxRecDepth 100000 in
theorem cont_lifted (os : Os) (started : os.Started) (H : Type) (enc : TypeId × Value → H) (F : Stop.Interp) :
    ReturnsInHanded {} Try.checked os 18 .any ((OpenSpec.ofChange Rows.mergeContentSpec).preRow enc Try.prog Try.f18 Rows.mergeContentRow.domain false Rows.mergeContentRow.laid) (((OpenSpec.ofChange Rows.mergeContentSpec).at F).post enc Try.prog Try.f18 false true false false) := by
  obtain ⟨places, hx⟩ := cont_reads os enc
  refine returnsInHanded_of_row (C := Try.checked) (s := OpenSpec.ofChange Rows.mergeContentSpec) own started (by kernel_rfl) Try.func18
    (witness_row_at (enc := enc) (C := Try.checked) false (wWorld os) #[.agg #[.slice none 0 0, .slice none 0 0], .agg #[.slice none 0 0, .slice none 0 0], .slice none 0 0] rfl (by kernel_rfl) (by kernel_rfl) (by kernel_rfl)
      (OpenSpec.preRow_of_cond 8 hx (by kernel_rfl) (fun k hk => by cases hk) (by kernel_rfl) (cont_met os))) ?_
  intro W base args ds gs before hval hW _ _ _ hL _ _
  exact cont_contract H enc W base args ds gs before hval hW hL

theorem cont_make : (Try.pinned.checked.prog.make == some Rows.mergeContentRow.make) = true := make_is
theorem cont_final : (Rows.mergeContentRow.lifted == Try.pinned.checked.prog.liftsFinal) = true := final_is
set_option maxRecDepth 100000 in
theorem cont_closed : joinedFacts Try.pinned.checked.prog 18 Try.f18 (OpenSpec.ofChange Rows.mergeContentSpec).bare Rows.mergeContentRow = true := by
  unfold joinedFacts
  repeat' (with_reducible refine Bool.and_eq_true_iff.2 ⟨?_, ?_⟩)
  all_goals first | (with_reducible exact enter_is) | (with_reducible exact cont_final) | (with_reducible exact cont_make) | kernel_rfl
theorem cont_said : Rows.MergeContentSaid :=
  OpenClaim.holds_of_cond 18 Try.f18 rfl rfl rfl rfl rfl rfl rfl ⟨rfl, rfl, rfl, rfl, rfl⟩ rfl rfl rfl rfl rfl (by kernel_rfl) Try.func18 cont_closed
    (of_decide_eq_true (by kernel_rfl)) (by unfold Func.isWrapper; first | (rw [if_pos (by decide +kernel)]; kernel_rfl) | (rw [if_neg (by decide +kernel)]; exact ⟨rfl, rfl⟩))
    (fun os started H enc _ F => by rw [OpenClaim.pre_eq_preRow]; exact cont_lifted os started H enc F)
end Go.Proofs.Ytlkdkhmdmgchbaa
