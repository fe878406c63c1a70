/- The law TiersSquash of colanderlaw11 answers true at every tiers, two numbers, oldest or not, and its arguments read afterwards as before. No condition beyond those of the given statement. -/
import Derived.Test.YtlkdkhmdmgchbaaTK
import Derived.Test.YtlkdkhmdmgchbaaGC
import Derived.Test.YtlkdkhmdmgchbaaG3
namespace Go.Proofs.Ytlkdkhmdmgchbaa
set_option linter.unusedSimpArgs false
set_option linter.unusedVariables false
open Go.ChangeShapes Go.WideShapes Go.ChangeAt Go.RowKit Go.Joins Go.Deep

theorem agg_of {cs : Array Value} {l : List Value} (h : cs.toList = l) : cs = l.toArray := by subst h; simp

theorem tsquash_reads (os : Os) {H : Type} (enc : TypeId × Value → H) : ∃ places, DataW.whole enc Try.prog ((wWorld os).forCall (fun _ _ => 0) ⟨#[], #[.slice none 0 0, .agg #[.int .i64 0, .int .i64 0], .bool false], []⟩).memory Try.f17.params.toList Rows.tiersSquashSpec.vars false #[.slice none 0 0, .agg #[.int .i64 0, .int .i64 0], .bool false].toList 8 = some ([.nil, .agg [.lit (.int .i64 0), .lit (.int .i64 0)], .lit (.bool false)], [], places) :=
  ⟨[], by kernel_rfl⟩
theorem tsquash_met (os : Os) : laidMet Try.prog Rows.tiersSquashRow.laid ((wWorld os).forCall (fun _ _ => 0) ⟨#[], #[.slice none 0 0, .agg #[.int .i64 0, .int .i64 0], .bool false], []⟩).memory :=
  laidMet_of_run' 8 (by kernel_rfl) (by kernel_rfl)

set_option maxRecDepth 100000 in
theorem tsquash_contract (H : Type) (enc : TypeId × Value → H) (W : World) (base : Nat) (args : Array Value) (ds gs : List (DataW H)) (before : List MemPlace)
    (hval : ∀ (j : Nat) t v, Try.f17.params[j]? = some t → args[j]? = some v → Value.okWide Try.prog W .any base t v)
    (hW : DataW.Whole enc Try.prog Try.f17.params.toList Rows.tiersSquashSpec.vars false W args.toList ds gs before) (hL : laidMetH Try.prog Rows.tiersSquashRow.laid W) :
    Calls Try.prog 17 args W fun e W' => ∃ v, e = .returned v ∧ Rows.tiersSquashSpec.post enc Try.prog Try.f17 false true false false W args v W' := by
  have hW' := hW
  obtain ⟨p, q, hA0, hV, rfl, hfz, hnd⟩ := hW
  have hA : DataW.TrodAll enc Try.prog W 0 (fun _ => true) true Try.f17.params.toList args.toList ds p := hA0
  have hAA := hA
  rw [Try.params17] at hA hval
  obtain ⟨v0, vs0, d0, ds0, p0, q0, hargs, rfl, rfl, h0, r0⟩ := trodAll_cons hA
  obtain ⟨v1, vs1, d1, ds1, p1, q1, rfl, rfl, rfl, h1, r1⟩ := trodAll_cons r0
  obtain ⟨v2, vs2, d2, ds2, p2, q2, rfl, rfl, rfl, h2, r2⟩ := trodAll_cons r1
  obtain ⟨rfl, rfl, rfl⟩ := trodAll_nil r2
  obtain rfl : args = #[v0, v1, v2] := by cases args; simp_all
  obtain ⟨rfl, rfl⟩ := trodVars_none hV
  obtain ⟨sa, sl, sc, rfl⟩ := okWide_slice Try.underlying40 (hval 0 40 v0 rfl rfl)
  obtain ⟨cs, rfl, hsz⟩ := okWide_arr2 (hval 1 101 v1 rfl rfl)
  obtain ⟨ob, rfl⟩ := okWide_bool Try.underlying4 (hval 2 4 v2 rfl rfl)
  obtain ⟨fuel0, h0'⟩ := h0
  obtain ⟨fuel1, h1'⟩ := h1
  obtain ⟨l, hl, wl⟩ := t_row3 (v := .slice sa sl sc) h0'
  obtain ⟨a, b, hcs⟩ := arr2_data h1'
  obtain rfl := agg_of hcs
  simp only [List.append_nil] at hW'
  refine ((squash11_ct l a b ob (tsd_len hl) wl).lawN (reps3 hl rep_arr2 (.v _))).mono fun e W' ⟨he, hB⟩ => ?_
  subst he
  refine ⟨_, rfl, _, _, _, [], _, [], hW', ?_, args_again hAA hB ?_, ?_, World.keptBut_mono (fun p hp => hp.elim) (hB.frame (fun _ => False)), fun h => by cases h⟩
  · exact trodAll_cons_mk (shut_bool Try.underlying4 _) trodAll_mk0
  · rw [Try.params17]; decide +kernel
  · rfl

set_option maxRecDepth 100000 in
theorem tsquash_lifted (os : Os) (started : os.Started) (H : Type) (enc : TypeId × Value → H) (F : Stop.Interp) :
    ReturnsInHanded {} Try.checked os 17 .any ((OpenSpec.ofChange Rows.tiersSquashSpec).preRow enc Try.prog Try.f17 Rows.tiersSquashRow.domain false Rows.tiersSquashRow.laid) (((OpenSpec.ofChange Rows.tiersSquashSpec).at F).post enc Try.prog Try.f17 false true false false) := by
  obtain ⟨places, hx⟩ := tsquash_reads os enc
  refine returnsInHanded_of_row (C := Try.checked) (s := OpenSpec.ofChange Rows.tiersSquashSpec) own started (by kernel_rfl) Try.func17
    (witness_row_at (enc := enc) (C := Try.checked) false (wWorld os) #[.slice none 0 0, .agg #[.int .i64 0, .int .i64 0], .bool false] rfl (by kernel_rfl) (by kernel_rfl) (by kernel_rfl)
      (OpenSpec.preRow_of_cond 8 hx (by kernel_rfl) (fun k hk => by cases hk) (by kernel_rfl) (tsquash_met os))) ?_
  intro W base args ds gs before hval hW _ _ _ hL _ _
  exact tsquash_contract H enc W base args ds gs before hval hW hL

theorem tsquash_make : (Try.pinned.checked.prog.make == some Rows.tiersSquashRow.make) = true := make_is
theorem tsquash_final : (Rows.tiersSquashRow.lifted == Try.pinned.checked.prog.liftsFinal) = true := final_is
set_option maxRecDepth 100000 in
theorem tsquash_closed : joinedFacts Try.pinned.checked.prog 17 Try.f17 (OpenSpec.ofChange Rows.tiersSquashSpec).bare Rows.tiersSquashRow = true := by
  unfold joinedFacts
  repeat' (with_reducible refine Bool.and_eq_true_iff.2 ⟨?_, ?_⟩)
  all_goals first | (with_reducible exact enter_is) | (with_reducible exact tsquash_final) | (with_reducible exact tsquash_make) | kernel_rfl
theorem tsquash_said : Rows.TiersSquashSaid :=
  OpenClaim.holds_of_cond 17 Try.f17 rfl rfl rfl rfl rfl rfl rfl ⟨rfl, rfl, rfl, rfl, rfl⟩ rfl rfl rfl rfl rfl (by kernel_rfl) Try.func17 tsquash_closed
    (of_decide_eq_true (by kernel_rfl)) (by unfold Func.isWrapper; first | (rw [if_pos (by decide +kernel)]; kernel_rfl) | (rw [if_neg (by decide +kernel)]; exact ⟨rfl, rfl⟩))
    (fun os started H enc _ F => by rw [OpenClaim.pre_eq_preRow]; exact tsquash_lifted os started H enc F)
end Go.Proofs.Ytlkdkhmdmgchbaa
