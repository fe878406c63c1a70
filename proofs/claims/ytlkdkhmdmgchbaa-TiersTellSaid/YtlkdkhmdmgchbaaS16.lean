/- The law TiersTell of colanderlaw11 answers true at every two tiers and row of pairs, and its arguments read afterwards as before. No condition beyond those of the given statement. -/
import Derived.Test.YtlkdkhmdmgchbaaTJ
import Derived.Test.YtlkdkhmdmgchbaaGB
import Derived.Test.YtlkdkhmdmgchbaaGA
import Derived.Test.YtlkdkhmdmgchbaaG3
namespace Go.Proofs.Ytlkdkhmdmgchbaa
set_option linter.unusedSimpArgs false
set_option linter.unusedVariables false
open Go.ChangeShapes Go.WideShapes Go.ChangeAt Go.RowKit Go.Joins Go.Deep


theorem ttell_reads (os : Os) {H : Type} (enc : TypeId × Value → H) : ∃ places, DataW.whole enc Try.prog ((wWorld os).forCall (fun _ _ => 0) ⟨#[], #[.slice none 0 0, .slice none 0 0, .slice none 0 0], []⟩).memory Try.f20.params.toList Rows.tiersTellSpec.vars false #[.slice none 0 0, .slice none 0 0, .slice none 0 0].toList 8 = some ([.nil, .nil, .nil], [], places) :=
  ⟨[], by kernel_rfl⟩
theorem ttell_met (os : Os) : laidMet Try.prog Rows.tiersTellRow.laid ((wWorld os).forCall (fun _ _ => 0) ⟨#[], #[.slice none 0 0, .slice none 0 0, .slice none 0 0], []⟩).memory :=
  laidMet_of_run' 8 (by kernel_rfl) (by kernel_rfl)

set_option maxRecDepth 100000 in
theorem ttell_contract (H : Type) (enc : TypeId × Value → H) (W : World) (base : Nat) (args : Array Value) (ds gs : List (DataW H)) (before : List MemPlace)
    (hval : ∀ (j : Nat) t v, Try.f20.params[j]? = some t → args[j]? = some v → Value.okWide Try.prog W .any base t v)
    (hW : DataW.Whole enc Try.prog Try.f20.params.toList Rows.tiersTellSpec.vars false W args.toList ds gs before) (hL : laidMetH Try.prog Rows.tiersTellRow.laid W) :
    Calls Try.prog 20 args W fun e W' => ∃ v, e = .returned v ∧ Rows.tiersTellSpec.post enc Try.prog Try.f20 false true false false W args v W' := by
  have hW' := hW
  obtain ⟨p, q, hA0, hV, rfl, hfz, hnd⟩ := hW
  have hA : DataW.TrodAll enc Try.prog W 0 (fun _ => true) true Try.f20.params.toList args.toList ds p := hA0
  have hAA := hA
  rw [Try.params20] at hA hval
  obtain ⟨v0, vs0, d0, ds0, p0, q0, hargs, rfl, rfl, h0, r0⟩ := trodAll_cons hA
  obtain ⟨v1, vs1, d1, ds1, p1, q1, rfl, rfl, rfl, h1, r1⟩ := trodAll_cons r0
  obtain ⟨v2, vs2, d2, ds2, p2, q2, rfl, rfl, rfl, h2, r2⟩ := trodAll_cons r1
  obtain ⟨rfl, rfl, rfl⟩ := trodAll_nil r2
  obtain rfl : args = #[v0, v1, v2] := by cases args; simp_all
  obtain ⟨rfl, rfl⟩ := trodVars_none hV
  obtain ⟨sa, sl, sc, rfl⟩ := okWide_slice Try.underlying40 (hval 0 40 v0 rfl rfl)
  obtain ⟨ta, tl, tc, rfl⟩ := okWide_slice Try.underlying40 (hval 1 40 v1 rfl rfl)
  obtain ⟨ua, ul, uc, rfl⟩ := okWide_slice Try.underlying22 (hval 2 22 v2 rfl rfl)
  obtain ⟨fuel0, h0'⟩ := h0
  obtain ⟨fuel1, h1'⟩ := h1
  obtain ⟨fuel2, h2'⟩ := h2
  obtain ⟨l, hl, wl⟩ := t_row3 (v := .slice sa sl sc) h0'
  obtain ⟨m, hm, wm⟩ := t_row3 (v := .slice ta tl tc) h1'
  obtain ⟨k, hk, wk⟩ := p_row3 (v := .slice ua ul uc) h2'
  simp only [List.append_nil] at hW'
  have hkr : RepD (fun _ => True) W (.slice ua ul uc) (RD k) := of_prow hk fun _ _ => trivial
  have hkn : k.length ≤ maxI := by have := repd_len hkr; simpa using this
  refine ((tell11_ct l m k (tsd_len hl) (tsd_len hm) hkn wl wm).lawN (reps3 hl hm hkr)).mono fun e W' ⟨he, hB⟩ => ?_
  subst he
  refine ⟨_, rfl, _, _, _, [], _, [], hW', ?_, args_again hAA hB ?_, ?_, World.keptBut_mono (fun p hp => hp.elim) (hB.frame (fun _ => False)), fun h => by cases h⟩
  · exact trodAll_cons_mk (shut_bool Try.underlying4 _) trodAll_mk0
  · rw [Try.params20]; decide +kernel
  · rfl

set_option maxRecDepth 100000 in
theorem ttell_lifted (os : Os) (started : os.Started) (H : Type) (enc : TypeId × Value → H) (F : Stop.Interp) :
    ReturnsInHanded {} Try.checked os 20 .any ((OpenSpec.ofChange Rows.tiersTellSpec).preRow enc Try.prog Try.f20 Rows.tiersTellRow.domain false Rows.tiersTellRow.laid) (((OpenSpec.ofChange Rows.tiersTellSpec).at F).post enc Try.prog Try.f20 false true false false) := by
  obtain ⟨places, hx⟩ := ttell_reads os enc
  refine returnsInHanded_of_row (C := Try.checked) (s := OpenSpec.ofChange Rows.tiersTellSpec) own started (by kernel_rfl) Try.func20
    (witness_row_at (enc := enc) (C := Try.checked) false (wWorld os) #[.slice none 0 0, .slice none 0 0, .slice none 0 0] rfl (by kernel_rfl) (by kernel_rfl) (by kernel_rfl)
      (OpenSpec.preRow_of_cond 8 hx (by kernel_rfl) (fun k hk => by cases hk) (by kernel_rfl) (ttell_met os))) ?_
  intro W base args ds gs before hval hW _ _ _ hL _ _
  exact ttell_contract H enc W base args ds gs before hval hW hL

theorem ttell_make : (Try.pinned.checked.prog.make == some Rows.tiersTellRow.make) = true := make_is
theorem ttell_final : (Rows.tiersTellRow.lifted == Try.pinned.checked.prog.liftsFinal) = true := final_is
set_option maxRecDepth 100000 in
theorem ttell_closed : joinedFacts Try.pinned.checked.prog 20 Try.f20 (OpenSpec.ofChange Rows.tiersTellSpec).bare Rows.tiersTellRow = true := by
  unfold joinedFacts
  repeat' (with_reducible refine Bool.and_eq_true_iff.2 ⟨?_, ?_⟩)
  all_goals first | (with_reducible exact enter_is) | (with_reducible exact ttell_final) | (with_reducible exact ttell_make) | kernel_rfl
theorem ttell_said : Rows.TiersTellSaid :=
  OpenClaim.holds_of_cond 20 Try.f20 rfl rfl rfl rfl rfl rfl rfl ⟨rfl, rfl, rfl, rfl, rfl⟩ rfl rfl rfl rfl rfl (by kernel_rfl) Try.func20 ttell_closed
    (of_decide_eq_true (by kernel_rfl)) (by unfold Func.isWrapper; first | (rw [if_pos (by decide +kernel)]; kernel_rfl) | (rw [if_neg (by decide +kernel)]; exact ⟨rfl, rfl⟩))
    (fun os started H enc _ F => by rw [OpenClaim.pre_eq_preRow]; exact ttell_lifted os started H enc F)
end Go.Proofs.Ytlkdkhmdmgchbaa
