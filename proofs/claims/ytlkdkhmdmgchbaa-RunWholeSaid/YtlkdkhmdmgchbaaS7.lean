/- The law RunWhole of colanderlaw03 answers true at every row of pairs and every two pairs, and its arguments read afterwards as before. No condition beyond those of the given statement. -/
import Derived.Test.YtlkdkhmdmgchbaaJW
import Derived.Test.YtlkdkhmdmgchbaaJD
import Derived.Test.YtlkdkhmdmgchbaaG4
import Derived.Test.YtlkdkhmdmgchbaaG3
namespace Go.Proofs.Ytlkdkhmdmgchbaa
set_option linter.unusedSimpArgs false
set_option linter.unusedVariables false
open Go.ChangeShapes Go.WideShapes Go.ChangeAt Go.RowKit Go.Joins Go.Deep

theorem agg_of {cs : Array Value} {l : List Value} (h : cs.toList = l) : cs = l.toArray := by subst h; simp
theorem pair_rep (Z : Zone) (w : World) (p : Pr) : RepDV Z w (.agg #[.int .u64 p.1, .int .u64 p.2]) (PV p) := ⟨#[.int .u64 p.1, .int .u64 p.2], rfl, rfl, fun j d hd => by
  match j, hd with
  | 0, hd => simp at hd; subst hd; exact .v _
  | 1, hd => simp at hd; subst hd; exact .v _⟩
theorem Ct.law3P {P : Program} {f : FuncId} {l : List Pr} {p q : Pr} {v0 : Value} {w : World} (h : Ct P f [.c (RD l), PV p, PV q] none (.one (dB true))) (h0 : PRow w v0 l) :
    Calls P f #[v0, .agg #[.int .u64 p.1, .int .u64 p.2], .agg #[.int .u64 q.1, .int .u64 q.2]] w fun e w' => e = .returned (.bool true) ∧ Below w.heap.size w w' := by
  refine (h (fun _ => True) w #[v0, _, _] ⟨rfl, fun i x hx => ?_⟩).mono ?_
  · match i, hx with
    | 0, hx => simp at hx; subst hx; exact of_prow h0 fun _ _ => trivial
    | 1, hx => simp at hx; subst hx; exact pair_rep _ _ p
    | 2, hx => simp at hx; subst hx; exact pair_rep _ _ q
    | i + 3, hx => simp at hx
  · rintro e w' ⟨v, Zn, rfl, B, -, r⟩
    have r : RepD Zn w' v (.v (.bool true)) := r
    obtain rfl := r.raw
    exact ⟨rfl, B⟩

theorem rwhole_reads (os : Os) {H : Type} (enc : TypeId × Value → H) : ∃ places, DataW.whole enc Try.prog ((wWorld os).forCall (fun _ _ => 0) ⟨#[], #[.slice none 0 0, .agg #[.int .u64 0, .int .u64 0], .agg #[.int .u64 0, .int .u64 0]], []⟩).memory Try.f14.params.toList Rows.runWholeSpec.vars false #[.slice none 0 0, .agg #[.int .u64 0, .int .u64 0], .agg #[.int .u64 0, .int .u64 0]].toList 8 = some ([.nil, .agg [.lit (.int .u64 0), .lit (.int .u64 0)], .agg [.lit (.int .u64 0), .lit (.int .u64 0)]], [], places) :=
  ⟨[], by kernel_rfl⟩
theorem rwhole_met (os : Os) : laidMet Try.prog Rows.runWholeRow.laid ((wWorld os).forCall (fun _ _ => 0) ⟨#[], #[.slice none 0 0, .agg #[.int .u64 0, .int .u64 0], .agg #[.int .u64 0, .int .u64 0]], []⟩).memory :=
  laidMet_of_run' 8 (by kernel_rfl) (by kernel_rfl)

set_option maxRecDepth 100000 in
theorem rwhole_contract (H : Type) (enc : TypeId × Value → H) (W : World) (base : Nat) (args : Array Value) (ds gs : List (DataW H)) (before : List MemPlace)
    (hval : ∀ (j : Nat) t v, Try.f14.params[j]? = some t → args[j]? = some v → Value.okWide Try.prog W .any base t v)
    (hW : DataW.Whole enc Try.prog Try.f14.params.toList Rows.runWholeSpec.vars false W args.toList ds gs before) (hL : laidMetH Try.prog Rows.runWholeRow.laid W) :
    Calls Try.prog 14 args W fun e W' => ∃ v, e = .returned v ∧ Rows.runWholeSpec.post enc Try.prog Try.f14 false true false false W args v W' := by
  have hW' := hW
  obtain ⟨p, q, hA0, hV, rfl, hfz, hnd⟩ := hW
  have hA : DataW.TrodAll enc Try.prog W 0 (fun _ => true) true Try.f14.params.toList args.toList ds p := hA0
  have hAA := hA
  rw [Try.params14] at hA hval
  obtain ⟨v0, vs0, d0, ds0, p0, q0, hargs, rfl, rfl, h0, r0⟩ := trodAll_cons hA
  obtain ⟨v1, vs1, d1, ds1, p1, q1, rfl, rfl, rfl, h1, r1⟩ := trodAll_cons r0
  obtain ⟨v2, vs2, d2, ds2, p2, q2, rfl, rfl, rfl, h2, r2⟩ := trodAll_cons r1
  obtain ⟨rfl, rfl, rfl⟩ := trodAll_nil r2
  obtain rfl : args = #[v0, v1, v2] := by cases args; simp_all
  obtain ⟨rfl, rfl⟩ := trodVars_none hV
  obtain ⟨sa, sl, sc, rfl⟩ := okWide_slice Try.underlying22 (hval 0 22 v0 rfl rfl)
  obtain ⟨cs, rfl, hsz⟩ := okWide_struct Try.underlying52 (hval 1 52 v1 rfl rfl)
  obtain ⟨cs', rfl, hsz'⟩ := okWide_struct Try.underlying52 (hval 2 52 v2 rfl rfl)
  obtain ⟨fuel0, h0'⟩ := h0
  obtain ⟨fuel1, h1'⟩ := h1
  obtain ⟨fuel2, h2'⟩ := h2
  obtain ⟨l, hl, hb⟩ := p_row2 (v := .slice sa sl sc) h0'
  obtain ⟨a, b, hcs⟩ := pair_data h1'
  obtain rfl := agg_of hcs
  obtain ⟨c, d, hcs'⟩ := pair_data h2'
  obtain rfl := agg_of hcs'
  simp only [List.append_nil] at hW'
  refine ((whole03_ct l (a, b) (c, d) hb).law3P hl).mono fun e W' ⟨he, hB⟩ => ?_
  subst he
  refine ⟨_, rfl, _, _, _, [], _, [], hW', ?_, args_again hAA hB ?_, ?_, World.keptBut_mono (fun p hp => hp.elim) (hB.frame (fun _ => False)), fun h => by cases h⟩
  · exact trodAll_cons_mk (shut_bool Try.underlying4 _) trodAll_mk0
  · rw [Try.params14]; decide +kernel
  · rfl

set_option maxRecDepth 100000 in
theorem rwhole_lifted (os : Os) (started : os.Started) (H : Type) (enc : TypeId × Value → H) (F : Stop.Interp) :
    ReturnsInHanded {} Try.checked os 14 .any ((OpenSpec.ofChange Rows.runWholeSpec).preRow enc Try.prog Try.f14 Rows.runWholeRow.domain false Rows.runWholeRow.laid) (((OpenSpec.ofChange Rows.runWholeSpec).at F).post enc Try.prog Try.f14 false true false false) := by
  obtain ⟨places, hx⟩ := rwhole_reads os enc
  refine returnsInHanded_of_row (C := Try.checked) (s := OpenSpec.ofChange Rows.runWholeSpec) own started (by kernel_rfl) Try.func14
    (witness_row_at (enc := enc) (C := Try.checked) false (wWorld os) #[.slice none 0 0, .agg #[.int .u64 0, .int .u64 0], .agg #[.int .u64 0, .int .u64 0]] rfl (by kernel_rfl) (by kernel_rfl) (by kernel_rfl)
      (OpenSpec.preRow_of_cond 8 hx (by kernel_rfl) (fun k hk => by cases hk) (by kernel_rfl) (rwhole_met os))) ?_
  intro W base args ds gs before hval hW _ _ _ hL _ _
  exact rwhole_contract H enc W base args ds gs before hval hW hL

theorem rwhole_make : (Try.pinned.checked.prog.make == some Rows.runWholeRow.make) = true := make_is
theorem rwhole_final : (Rows.runWholeRow.lifted == Try.pinned.checked.prog.liftsFinal) = true := final_is
set_option maxRecDepth 100000 in
theorem rwhole_closed : joinedFacts Try.pinned.checked.prog 14 Try.f14 (OpenSpec.ofChange Rows.runWholeSpec).bare Rows.runWholeRow = true := by
  unfold joinedFacts
  repeat' (with_reducible refine Bool.and_eq_true_iff.2 ⟨?_, ?_⟩)
  all_goals first | (with_reducible exact enter_is) | (with_reducible exact rwhole_final) | (with_reducible exact rwhole_make) | kernel_rfl
theorem rwhole_said : Rows.RunWholeSaid :=
  OpenClaim.holds_of_cond 14 Try.f14 rfl rfl rfl rfl rfl rfl rfl ⟨rfl, rfl, rfl, rfl, rfl⟩ rfl rfl rfl rfl rfl (by kernel_rfl) Try.func14 rwhole_closed
    (of_decide_eq_true (by kernel_rfl)) (by unfold Func.isWrapper; first | (rw [if_pos (by decide +kernel)]; kernel_rfl) | (rw [if_neg (by decide +kernel)]; exact ⟨rfl, rfl⟩))
    (fun os started H enc _ F => by rw [OpenClaim.pre_eq_preRow]; exact rwhole_lifted os started H enc F)
end Go.Proofs.Ytlkdkhmdmgchbaa
