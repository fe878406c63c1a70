/- The law MergeParts of colanderlaw12 answers true at every two tiers and every row of numbers, and its arguments read afterwards as before. No condition beyond those of the given statement. -/
import Derived.Test.YtlkdkhmdmgchbaaA24
import Derived.Test.YtlkdkhmdmgchbaaG3
namespace Go.Proofs.Ytlkdkhmdmgchbaa
set_option linter.unusedSimpArgs false
set_option linter.unusedVariables false
open Go.ChangeShapes Go.WideShapes Go.ChangeAt Go.RowKit Go.Joins Go.Deep

theorem agg_of {cs : Array Value} {l : List Value} (h : cs.toList = l) : cs = l.toArray := by subst h; simp
section
variable {H : Type} {enc : TypeId × Value → H} {W : World} {base n : Nat} {held : Bool} {y : DataW H × List MemPlace}
set_option maxRecDepth 100000 in
theorem i_data {v : Value} (h : DataW.trod enc Try.prog W base (fun _ => true) held n 27 [v] = some y) : ∃ l, RepD allZ W v (ID l) := by
  rcases open_slice Try.underlying27 h with ⟨e, -⟩ | ⟨a, len, cap, m, k, D, Pl, e, -, hlc, hm, hmm, -, hx⟩
  · simp at e
    subst e
    exact ⟨[], .nil 1⟩
  · simp at e
    subst e
    simp at hmm
    subst hmm
    rw [cellsInt] at hx
    obtain ⟨f, hf⟩ := choose_lt (n := m) (α := Int) (p := fun i x => W.cell? (a.add (i * 1)) = some (.int .i64 x)) (fun i hi => by
      obtain ⟨cs', h1, h2⟩ := hx i hi
      obtain ⟨x, rfl, -⟩ := DataW.trod_int Try.underlying3 h2
      obtain ⟨-, -, hc⟩ := World.cells?_some h1
      exact ⟨x, by simpa [Addr.add] using hc 0 (by omega)⟩)
    refine ⟨(List.range len).map f, ?_⟩
    by_cases hl : 0 < len
    · have h0 := hf 0 (by omega)
      have hs : a.spot = none := by simpa [Addr.add] using World.cell?_spot h0
      obtain ⟨g, o, s⟩ := a
      simp at hs
      subst hs
      refine .row g o len m 1 _ (fun i _ => .int .i64 (f i)) (by simp) hlc (by simp [maxLen] at hm; unfold maxI; omega) (fun i r hi => ?_) (fun i r j x hi hj => ?_) (fun i r j x hi hj => ?_)
      all_goals
        simp only [List.map_map, List.getElem?_map, Option.map_eq_some_iff] at hi
        obtain ⟨i', hi, rfl⟩ := hi
        obtain ⟨hi', rfl⟩ := List.getElem?_eq_some_iff.1 hi
        simp only [List.length_range] at hi'
      · rfl
      · have hj2 : j < 1 := by have := (List.getElem?_eq_some_iff.1 hj).1; simpa using this
        obtain rfl : j = 0 := by omega
        have q0 := hf i (by omega)
        have e0 : (⟨g, o, none⟩ : Addr).add (i * 1) = ⟨g, o + i * 1, none⟩ := by unfold Addr.add; split <;> simp_all
        rw [e0] at q0
        exact ⟨trivial, by simpa using q0⟩
      · have hj2 : j < 1 := by have := (List.getElem?_eq_some_iff.1 hj).1; simpa using this
        obtain rfl : j = 0 := by omega
        simp at hj
        subst hj
        exact .v _
    · obtain rfl : len = 0 := by omega
      exact .emp a m 1 (by simp [maxLen] at hm; unfold maxI; omega)
end

theorem parts_reads (os : Os) {H : Type} (enc : TypeId × Value → H) : ∃ places, DataW.whole enc Try.prog ((wWorld os).forCall (fun _ _ => 0) ⟨#[], #[.agg #[.slice none 0 0, .slice none 0 0], .agg #[.slice none 0 0, .slice none 0 0], .slice none 0 0], []⟩).memory Try.f5.params.toList Rows.mergePartsSpec.vars false #[.agg #[.slice none 0 0, .slice none 0 0], .agg #[.slice none 0 0, .slice none 0 0], .slice none 0 0].toList 8 = some ([.agg [.nil, .nil], .agg [.nil, .nil], .nil], [], places) :=
  ⟨[], by kernel_rfl⟩
theorem parts_met (os : Os) : laidMet Try.prog Rows.mergePartsRow.laid ((wWorld os).forCall (fun _ _ => 0) ⟨#[], #[.agg #[.slice none 0 0, .slice none 0 0], .agg #[.slice none 0 0, .slice none 0 0], .slice none 0 0], []⟩).memory :=
  laidMet_of_run' 8 (by kernel_rfl) (by kernel_rfl)

set_option maxRecDepth 100000 in
theorem parts_contract (H : Type) (enc : TypeId × Value → H) (W : World) (base : Nat) (args : Array Value) (ds gs : List (DataW H)) (before : List MemPlace)
    (hval : ∀ (j : Nat) t v, Try.f5.params[j]? = some t → args[j]? = some v → Value.okWide Try.prog W .any base t v)
    (hW : DataW.Whole enc Try.prog Try.f5.params.toList Rows.mergePartsSpec.vars false W args.toList ds gs before) (hL : laidMetH Try.prog Rows.mergePartsRow.laid W) :
    Calls Try.prog 5 args W fun e W' => ∃ v, e = .returned v ∧ Rows.mergePartsSpec.post enc Try.prog Try.f5 false true false false W args v W' := by
  have hW' := hW
  obtain ⟨p, q, hA0, hV, rfl, hfz, hnd⟩ := hW
  have hA : DataW.TrodAll enc Try.prog W 0 (fun _ => true) true Try.f5.params.toList args.toList ds p := hA0
  have hAA := hA
  rw [Try.params5] at hA hval
  obtain ⟨v0, vs0, d0, ds0, p0, q0, hargs, rfl, rfl, h0, r0⟩ := trodAll_cons hA
  obtain ⟨v1, vs1, d1, ds1, p1, q1, rfl, rfl, rfl, h1, r1⟩ := trodAll_cons r0
  obtain ⟨v2, vs2, d2, ds2, p2, q2, rfl, rfl, rfl, h2, r2⟩ := trodAll_cons r1
  obtain ⟨rfl, rfl, rfl⟩ := trodAll_nil r2
  obtain rfl : args = #[v0, v1, v2] := by cases args; simp_all
  obtain ⟨rfl, rfl⟩ := trodVars_none hV
  obtain ⟨cs, rfl, hsz⟩ := okWide_struct Try.underlying24 (hval 0 24 v0 rfl rfl)
  obtain ⟨cs', rfl, hsz'⟩ := okWide_struct Try.underlying24 (hval 1 24 v1 rfl rfl)
  obtain ⟨sa, sl, sc, rfl⟩ := okWide_slice Try.underlying27 (hval 2 27 v2 rfl rfl)
  obtain ⟨fuel0, h0'⟩ := h0
  obtain ⟨fuel1, h1'⟩ := h1
  obtain ⟨fuel2, h2'⟩ := h2
  obtain ⟨a0, a1, t, hcs, ht⟩ := tier_data h0'
  obtain rfl := agg_of hcs
  obtain ⟨b0, b1, u, hcs', hu⟩ := tier_data h1'
  obtain rfl := agg_of hcs'
  obtain ⟨l, hl⟩ := i_data (v := .slice sa sl sc) h2'
  simp only [List.append_nil] at hW'
  refine ((mparts_ct t u l).law3 (all_tpair ht) (all_tpair hu) hl).mono fun e W' ⟨he, hB⟩ => ?_
  subst he
  refine ⟨_, rfl, _, _, _, [], _, [], hW', ?_, args_again hAA hB ?_, ?_, World.keptBut_mono (fun p hp => hp.elim) (hB.frame (fun _ => False)), fun h => by cases h⟩
  · exact trodAll_cons_mk (shut_bool Try.underlying4 _) trodAll_mk0
  · rw [Try.params5]; decide +kernel
  · rfl

set_option maxRecDepth 100000 in
theorem parts_lifted (os : Os) (started : os.Started) (H : Type) (enc : TypeId × Value → H) (F : Stop.Interp) :
    ReturnsInHanded {} Try.checked os 5 .any ((OpenSpec.ofChange Rows.mergePartsSpec).preRow enc Try.prog Try.f5 Rows.mergePartsRow.domain false Rows.mergePartsRow.laid) (((OpenSpec.ofChange Rows.mergePartsSpec).at F).post enc Try.prog Try.f5 false true false false) := by
  obtain ⟨places, hx⟩ := parts_reads os enc
  refine returnsInHanded_of_row (C := Try.checked) (s := OpenSpec.ofChange Rows.mergePartsSpec) own started (by kernel_rfl) Try.func5
    (witness_row_at (enc := enc) (C := Try.checked) false (wWorld os) #[.agg #[.slice none 0 0, .slice none 0 0], .agg #[.slice none 0 0, .slice none 0 0], .slice none 0 0] rfl (by kernel_rfl) (by kernel_rfl) (by kernel_rfl)
      (OpenSpec.preRow_of_cond 8 hx (by kernel_rfl) (fun k hk => by cases hk) (by kernel_rfl) (parts_met os))) ?_
  intro W base args ds gs before hval hW _ _ _ hL _ _
  exact parts_contract H enc W base args ds gs before hval hW hL

theorem parts_make : (Try.pinned.checked.prog.make == some Rows.mergePartsRow.make) = true := make_is
theorem parts_final : (Rows.mergePartsRow.lifted == Try.pinned.checked.prog.liftsFinal) = true := final_is
set_option maxRecDepth 100000 in
theorem parts_closed : joinedFacts Try.pinned.checked.prog 5 Try.f5 (OpenSpec.ofChange Rows.mergePartsSpec).bare Rows.mergePartsRow = true := by
  unfold joinedFacts
  repeat' (with_reducible refine Bool.and_eq_true_iff.2 ⟨?_, ?_⟩)
  all_goals first | (with_reducible exact enter_is) | (with_reducible exact parts_final) | (with_reducible exact parts_make) | kernel_rfl
theorem parts_said : Rows.MergePartsSaid :=
  OpenClaim.holds_of_cond 5 Try.f5 rfl rfl rfl rfl rfl rfl rfl ⟨rfl, rfl, rfl, rfl, rfl⟩ rfl rfl rfl rfl rfl (by kernel_rfl) Try.func5 parts_closed
    (of_decide_eq_true (by kernel_rfl)) (by unfold Func.isWrapper; first | (rw [if_pos (by decide +kernel)]; kernel_rfl) | (rw [if_neg (by decide +kernel)]; exact ⟨rfl, rfl⟩))
    (fun os started H enc _ F => by rw [OpenClaim.pre_eq_preRow]; exact parts_lifted os started H enc F)
end Go.Proofs.Ytlkdkhmdmgchbaa
