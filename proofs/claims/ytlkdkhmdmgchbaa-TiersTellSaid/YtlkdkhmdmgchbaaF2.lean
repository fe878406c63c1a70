/- the document's rows of pairs: Has, Same, Right. -/
import Derived.Test.YtlkdkhmdmgchbaaF1
namespace Go.Proofs.Ytlkdkhmdmgchbaa
set_option linter.unusedSimpArgs false
set_option linter.unusedVariables false
open Go.RowKit

set_option maxRecDepth 100000 in
set_option maxHeartbeats 1000000 in
theorem has_any (v : Value) (l : List Pr) (a b : Int) (w : World) (h : PRow w v l) : Calls Try.prog 67 #[v, .agg #[(.int .u64 (a)), (.int .u64 (b))]] w fun e w' => e = .returned (.bool (decide ((a, b) ∈ l))) ∧ Below w.heap.size w w' := by
  have HL := h.len
  obtain ⟨p, cap, rfl⟩ := h.form
  have H := hid h; clear h
  go_enter Try.func67, Try.ntmps67
  go_wp2_with fail
  have b3 := hid (Bx.new w a b 52)
  have BEL := hid (below_alloc w (.cells #[(.int .u64 (a)), (.int .u64 (b))] 52))
  go_loopw [9] (fun v9 wr => ∃ k : Nat, v9 = (.int .i64 (k)) ∧ k ≤ l.length ∧ Hid ((a, b) ∉ l.take k) ∧ Hid (Bx w.heap.size a b wr) ∧ Hid (Below w.heap.size w wr)) (fun v9 _ => l.length - (intOf v9).toNat)
  case atStart => exact ⟨0, rfl, Nat.zero_le _, hid (by simp), b3, BEL⟩
  case round =>
    clear b3 BEL
    obtain ⟨k, rfl, hk, NO, b3, BEL⟩ := hrel
    by_cases hgo : k < l.length
    · have hgo' : (k : Int) < (l.length : Int) := by omega
      obtain ⟨g, o, cap, hv, hcell⟩ := (H.out.below BEL.out).cell (by omega)
      simp only [Value.slice.injEq] at hv
      obtain ⟨hv, -, -⟩ := hv
      first | subst hv | (simp only [Option.some.injEq, Addr.mk.injEq] at hv; obtain ⟨rfl, rfl, -⟩ := hv)
      obtain ⟨d0, d1⟩ := hcell k hgo
      have ts := List.take_succ_eq_append_getElem hgo
      obtain ⟨x, hx⟩ : ∃ x, l[k] = x := ⟨_, rfl⟩
      rw [hx] at d0 d1 ts
      have HX := hid hx; have TS := hid ts
      clear hx ts hcell
      obtain ⟨x0, x1⟩ := x
      simp only at d0 d1
      have IN : Hid ((x0, x1) ∈ l) := by have := List.getElem_mem hgo; rw [HX.out] at this; exact this
      obtain ⟨b3_0, b3_1, b3_s⟩ := b3.out
      go_wp2_with fail
      · go_ret
        exact ⟨by have := IN.out; simp_all, bel_step BEL.out (below_alloc _ _)⟩
      all_goals
        refine ⟨⟨k + 1, by simp, hgo, ?_, b3.out.keep (below_alloc _ _), bel_step BEL.out (below_alloc _ _)⟩, by simp [intOf]; omega⟩
        show _ ∉ _
        rw [TS.out]
        have := NO.out
        simp_all
        try omega
    · have h1 : ¬ (k : Int) < (l.length : Int) := by omega
      rw [List.take_of_length_le (by omega)] at NO
      clear hgo
      go_wp2_with fail
      go_ret
      exact ⟨by simp [NO.out], BEL.out⟩

set_option maxRecDepth 100000 in
set_option maxHeartbeats 1000000 in
theorem same_any (v u : Value) (l m : List Pr) (w : World) (h : PRow w v l) (h' : PRow w u m) : Calls Try.prog 105 #[v, u] w fun e w' => e = .returned (.bool (decide (l = m))) ∧ Below w.heap.size w w' := by
  have HL := h.len
  obtain ⟨p, cap, rfl⟩ := h.form
  obtain ⟨q, cap', rfl⟩ := h'.form
  have H := hid h; have H' := hid h'; clear h h'
  by_cases hlen : l.length = m.length
  · have b1 : ((l.length : Int) == (m.length : Int)) = true := by rw [beq_iff_eq]; omega
    have b2 : ((l.length : Int) != (m.length : Int)) = false := by rw [bne, b1]; rfl
    have HLEN := hid hlen
    go_enter Try.func105, Try.ntmps105
    go_wp2_with fail
    go_loopw [13] (fun v13 wr => ∃ k : Nat, v13 = (.int .i64 (k)) ∧ k ≤ l.length ∧ Hid (l.take k = m.take k) ∧ Hid (Below w.heap.size w wr)) (fun v13 _ => l.length - (intOf v13).toNat)
    case atStart => exact ⟨0, rfl, Nat.zero_le _, rfl, Below.refl _ _⟩
    case round =>
      obtain ⟨k, rfl, hk, EQ, BEL⟩ := hrel
      by_cases hgo : k < l.length
      · have hgo' : (k : Int) < (l.length : Int) := by omega
        obtain ⟨g, o, cap, hv, hcell⟩ := (H.out.below BEL.out).cell (by omega)
        simp only [Value.slice.injEq] at hv
        obtain ⟨hv, -, -⟩ := hv
        first | subst hv | (simp only [Option.some.injEq, Addr.mk.injEq] at hv; obtain ⟨rfl, rfl, -⟩ := hv)
        obtain ⟨d0, d1⟩ := hcell k hgo
        have ts := List.take_succ_eq_append_getElem hgo
        obtain ⟨x, hx⟩ : ∃ x, l[k] = x := ⟨_, rfl⟩
        rw [hx] at d0 d1 ts
        have HX := hid hx; have TS := hid ts
        clear hx ts hcell
        obtain ⟨x0, x1⟩ := x
        simp only at d0 d1
        have e0 := d0; have e1 := d1; have TX := TS; have HX1 := HX
        clear d0 d1 TS HX
        have hgo2 := hgo
        have hgo : k < m.length := by have := HLEN.out; omega
        have hgo3 : (k : Int) < (m.length : Int) := by omega
        obtain ⟨g', o', cap'', hv, hcell⟩ := (H'.out.below BEL.out).cell (by omega)
        simp only [Value.slice.injEq] at hv
        obtain ⟨hv, -, -⟩ := hv
        subst hv
        obtain ⟨d0, d1⟩ := hcell k hgo
        have ts := List.take_succ_eq_append_getElem hgo
        obtain ⟨y, hy⟩ : ∃ y, m[k] = y := ⟨_, rfl⟩
        rw [hy] at d0 d1 ts
        have HY := hid hy; have TY := hid ts
        clear hy ts hcell
        obtain ⟨y0, y1⟩ := y
        simp only at d0 d1
        by_cases hxy : x0 = y0 ∧ x1 = y1
        · obtain ⟨rfl, rfl⟩ := hxy
          go_wp2_with fail
          go_region
          all_goals
            go_wp2_with fail
            refine ⟨⟨k + 1, by simp, hgo2, ?_, BEL.out.drew⟩, by simp [intOf]; omega⟩
            show _ = _
            rw [TX.out, TY.out, EQ.out]
        · have NE : Hid (decide (l = m) = false) := by
            show _ = _
            rw [decide_eq_false_iff_not]
            intro e
            subst e
            have := HX1.out.symm.trans HY.out
            simp only [Prod.mk.injEq] at this
            exact hxy this
          have key : (¬ x0 = y0) ∨ (x0 = y0 ∧ ¬ x1 = y1) := by
            by_cases q : x0 = y0
            · exact .inr ⟨q, fun q' => hxy ⟨q, q'⟩⟩
            · exact .inl q
          clear hxy
          rcases key with q1 | ⟨q1, q2⟩
          all_goals
            go_wp2_with fail
            go_region
            all_goals
              go_wp2_with fail
              go_ret
              exact ⟨by rw [NE.out]; rfl, BEL.out.drew⟩
      · have h1 : ¬ (k : Int) < (l.length : Int) := by omega
        have E : Hid (decide (l = m) = true) := by
          show _ = _
          have := EQ.out
          rw [List.take_of_length_le (by omega), List.take_of_length_le (by have := HLEN.out; omega)] at this
          rw [decide_eq_true_iff]; exact this
        clear hgo
        go_wp2_with fail
        go_ret
        exact ⟨by rw [E.out]; rfl, BEL.out⟩
  · have b1 : ((l.length : Int) == (m.length : Int)) = false := by rw [beq_eq_false_iff_ne]; omega
    have b2 : ((l.length : Int) != (m.length : Int)) = true := by rw [bne, b1]; rfl
    have NE : Hid (decide (l = m) = false) := by
      show _ = _
      rw [decide_eq_false_iff_not]
      intro e
      exact hlen (by rw [e])
    clear hlen
    go_enter Try.func105, Try.ntmps105
    go_wp2_with fail
    go_ret
    exact ⟨by rw [NE.out]; rfl, Below.refl _ _⟩
end Go.Proofs.Ytlkdkhmdmgchbaa
