/- the document's tiers: Same. -/
import Derived.Test.YtlkdkhmdmgchbaaF6
namespace Go.Proofs.Ytlkdkhmdmgchbaa
set_option linter.unusedSimpArgs false
set_option linter.unusedVariables false
open Go.RowKit

abbrev VV (w : World) (T : Nat) (x y : Value) (g o0 o1 : Nat) (p q : Value) (W : World) : Prop := Below w.heap.size w W ∧ W.cell? ⟨T, 0, none⟩ = some x ∧ W.cell? ⟨T, 1, none⟩ = some y ∧ W.cell? ⟨g, o0, none⟩ = some p ∧ W.cell? ⟨g, o1, none⟩ = some q
theorem VV.keep {w : World} {T : Nat} {x y : Value} {g o0 o1 : Nat} {p q : Value} {W W' : World} (h : VV w T x y g o0 o1 p q W) (B : Below W.heap.size W W') : VV w T x y g o0 o1 p q W' :=
  ⟨bel_step h.1 B, cellB B h.2.1, cellB B h.2.2.1, cellB B h.2.2.2.1, cellB B h.2.2.2.2⟩

set_option maxRecDepth 100000 in
set_option maxHeartbeats 2000000 in
theorem tsame_any (v u : Value) (l m : List Tr) (w : World) (h : TRow w v l) (h' : TRow w u m) : Calls Try.prog 32 #[v, u] w fun e w' => e = .returned (.bool (decide (l = m))) ∧ Below w.heap.size w w' := by
  have HL := h.len
  obtain ⟨p, cap, rfl⟩ := h.form
  obtain ⟨q, cap', rfl⟩ := h'.form
  have H := hid h; have H' := hid h'; clear h h'
  by_cases hlen : l.length = m.length
  · have b1 : ((l.length : Int) == (m.length : Int)) = true := by rw [beq_iff_eq]; omega
    have b2 : ((l.length : Int) != (m.length : Int)) = false := by rw [bne, b1]; rfl
    have HLEN := hid hlen
    clear hlen
    go_enter Try.func32, Try.ntmps32
    go_wp2_with fail
    go_loopw [14] (fun v13 wr => ∃ k : Nat, v13 = (.int .i64 (k)) ∧ k ≤ l.length ∧ Hid (l.take k = m.take k) ∧ Hid (Below w.heap.size w wr)) (fun v13 _ => l.length - (intOf v13).toNat)
    case atStart => exact ⟨0, rfl, Nat.zero_le _, rfl, Below.refl _ _⟩
    case round =>
      obtain ⟨k, rfl, hk, EQ, BEL⟩ := hrel
      by_cases hgo : k < l.length
      · have hgo' : (k : Int) < (l.length : Int) := by omega
        have hgo2 : k < m.length := by have := HLEN.out; omega
        have hgo3 : (k : Int) < (m.length : Int) := by omega
        have hgo4 : (0 : Int) ≤ (k : Int) := by omega
        have hwk : IntKind.i64.wrap ((k : Int) + 1) = ((k + 1 : Nat) : Int) := by rw [i64_ok _ (by omega) (by omega)]; omega
        obtain ⟨g, o, cap, hv, hcell⟩ := (H.out.below BEL.out).cell (by omega)
        simp only [Value.slice.injEq] at hv
        obtain ⟨hv, -, -⟩ := hv
        subst hv
        obtain ⟨vA, vD, d0, d1, hA, hD⟩ := hcell k hgo
        obtain ⟨g', o', cap'', hv, hcell'⟩ := (H'.out.below BEL.out).cell (by omega)
        simp only [Value.slice.injEq] at hv
        obtain ⟨hv, -, -⟩ := hv
        subst hv
        obtain ⟨uA, uD, e0, e1, hB, hE⟩ := hcell' k hgo2
        have ts := List.take_succ_eq_append_getElem hgo
        have us := List.take_succ_eq_append_getElem hgo2
        have NEQ : Hid (l = m → l[k] = m[k]) := fun e => by subst e; rfl
        clear hcell hcell'
        generalize l[k] = t at *
        generalize m[k] = t' at *
        obtain ⟨A, D⟩ := t
        obtain ⟨A', D'⟩ := t'
        simp only at hA hD hB hE
        have TS := hid ts; have US := hid us; clear ts us
        obtain ⟨pA, cA, rfl⟩ := hA.form
        obtain ⟨pD, cD, rfl⟩ := hD.form
        obtain ⟨pB, cB, rfl⟩ := hB.form
        obtain ⟨pE, cE, rfl⟩ := hE.form
        have HA := hid hA; have HD := hid hD; have HB := hid hB; have HE := hid hE
        clear hA hD hB hE
        have C1 : Hid (∀ W, Below wr.heap.size wr W → Calls Try.prog 105 #[.slice pA A.length cA, .slice pB A'.length cB] W fun e w' => e = .returned (.bool (decide (A = A'))) ∧ Below W.heap.size W w') := fun W B => same_any _ _ A A' W (HA.out.below B) (HB.out.below B)
        have C2 : Hid (∀ W, Below wr.heap.size wr W → Calls Try.prog 105 #[.slice pD D.length cD, .slice pE D'.length cE] W fun e w' => e = .returned (.bool (decide (D = D'))) ∧ Below W.heap.size W w') := fun W B => same_any _ _ D D' W (HD.out.below B) (HE.out.below B)
        go_wp2_with fail
        have BD : Below wr.heap.size wr ((wr.alloc (.cells #[.slice pA A.length cA, .slice pD D.length cD] 24)).drew) := (below_alloc _ _).drew
        have st : VV wr wr.heap.size (.slice pA A.length cA) (.slice pD D.length cD) g' (o' + k * 2) (o' + k * 2 + 1) (.slice pB A'.length cB) (.slice pE D'.length cE) ((wr.alloc (.cells #[.slice pA A.length cA, .slice pD D.length cD] 24)).drew) := ⟨BD, by go_simp, by go_simp, cellB BD e0, cellB BD e1⟩
        clear BD HA HD HB HE d0 d1 e0 e1
        generalize (wr.alloc (.cells #[.slice pA A.length cA, .slice pD D.length cD] 24)) = W0 at *
        by_cases hAA : A = A'
        · by_cases hDD : D = D'
          · have f1 : decide (A = A') = true := by simpa using hAA
            have f2 : decide (D = D') = true := by simpa using hDD
            rw [f1] at C1
            rw [f2] at C2
            have OK : Hid (l.take (k + 1) = m.take (k + 1)) := by show _ = _; rw [TS.out, US.out, EQ.out, hAA, hDD]
            clear f1 f2 hAA hDD
            go_region_held3 (fun W => Below wr.heap.size wr W ∧ W.cell? ⟨wr.heap.size, 0, none⟩ = some (.slice pA A.length cA) ∧ W.cell? ⟨wr.heap.size, 1, none⟩ = some (.slice pD D.length cD) ∧ W.cell? ⟨g', o' + k * 2, none⟩ = some (.slice pB A'.length cB) ∧ W.cell? ⟨g', o' + k * 2 + 1, none⟩ = some (.slice pE D'.length cE)) (first | assumption | go_keep)
              (first | (go_at_call 105; refine (C1.out _ st.1).mono ?_; clear C1; rintro e wa ⟨rfl, B⟩; have hx := VV.keep st B; clear B) | (go_at_call 105; refine (C2.out _ hx.1).mono ?_; rintro e wb ⟨rfl, B⟩; have hy := VV.keep hx B; clear B))
            all_goals
              go_wp2_with fail
              exact ⟨⟨k + 1, by simp, hgo, OK, bel_step BEL.out hy.1⟩, by simp [intOf]; omega⟩
          · have f1 : decide (A = A') = true := by simpa using hAA
            have f2 : decide (D = D') = false := by simpa using hDD
            rw [f1] at C1
            rw [f2] at C2
            have NO : Hid (decide (l = m) = false) := by
              show _ = _
              rw [decide_eq_false_iff_not]
              intro e
              have := NEQ.out e
              simp only [Prod.mk.injEq] at this
              exact hDD this.2
            clear f1 f2 hAA hDD
            go_region_held3 (fun W => Below wr.heap.size wr W ∧ W.cell? ⟨wr.heap.size, 0, none⟩ = some (.slice pA A.length cA) ∧ W.cell? ⟨wr.heap.size, 1, none⟩ = some (.slice pD D.length cD) ∧ W.cell? ⟨g', o' + k * 2, none⟩ = some (.slice pB A'.length cB) ∧ W.cell? ⟨g', o' + k * 2 + 1, none⟩ = some (.slice pE D'.length cE)) (first | assumption | go_keep)
              (first | (go_at_call 105; refine (C1.out _ st.1).mono ?_; clear C1; rintro e wa ⟨rfl, B⟩; have hx := VV.keep st B; clear B) | (go_at_call 105; refine (C2.out _ hx.1).mono ?_; rintro e wb ⟨rfl, B⟩; have hy := VV.keep hx B; clear B))
            all_goals
              go_wp2_with fail
              go_ret
              exact ⟨by rw [NO.out]; rfl, bel_step BEL.out hy.1⟩
        · have f1 : decide (A = A') = false := by simpa using hAA
          rw [f1] at C1
          have NO : Hid (decide (l = m) = false) := by
            show _ = _
            rw [decide_eq_false_iff_not]
            intro e
            have := NEQ.out e
            simp only [Prod.mk.injEq] at this
            exact hAA this.1
          clear f1 hAA C2
          obtain ⟨s0, s1, s2, s3, s4⟩ := st
          go_region_with (first | (go_at_call 105; refine (C1.out _ s0).mono ?_; clear C1; rintro e wa ⟨rfl, B⟩; have hx := VV.keep ⟨s0, s1, s2, s3, s4⟩ B; clear B; rename_i K hK; refine hK _ _ ?_; clear hK K; refine wpAny_take (i := 8) (v := .bool true) rfl (by kernel_rfl) (by kernel_rfl) (by kernel_rfl) (fun _ _ _ h => h) (Or.inl ⟨by kernel_rfl, fun w => by go_simp⟩) ?_; refine wpAny_take (i := 9) (v := .bool true) rfl (by kernel_rfl) (by kernel_rfl) (by kernel_rfl) (fun _ _ _ h => h) (Or.inl ⟨by kernel_rfl, fun w => by go_simp⟩) ?_; refine wpAny_take (i := 10) (v := undef) rfl (by kernel_rfl) (by kernel_rfl) (by kernel_rfl) (fun _ _ _ h => h) (Or.inr ⟨by kernel_rfl, rfl⟩) ?_; refine wpAny_take (i := 11) (v := undef) rfl (by kernel_rfl) (by kernel_rfl) (by kernel_rfl) (fun _ _ _ h => h) (Or.inr ⟨by kernel_rfl, rfl⟩) ?_; refine wpAny_take (i := 12) (v := undef) rfl (by kernel_rfl) (by kernel_rfl) (by kernel_rfl) (fun _ _ _ h => h) (Or.inr ⟨by kernel_rfl, rfl⟩) ?_; refine wpAny_take (i := 13) (v := undef) rfl (by kernel_rfl) (by kernel_rfl) (by kernel_rfl) (fun _ _ _ h => h) (Or.inr ⟨by kernel_rfl, rfl⟩) ?_; refine wpAny_take (i := 14) (v := undef) rfl (by kernel_rfl) (by kernel_rfl) (by kernel_rfl) (fun _ _ _ h => h) (Or.inr ⟨by kernel_rfl, rfl⟩) ?_; refine wpAny_take (i := 15) (v := undef) rfl (by kernel_rfl) (by kernel_rfl) (by kernel_rfl) (fun _ _ _ h => h) (Or.inr ⟨by kernel_rfl, rfl⟩) ?_; refine wpAny_take (i := 16) (v := undef) rfl (by kernel_rfl) (by kernel_rfl) (by kernel_rfl) (fun _ _ _ h => h) (Or.inr ⟨by kernel_rfl, rfl⟩) ?_))
          all_goals
            go_wp2_with fail
            go_ret
            exact ⟨by rw [NO.out]; rfl, bel_step BEL.out hx.1⟩
      · have h1 : ¬ (k : Int) < (l.length : Int) := by omega
        have E : Hid (decide (l = m) = true) := by
          show _ = _
          have := EQ.out
          rw [List.take_of_length_le (by omega), List.take_of_length_le (by have := HLEN.out; omega)] at this
          rw [decide_eq_true_iff]; exact this
        clear hgo
        go_wp2_with fail
        go_ret
        exact ⟨by rw [E.out]; rfl, BEL.out⟩
  · have b1 : ((l.length : Int) == (m.length : Int)) = false := by rw [beq_eq_false_iff_ne]; omega
    have b2 : ((l.length : Int) != (m.length : Int)) = true := by rw [bne, b1]; rfl
    have NE : Hid (decide (l = m) = false) := by
      show _ = _
      rw [decide_eq_false_iff_not]
      intro e
      exact hlen (by rw [e])
    clear hlen
    go_enter Try.func32, Try.ntmps32
    go_wp2_with fail
    go_ret
    exact ⟨by rw [NE.out]; rfl, Below.refl _ _⟩
end Go.Proofs.Ytlkdkhmdmgchbaa
