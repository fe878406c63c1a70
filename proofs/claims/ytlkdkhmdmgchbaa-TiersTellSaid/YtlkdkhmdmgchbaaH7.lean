/- the program: rows that are the same, tiers that are the same. -/
import Derived.Test.YtlkdkhmdmgchbaaH6
namespace Go.Proofs.Ytlkdkhmdmgchbaa
set_option linter.unusedSimpArgs false
set_option linter.unusedVariables false
open Go.RowKit

set_option maxRecDepth 100000 in
set_option maxHeartbeats 2000000 in
theorem equal_any (v u : Value) (l m : List Pr) (w : World) (h : PRow w v l) (h' : PRow w u m) : Calls Try.prog 40 #[v, u] w fun e w' => e = .returned (.bool (decide (l = m))) ∧ Below w.heap.size w w' := by
  have HL := h.len
  obtain ⟨p, cap, rfl⟩ := h.form
  obtain ⟨q, cap', rfl⟩ := h'.form
  have H := hid h; have H' := hid h'; clear h h'
  by_cases hlen : l.length = m.length
  · have b1 : ((l.length : Int) == (m.length : Int)) = true := by rw [beq_iff_eq]; omega
    have b2 : ((l.length : Int) != (m.length : Int)) = false := by rw [bne, b1]; rfl
    have HLEN := hid hlen
    go_enter Try.func40, Try.ntmps40
    go_wp2_with fail
    go_loopw [13] (fun v13 wr => ∃ k : Nat, v13 = (.int .i64 (k)) ∧ k ≤ l.length ∧ Hid (l.take k = m.take k) ∧ Hid (Below w.heap.size w wr)) (fun v13 _ => l.length - (intOf v13).toNat)
    case atStart => exact ⟨0, rfl, Nat.zero_le _, rfl, Below.refl _ _⟩
    case round =>
      obtain ⟨k, rfl, hk, EQ, BEL⟩ := hrel
      by_cases hgo : k < l.length
      · have hgo' : (k : Int) < (l.length : Int) := by omega
        obtain ⟨g, o, cap, hv, hcell⟩ := (H.out.below BEL.out).cell (by omega)
        simp only [Value.slice.injEq] at hv
        obtain ⟨hv, -, -⟩ := hv
        first | subst hv | (simp only [Option.some.injEq, Addr.mk.injEq] at hv; obtain ⟨rfl, rfl, -⟩ := hv)
        obtain ⟨d0, d1⟩ := hcell k hgo
        have ts := List.take_succ_eq_append_getElem hgo
        obtain ⟨x, hx⟩ : ∃ x, l[k] = x := ⟨_, rfl⟩
        rw [hx] at d0 d1 ts
        have HX := hid hx; have TS := hid ts
        clear hx ts hcell
        obtain ⟨x0, x1⟩ := x
        simp only at d0 d1
        have e0 := d0; have e1 := d1; have TX := TS; have HX1 := HX
        clear d0 d1 TS HX
        have hgo2 := hgo
        have hgo : k < m.length := by have := HLEN.out; omega
        have hgo3 : (k : Int) < (m.length : Int) := by omega
        obtain ⟨g', o', cap'', hv, hcell⟩ := (H'.out.below BEL.out).cell (by omega)
        simp only [Value.slice.injEq] at hv
        obtain ⟨hv, -, -⟩ := hv
        subst hv
        obtain ⟨d0, d1⟩ := hcell k hgo
        have ts := List.take_succ_eq_append_getElem hgo
        obtain ⟨y, hy⟩ : ∃ y, m[k] = y := ⟨_, rfl⟩
        rw [hy] at d0 d1 ts
        have HY := hid hy; have TY := hid ts
        clear hy ts hcell
        obtain ⟨y0, y1⟩ := y
        simp only at d0 d1
        by_cases hxy : x0 = y0 ∧ x1 = y1
        · obtain ⟨rfl, rfl⟩ := hxy
          go_wp2_with fail
          go_region
          all_goals
            go_wp2_with fail
            refine ⟨⟨k + 1, by simp, hgo2, ?_, BEL.out.drew⟩, by simp [intOf]; omega⟩
            show _ = _
            rw [TX.out, TY.out, EQ.out]
        · have NE : Hid (decide (l = m) = false) := by
            show _ = _
            rw [decide_eq_false_iff_not]
            intro e
            subst e
            have := HX1.out.symm.trans HY.out
            simp only [Prod.mk.injEq] at this
            exact hxy this
          have key : (¬ x0 = y0) ∨ (x0 = y0 ∧ ¬ x1 = y1) := by
            by_cases q : x0 = y0
            · exact .inr ⟨q, fun q' => hxy ⟨q, q'⟩⟩
            · exact .inl q
          clear hxy
          rcases key with q1 | ⟨q1, q2⟩
          all_goals
            go_wp2_with fail
            go_region
            all_goals
              go_wp2_with fail
              go_ret
              exact ⟨by rw [NE.out]; rfl, BEL.out.drew⟩
      · have h1 : ¬ (k : Int) < (l.length : Int) := by omega
        have E : Hid (decide (l = m) = true) := by
          show _ = _
          have := EQ.out
          rw [List.take_of_length_le (by omega), List.take_of_length_le (by have := HLEN.out; omega)] at this
          rw [decide_eq_true_iff]; exact this
        clear hgo
        go_wp2_with fail
        go_ret
        exact ⟨by rw [E.out]; rfl, BEL.out⟩
  · have b1 : ((l.length : Int) == (m.length : Int)) = false := by rw [beq_eq_false_iff_ne]; omega
    have b2 : ((l.length : Int) != (m.length : Int)) = true := by rw [bne, b1]; rfl
    have NE : Hid (decide (l = m) = false) := by
      show _ = _
      rw [decide_eq_false_iff_not]
      intro e
      exact hlen (by rw [e])
    clear hlen
    go_enter Try.func40, Try.ntmps40
    go_wp2_with fail
    go_ret
    exact ⟨by rw [NE.out]; rfl, Below.refl _ _⟩

set_option maxRecDepth 100000 in
set_option maxHeartbeats 1000000 in
/-- merge.sameTier. -/
theorem psametier_any (vA vD uA uD : Value) (t u : Tr) (w : World) (h : TPair w vA vD t) (h' : TPair w uA uD u) : Calls Try.prog 106 #[.agg #[vA, vD], .agg #[uA, uD]] w fun e w' => e = .returned (.bool (decide (t = u))) ∧ Below w.heap.size w w' := by
  have P1 := hid (fun (W : World) (B : Below w.heap.size w W) => equal_any vA uA t.1 u.1 W (h.1.below B) (h'.1.below B))
  have P2 := hid (fun (W : World) (B : Below w.heap.size w W) => equal_any vD uD t.2 u.2 W (h.2.below B) (h'.2.below B))
  have E : Hid (decide (t = u) = (decide (t.1 = u.1) && decide (t.2 = u.2))) := by
    show _ = _
    rw [Bool.eq_iff_iff]
    simp [Prod.ext_iff]
  rw [E.out]
  clear E
  obtain ⟨p0, c0, rfl⟩ := h.1.form
  obtain ⟨p1, c1, rfl⟩ := h.2.form
  obtain ⟨q0, d0, rfl⟩ := h'.1.form
  obtain ⟨q1, d1, rfl⟩ := h'.2.form
  clear h h'
  generalize decide (t.1 = u.1) = e1 at *
  generalize decide (t.2 = u.2) = e2 at *
  have st := hid ((Vx.new w (.slice p0 t.1.length c0) (.slice p1 t.2.length c1) 24).keep (below_alloc _ (.cells #[.slice q0 u.1.length d0, .slice q1 u.2.length d1] 24)))
  have su := hid (Vx.new (w.alloc (.cells #[.slice p0 t.1.length c0, .slice p1 t.2.length c1] 24)) (.slice q0 u.1.length d0) (.slice q1 u.2.length d1) 24)
  go_enter Try.func106, Try.ntmps106
  go_wp2_with fail
  have BW : Below w.heap.size w ((w.alloc (.cells #[.slice p0 t.1.length c0, .slice p1 t.2.length c1] 24)).alloc (.cells #[.slice q0 u.1.length d0, .slice q1 u.2.length d1] 24)) := by
    repeat' (first | exact Below.refl _ _ | with_reducible refine Below.alloc ?_ ?_ _ | with_reducible refine Below.setCell ?_ ?_ _ | with_reducible refine Below.drew ?_ | with_reducible refine below_drewN ?_ _ | refine Below.trans ?_ (Below.mono (by assumption) ?_))
    all_goals (first | omega | (simp <;> omega))
  refine (P1.out _ BW).mono ?_
  rintro e w1 ⟨rfl, B⟩
  replace st := hid (st.out.keep B)
  replace su := hid (su.out.keep B)
  replace BW := bel_step BW B
  have BH := hid BW
  clear B
  cases e1
  · clear BW
    go_wp2_with fail
    go_ret
    exact ⟨by simp, BH.out⟩
  · obtain ⟨a0, a1, a2⟩ := st.out
    obtain ⟨b0, b1, b2⟩ := su.out
    simp only [World.size_alloc] at b0 b1 b2
    clear BW
    go_wp2_with fail
    refine (P2.out _ BH.out).mono ?_
    rintro e w2 ⟨rfl, B⟩
    replace BH := hid (bel_step BH.out B)
    clear B a0 a1 a2 b0 b1 b2
    go_wp2_with fail
    go_ret
    exact ⟨by simp, BH.out⟩
end Go.Proofs.Ytlkdkhmdmgchbaa
