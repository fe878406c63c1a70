/- the program's runs: Check. -/
import Derived.Test.YtlkdkhmdmgchbaaF13
import Derived.WalkMore
namespace Go.Proofs.Ytlkdkhmdmgchbaa
set_option linter.unusedSimpArgs false
set_option linter.unusedVariables false
open Go.RowKit

/-- an error number. -/
abbrev errno (b : Bool) (e : Int) : Value := .int .i64 (if b then 0 else e)

set_option maxRecDepth 100000 in
set_option maxHeartbeats 2000000 in
theorem check_any (v : Value) (l : List Pr) (w : World) (h : PRow w v l) : Calls Try.prog 41 #[v] w fun e w' => e = .returned (errno (rightL l) 130) ∧ Below w.heap.size w w' := by
  have HL := h.len
  obtain ⟨p, cap, rfl⟩ := h.form
  have H := hid h; clear h
  by_cases hm : l.length ≤ 1048576
  · have hm' : (l.length : Int) ≤ 1048576 := by omega
    have HM := hid hm
    go_enter Try.func41, Try.ntmps41
    go_wp2_with fail
    go_step3
    go_wp2_with fail
    go_step3
    go_wp2_with fail
    go_loopw [3, 4, 10] (fun v3 _ v10 wr => ∃ k : Nat, v3 = .bool true ∧ v10 = (.int .i64 (k)) ∧ k ≤ l.length ∧ Hid (Rises (l.take k)) ∧ Hid (Below w.heap.size w wr)) (fun _ _ v10 _ => l.length - (intOf v10).toNat)
    case atStart => exact ⟨0, rfl, rfl, Nat.zero_le _, List.Pairwise.nil, Below.refl _ _⟩
    case round =>
      obtain ⟨k, rfl, rfl, hk, RI, BEL⟩ := hrel
      by_cases hgo : k < l.length
      · have hgo' : (k : Int) < (l.length : Int) := by omega
        have hwk : IntKind.i64.wrap ((k : Int) + 1) = ((k + 1 : Nat) : Int) := by rw [i64_ok _ (by omega) (by omega)]; omega
        by_cases hk0 : k = 0
        · subst hk0
          have one : Hid (Rises (l.take (0 + 1))) := by
            show Rises _
            rw [List.take_succ_eq_append_getElem hgo]
            exact List.pairwise_singleton _ _
          go_wp2_with fail
          go_big_region
          all_goals
            go_wp2_with fail
            exact ⟨⟨1, rfl, by simp, hgo, one, BEL.out.drew⟩, by simp [intOf]; omega⟩
        · obtain ⟨j, hj⟩ : ∃ j, k = j + 1 := ⟨k - 1, by omega⟩
          have HJ := hid hj
          have q1 : ((k : Int) == 0) = false := by simpa using hk0
          have hjl : j < l.length := by omega
          have hb1 : (j : Int) < (l.length : Int) := by omega
          have hb2 : (0 : Int) ≤ (k : Int) := by omega
          have hb3 : (0 : Int) ≤ (j : Int) := by omega
          obtain ⟨g, o, cap, hv, hcell⟩ := (H.out.below BEL.out).cell (by omega)
          simp only [Value.slice.injEq] at hv
          obtain ⟨hv, -, -⟩ := hv
          subst hv
          obtain ⟨d0, d1⟩ := hcell k hgo
          obtain ⟨c0, c1⟩ := hcell j hjl
          have NX : Hid (Rises l → lt l[j] l[k]) := by subst hj; exact fun h => h.next j hgo
          have SN : Hid (lt l[j] l[k] → Rises (l.take (k + 1))) := fun h => by
            have r := RI.out
            subst hj
            rw [List.take_succ_eq_append_getElem hjl] at r
            rw [List.take_succ_eq_append_getElem hgo, List.take_succ_eq_append_getElem hjl]
            exact r.snoc h
          clear hcell
          generalize l[k] = x at *
          generalize l[j] = y at *
          obtain ⟨x0, x1⟩ := x
          obtain ⟨y0, y1⟩ := y
          simp only at d0 d1 c0 c1
          have A := hid (fun W => compare_any y0 y1 x0 x1 W)
          have hlt0 := pcmp_lt (y0, y1) (x0, x1)
          clear hj hk0
          obtain ⟨z, hz⟩ : ∃ z, pcmp (y0, y1) (x0, x1) = z := ⟨_, rfl⟩
          have zs := hid (pcmp_small (y0, y1) (x0, x1))
          rw [hz] at A hlt0 zs
          clear hz
          by_cases hlt : z < 0
          · have SR := hid (SN.out (hlt0.1 hlt))
            clear SN NX hlt0
            go_wp2_with fail
            have hw1 : (k : Int) - 1 = (j : Int) := by have := HJ.out; omega
            have hw2 : IntKind.i64.wrap (j : Int) = (j : Int) := i64_ok _ (by omega) (by omega)
            have st : Below w.heap.size w wr.drew ∧ wr.drew.cell? ⟨g, o + k * 2, none⟩ = some (.int .u64 (x0)) ∧ wr.drew.cell? ⟨g, o + k * 2 + 1, none⟩ = some (.int .u64 (x1)) ∧ wr.drew.cell? ⟨g, o + j * 2, none⟩ = some (.int .u64 (y0)) ∧ wr.drew.cell? ⟨g, o + j * 2 + 1, none⟩ = some (.int .u64 (y1)) := ⟨BEL.out.drew, d0, d1, c0, c1⟩
            go_region_held3 (fun W => Below w.heap.size w W ∧ W.cell? ⟨g, o + k * 2, none⟩ = some (.int .u64 (x0)) ∧ W.cell? ⟨g, o + k * 2 + 1, none⟩ = some (.int .u64 (x1)) ∧ W.cell? ⟨g, o + j * 2, none⟩ = some (.int .u64 (y0)) ∧ W.cell? ⟨g, o + j * 2 + 1, none⟩ = some (.int .u64 (y1))) (first | assumption | go_keep)
              (first | (go_at_call 56; refine (A.out _).mono ?_; rintro e wa ⟨rfl, B⟩; have hx := (show Below w.heap.size w wa ∧ wa.cell? ⟨g, o + k * 2, none⟩ = some (.int .u64 (x0)) ∧ wa.cell? ⟨g, o + k * 2 + 1, none⟩ = some (.int .u64 (x1)) ∧ wa.cell? ⟨g, o + j * 2, none⟩ = some (.int .u64 (y0)) ∧ wa.cell? ⟨g, o + j * 2 + 1, none⟩ = some (.int .u64 (y1)) from ⟨bel_step st.1 B, cellB B st.2.1, cellB B st.2.2.1, cellB B st.2.2.2.1, cellB B st.2.2.2.2⟩); clear B))
            all_goals
              have hz := hid (And.left (by assumption : Below w.heap.size w wa ∧ _))
              go_wp2_with fail
              exact ⟨⟨k + 1, rfl, by simp, hgo, SR, hz.out⟩, by simp [intOf]; omega⟩
          · have NR : Hid (rightL l = false) := by
              show _ = _
              have : ¬ Rises l := fun h => hlt (hlt0.2 (NX.out h))
              simp [rightL, this]
            have hz3 := zs.out
            clear SN NX hlt0
            rcases (show z = 0 ∨ z = 1 by omega) with rfl | rfl
            all_goals clear hlt hz3
            all_goals
              go_wp2_with fail
              have hw1 : (k : Int) - 1 = (j : Int) := by have := HJ.out; omega
              have hw2 : IntKind.i64.wrap (j : Int) = (j : Int) := i64_ok _ (by omega) (by omega)
              have st : Below w.heap.size w wr.drew ∧ wr.drew.cell? ⟨g, o + k * 2, none⟩ = some (.int .u64 (x0)) ∧ wr.drew.cell? ⟨g, o + k * 2 + 1, none⟩ = some (.int .u64 (x1)) ∧ wr.drew.cell? ⟨g, o + j * 2, none⟩ = some (.int .u64 (y0)) ∧ wr.drew.cell? ⟨g, o + j * 2 + 1, none⟩ = some (.int .u64 (y1)) := ⟨BEL.out.drew, d0, d1, c0, c1⟩
              go_region_held3 (fun W => Below w.heap.size w W ∧ W.cell? ⟨g, o + k * 2, none⟩ = some (.int .u64 (x0)) ∧ W.cell? ⟨g, o + k * 2 + 1, none⟩ = some (.int .u64 (x1)) ∧ W.cell? ⟨g, o + j * 2, none⟩ = some (.int .u64 (y0)) ∧ W.cell? ⟨g, o + j * 2 + 1, none⟩ = some (.int .u64 (y1))) (first | assumption | go_keep)
                (first | (go_at_call 56; refine (A.out _).mono ?_; rintro e wa ⟨rfl, B⟩; have hx := (show Below w.heap.size w wa ∧ wa.cell? ⟨g, o + k * 2, none⟩ = some (.int .u64 (x0)) ∧ wa.cell? ⟨g, o + k * 2 + 1, none⟩ = some (.int .u64 (x1)) ∧ wa.cell? ⟨g, o + j * 2, none⟩ = some (.int .u64 (y0)) ∧ wa.cell? ⟨g, o + j * 2 + 1, none⟩ = some (.int .u64 (y1)) from ⟨bel_step st.1 B, cellB B st.2.1, cellB B st.2.2.1, cellB B st.2.2.2.1, cellB B st.2.2.2.2⟩); clear B))
              all_goals
                have hz := hid (And.left (by assumption : Below w.heap.size w wa ∧ _))
                go_wp2_with fail
                (try rw [Exit.noGoto_ret]); go_ret
                exact ⟨by rw [NR.out]; rfl, hz.out⟩
      · have h1 : ¬ (k : Int) < (l.length : Int) := by omega
        rw [List.take_of_length_le (by omega)] at RI
        have e : decide (Rises l) = true := by simpa using RI.out
        have E : Hid (rightL l = true) := by show _ = _; simp [rightL, e, hm]
        clear hgo e
        go_wp2_with fail
        (try rw [Exit.noGoto_ret]); go_ret
        exact ⟨by rw [E.out]; rfl, BEL.out⟩
  · have hm' : ¬ (l.length : Int) ≤ 1048576 := by omega
    have E : Hid (rightL l = false) := by show _ = _; simp [rightL, hm]
    have hpos : (0 : Int) < (l.length : Int) := by omega
    have hpos' : 0 < l.length := by omega
    go_enter Try.func41, Try.ntmps41
    go_wp2_with fail
    go_step3
    go_wp2_with fail
    go_step3
    go_wp2_with fail
    go_loopw [3, 4, 10] (fun v3 _ v10 wr => v3 = .bool false ∧ v10 = (.int .i64 (0)) ∧ Hid (Below w.heap.size w wr)) (fun _ _ _ _ => 0)
    case atStart => exact ⟨by simp; omega, rfl, Below.refl _ _⟩
    case round =>
      obtain ⟨rfl, rfl, BEL⟩ := hrel
      go_wp2_with fail
      go_big_region
      all_goals
        go_wp2_with fail
        (try rw [Exit.noGoto_ret]); go_ret
        exact ⟨by rw [E.out]; rfl, BEL.out.drew⟩
end Go.Proofs.Ytlkdkhmdmgchbaa
