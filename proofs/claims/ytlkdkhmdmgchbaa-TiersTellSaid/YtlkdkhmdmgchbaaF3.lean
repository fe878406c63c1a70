/- the document's rows of pairs: Right, With, Of, Union, Kept. -/
import Derived.Test.YtlkdkhmdmgchbaaF2
namespace Go.Proofs.Ytlkdkhmdmgchbaa
set_option linter.unusedSimpArgs false
set_option linter.unusedVariables false
open Go.RowKit

/-- a row that rises. -/
def Rises (l : List Pr) : Prop := l.Pairwise lt
instance (l : List Pr) : Decidable (Rises l) := by unfold Rises; infer_instance
theorem Rises.snoc {l : List Pr} {y x : Pr} (h : Rises (l ++ [y])) (hx : lt y x) : Rises (l ++ [y] ++ [x]) := by
  unfold Rises at *
  rw [List.pairwise_append]
  refine ⟨h, List.pairwise_singleton _ _, fun a ha b hb => ?_⟩
  obtain rfl := List.mem_singleton.1 hb
  rcases List.mem_append.1 ha with ha | ha
  · exact lt_trans ((List.pairwise_append.1 h).2.2 a ha y (List.mem_singleton.2 rfl)) hx
  · obtain rfl := List.mem_singleton.1 ha
    exact hx
theorem Rises.take {l : List Pr} (h : Rises l) (k : Nat) : Rises (l.take k) := List.Pairwise.sublist (List.take_sublist k l) h
theorem Rises.next {l : List Pr} (h : Rises l) (k : Nat) (hk : k + 1 < l.length) : lt l[k] l[k + 1] := List.pairwise_iff_getElem.1 h k (k + 1) (by omega) hk (by omega)
def rightL (l : List Pr) : Bool := decide (Rises l) && decide (l.length ≤ 1048576)

set_option maxRecDepth 100000 in
set_option maxHeartbeats 2000000 in
theorem right_any (v : Value) (l : List Pr) (w : World) (h : PRow w v l) : Calls Try.prog 62 #[v] w fun e w' => e = .returned (.bool (rightL l)) ∧ Below w.heap.size w w' := by
  have HL := h.len
  obtain ⟨p, cap, rfl⟩ := h.form
  have H := hid h; clear h
  go_enter Try.func62, Try.ntmps62
  go_wp2_with fail
  go_loopw [6] (fun v6 wr => ∃ k : Nat, v6 = (.int .i64 (k)) ∧ k ≤ l.length ∧ Hid (Rises (l.take k)) ∧ Hid (Below w.heap.size w wr)) (fun v6 _ => l.length - (intOf v6).toNat)
  case atStart => exact ⟨0, rfl, Nat.zero_le _, List.Pairwise.nil, Below.refl _ _⟩
  case round =>
    obtain ⟨k, rfl, hk, RI, BEL⟩ := hrel
    by_cases hgo : k < l.length
    · have hgo' : (k : Int) < (l.length : Int) := by omega
      have hwk : IntKind.i64.wrap ((k : Int) + 1) = ((k + 1 : Nat) : Int) := by rw [i64_ok _ (by omega) (by omega)]; omega
      by_cases hk0 : k = 0
      · subst hk0
        have q : ¬ (0 : Int) < ((0 : Nat) : Int) := by omega
        have one : Hid (Rises (l.take (0 + 1))) := by
          show Rises _
          rw [List.take_succ_eq_append_getElem hgo]
          exact List.pairwise_singleton _ _
        go_wp2_with fail
        go_big_region
        all_goals
          go_wp2_with fail
          exact ⟨⟨1, by simp, hgo, one, BEL.out.drew⟩, by simp [intOf]; omega⟩
      · obtain ⟨j, hj⟩ : ∃ j, k = j + 1 := ⟨k - 1, by omega⟩
        have HJ := hid hj
        have q : (0 : Int) < (k : Int) := by omega
        have q' : 0 < k := by omega
        have hjl : j < l.length := by omega
        have hb1 : (j : Int) < (l.length : Int) := by omega
        have hb2 : (0 : Int) ≤ (k : Int) := by omega
        have hb3 : (0 : Int) ≤ (j : Int) := by omega
        obtain ⟨g, o, cap, hv, hcell⟩ := (H.out.below BEL.out).cell (by omega)
        simp only [Value.slice.injEq] at hv
        obtain ⟨hv, -, -⟩ := hv
        subst hv
        obtain ⟨d0, d1⟩ := hcell k hgo
        obtain ⟨c0, c1⟩ := hcell j hjl
        have NX : Hid (Rises l → lt l[j] l[k]) := by subst hj; exact fun h => h.next j hgo
        have SN : Hid (lt l[j] l[k] → Rises (l.take (k + 1))) := fun h => by
          have r := RI.out
          subst hj
          rw [List.take_succ_eq_append_getElem hjl] at r
          rw [List.take_succ_eq_append_getElem hgo, List.take_succ_eq_append_getElem hjl]
          exact r.snoc h
        clear hcell
        generalize l[k] = x at *
        generalize l[j] = y at *
        obtain ⟨x0, x1⟩ := x
        obtain ⟨y0, y1⟩ := y
        simp only at d0 d1 c0 c1
        have A := hid (fun W => ahead_any y0 y1 x0 x1 W)
        clear hj hk0
        by_cases hlt : lt (y0, y1) (x0, x1)
        · have e : decide (lt (y0, y1) (x0, x1)) = true := by simpa using hlt
          rw [e] at A
          have SR := hid (SN.out hlt)
          clear hlt e SN NX
          go_wp2_with fail
          have hw1 : (k : Int) - 1 = (j : Int) := by have := HJ.out; omega
          have hw2 : IntKind.i64.wrap (j : Int) = (j : Int) := i64_ok _ (by omega) (by omega)
          have st : Below w.heap.size w wr.drew ∧ wr.drew.cell? ⟨g, o + k * 2, none⟩ = some (.int .u64 (x0)) ∧ wr.drew.cell? ⟨g, o + k * 2 + 1, none⟩ = some (.int .u64 (x1)) ∧ wr.drew.cell? ⟨g, o + j * 2, none⟩ = some (.int .u64 (y0)) ∧ wr.drew.cell? ⟨g, o + j * 2 + 1, none⟩ = some (.int .u64 (y1)) := ⟨BEL.out.drew, d0, d1, c0, c1⟩
          go_region_held3 (fun W => Below w.heap.size w W ∧ W.cell? ⟨g, o + k * 2, none⟩ = some (.int .u64 (x0)) ∧ W.cell? ⟨g, o + k * 2 + 1, none⟩ = some (.int .u64 (x1)) ∧ W.cell? ⟨g, o + j * 2, none⟩ = some (.int .u64 (y0)) ∧ W.cell? ⟨g, o + j * 2 + 1, none⟩ = some (.int .u64 (y1))) (first | assumption | go_keep)
            (first | (go_at_call 60; refine (A.out _).mono ?_; rintro e wa ⟨rfl, B⟩; have hx := (show Below w.heap.size w wa ∧ wa.cell? ⟨g, o + k * 2, none⟩ = some (.int .u64 (x0)) ∧ wa.cell? ⟨g, o + k * 2 + 1, none⟩ = some (.int .u64 (x1)) ∧ wa.cell? ⟨g, o + j * 2, none⟩ = some (.int .u64 (y0)) ∧ wa.cell? ⟨g, o + j * 2 + 1, none⟩ = some (.int .u64 (y1)) from ⟨bel_step st.1 B, cellB B st.2.1, cellB B st.2.2.1, cellB B st.2.2.2.1, cellB B st.2.2.2.2⟩); clear B))
          all_goals
            have hz := hid (And.left (by assumption : Below w.heap.size w wa ∧ _))
            go_wp2_with fail
            exact ⟨⟨k + 1, by simp, hgo, SR, hz.out⟩, by simp [intOf]; omega⟩
        · have e : decide (lt (y0, y1) (x0, x1)) = false := by simpa using hlt
          rw [e] at A
          have NR : Hid (rightL l = false) := by
            show _ = _
            have : ¬ Rises l := fun h => hlt (NX.out h)
            simp [rightL, this]
          clear hlt e SN NX
          go_wp2_with fail
          have hw1 : (k : Int) - 1 = (j : Int) := by have := HJ.out; omega
          have hw2 : IntKind.i64.wrap (j : Int) = (j : Int) := i64_ok _ (by omega) (by omega)
          have st : Below w.heap.size w wr.drew ∧ wr.drew.cell? ⟨g, o + k * 2, none⟩ = some (.int .u64 (x0)) ∧ wr.drew.cell? ⟨g, o + k * 2 + 1, none⟩ = some (.int .u64 (x1)) ∧ wr.drew.cell? ⟨g, o + j * 2, none⟩ = some (.int .u64 (y0)) ∧ wr.drew.cell? ⟨g, o + j * 2 + 1, none⟩ = some (.int .u64 (y1)) := ⟨BEL.out.drew, d0, d1, c0, c1⟩
          go_region_held3 (fun W => Below w.heap.size w W ∧ W.cell? ⟨g, o + k * 2, none⟩ = some (.int .u64 (x0)) ∧ W.cell? ⟨g, o + k * 2 + 1, none⟩ = some (.int .u64 (x1)) ∧ W.cell? ⟨g, o + j * 2, none⟩ = some (.int .u64 (y0)) ∧ W.cell? ⟨g, o + j * 2 + 1, none⟩ = some (.int .u64 (y1))) (first | assumption | go_keep)
            (first | (go_at_call 60; refine (A.out _).mono ?_; rintro e wa ⟨rfl, B⟩; have hx := (show Below w.heap.size w wa ∧ wa.cell? ⟨g, o + k * 2, none⟩ = some (.int .u64 (x0)) ∧ wa.cell? ⟨g, o + k * 2 + 1, none⟩ = some (.int .u64 (x1)) ∧ wa.cell? ⟨g, o + j * 2, none⟩ = some (.int .u64 (y0)) ∧ wa.cell? ⟨g, o + j * 2 + 1, none⟩ = some (.int .u64 (y1)) from ⟨bel_step st.1 B, cellB B st.2.1, cellB B st.2.2.1, cellB B st.2.2.2.1, cellB B st.2.2.2.2⟩); clear B))
          all_goals
            have hz := hid (And.left (by assumption : Below w.heap.size w wa ∧ _))
            go_wp2_with fail
            go_ret
            exact ⟨by rw [NR.out]; rfl, hz.out⟩
    · have h1 : ¬ (k : Int) < (l.length : Int) := by omega
      rw [List.take_of_length_le (by omega)] at RI
      have e : decide (Rises l) = true := by simpa using RI.out
      clear hgo
      by_cases hm : l.length ≤ 1048576
      · have E : Hid (rightL l = true) := by show _ = _; simp [rightL, e, hm]
        have hm' : (l.length : Int) ≤ 1048576 := by omega
        go_wp2_with fail
        go_ret
        exact ⟨by rw [E.out]; rfl, BEL.out⟩
      · have E : Hid (rightL l = false) := by show _ = _; simp [rightL, hm]
        have hm' : ¬ (l.length : Int) ≤ 1048576 := by omega
        go_wp2_with fail
        go_ret
        exact ⟨by rw [E.out]; rfl, BEL.out⟩
end Go.Proofs.Ytlkdkhmdmgchbaa
