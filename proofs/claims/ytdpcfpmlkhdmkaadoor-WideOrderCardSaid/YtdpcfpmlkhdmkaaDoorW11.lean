/- wide: Power. -/
import Derived.Test.YtdpcfpmlkhdmkaaDoorW10
namespace Go.Proofs.YtdpcfpmlkhdmkaaDoor
open Go.RowKit

def One (w : World) : Prop := 0 < w.heap.size ∧ w.cell? ⟨0, 0, none⟩ = some (.int .u64 (0)) ∧ w.cell? ⟨0, 1, none⟩ = some (.int .u64 (1))
theorem One.below {B : Nat} {w w' : World} (h : One w) (hB : 0 < B) (hb : Below B w w') : One w' :=
  ⟨by have := hb.size; have := h.1; omega, (hb.cell (p := ⟨0, 0, none⟩) hB).trans h.2.1, (hb.cell (p := ⟨0, 1, none⟩) hB).trans h.2.2⟩

theorem power_neg (a b n : Int) (w : World) (hn : n < 0) : Calls Tryd.prog 16 #[.agg #[(.int .u64 (a)), (.int .u64 (b))], (.int .i64 (n))] w fun e w' =>
    e = .returned (.tuple #[.agg #[(.int .u64 (0)), (.int .u64 (0))], (.int .i64 (2))]) ∧ Below w.heap.size w w' := by
  go_enter Tryd.func16, Tryd.ntmps16
  go_wp2_with fail
  refine bodyPost_ret (v := .tuple #[.agg #[(.int .u64 (0)), (.int .u64 (0))], (.int .i64 (2))]) (by simp [results, Tryd.results16, go_sem]) rfl ⟨rfl, ?_⟩
  repeat' (first | exact Below.refl _ _ | with_reducible refine Below.alloc ?_ ?_ _ | with_reducible refine Below.setCell ?_ ?_ _ | with_reducible refine Below.drew ?_ | with_reducible refine below_drewN ?_ _ | refine Below.trans ?_ (Below.mono (by assumption) ?_))
  all_goals (first | omega | (simp <;> omega))

theorem U64.one : U64 1 := by unfold U64; rw [M_lit]; omega
theorem W128.one : W128 0 1 = 1 := rfl

set_option maxRecDepth 100000 in
set_option maxHeartbeats 2000000 in
theorem power_small (a b : Int) (n : Nat) (w : World) (g : One w) (ha : U64 a) (hb : U64 b) (h1 : W128 a b ≤ 1) (hn : (n : Int) ≤ 9223372036854775807) :
    Calls Tryd.prog 16 #[.agg #[(.int .u64 (a)), (.int .u64 (b))], (.int .i64 (n))] w (Checked (W128 a b ^ n) w) := by
  obtain ⟨z0, g0, g1⟩ := g
  have hc : Hid (cmpI (W128 a b) (W128 0 1) ≤ 0) := by
    show _ ≤ _
    rw [W128.one]; unfold cmpI; split
    · omega
    · split <;> omega
  obtain ⟨c, hc'⟩ : ∃ c, cmpI (W128 a b) (W128 0 1) = c := ⟨_, rfl⟩
  have C := hid (fun w => compare_any a b 0 1 w ha hb U64.zero U64.one)
  rw [hc'] at hc C
  have hc0 := hc.out
  clear hc hc'
  have H1 := hid h1; clear h1
  have z1 : ¬ w.heap.size = 0 := by omega
  have z2 : ¬ 0 = w.heap.size := by omega
  by_cases h0 : n = 0
  · subst h0
    go_enter Tryd.func16, Tryd.ntmps16
    go_wp2_with fail
    (refine (C.out _).mono ?_; rintro e w1 ⟨rfl, B⟩)
    obtain ⟨k0_0, k0_1, k0_f0, k0_f1⟩ := keep2 B (b := w.heap.size) (x0 := (.int .u64 (a))) (x1 := (.int .u64 (b))) (by first | omega | (simp <;> omega)) (by first | assumption | go_simp) (by first | assumption | go_simp) (by first | assumption | go_simp) (by first | assumption | go_simp)
    obtain ⟨k1_0, k1_f0⟩ := keep1 B (b := (w.heap.size + 1)) (x0 := (.int .i64 ((0 : Nat)))) (by first | omega | (simp <;> omega)) (by first | assumption | go_simp) (by first | assumption | go_simp)
    obtain ⟨k2_0, k2_1, k2_f0, k2_f1⟩ := keep2 B (b := (w.heap.size + 1 + 1)) (x0 := (.int .u64 (0))) (x1 := (.int .u64 (0))) (by first | omega | (simp <;> omega)) (by first | assumption | go_simp) (by first | assumption | go_simp) (by first | assumption | go_simp) (by first | assumption | go_simp)
    obtain ⟨k3_0, k3_1⟩ := keepr2 B (b := 0) (x0 := (.int .u64 (0))) (x1 := (.int .u64 (1))) (by first | omega | (simp <;> omega)) (by first | assumption | go_simp) (by first | assumption | go_simp)
    go_wp2_with fail
    refine bodyPost_ret (v := .tuple #[.agg #[(.int .u64 (0)), (.int .u64 (1))], (.int .i64 (0))]) (by simp [results, Tryd.results16, go_sem, k2_0, k2_1]) rfl ⟨?_, Or.inl ⟨?_, _, _, rfl, U64.zero, U64.one, ?_⟩⟩
    · have zz0 := B.size; try simp at zz0
      repeat' (first | exact Below.refl _ _ | with_reducible refine Below.alloc ?_ ?_ _ | with_reducible refine Below.setCell ?_ ?_ _ | with_reducible refine Below.drew ?_ | with_reducible refine below_drewN ?_ _ | refine Below.trans ?_ (Below.mono (by assumption) ?_))
      all_goals (first | omega | (simp <;> omega))
    · simp; rw [M_lit]; omega
    · simp; rfl
  · have h0' : (0 : Int) < n := by omega
    go_enter Tryd.func16, Tryd.ntmps16
    go_wp2_with fail
    (refine (C.out _).mono ?_; rintro e w1 ⟨rfl, B⟩)
    obtain ⟨k0_0, k0_1, k0_f0, k0_f1⟩ := keep2 B (b := w.heap.size) (x0 := (.int .u64 (a))) (x1 := (.int .u64 (b))) (by first | omega | (simp <;> omega)) (by first | assumption | go_simp) (by first | assumption | go_simp) (by first | assumption | go_simp) (by first | assumption | go_simp)
    obtain ⟨k1_0, k1_f0⟩ := keep1 B (b := (w.heap.size + 1)) (x0 := (.int .i64 (n))) (by first | omega | (simp <;> omega)) (by first | assumption | go_simp) (by first | assumption | go_simp)
    obtain ⟨k2_0, k2_1, k2_f0, k2_f1⟩ := keep2 B (b := (w.heap.size + 1 + 1)) (x0 := (.int .u64 (0))) (x1 := (.int .u64 (0))) (by first | omega | (simp <;> omega)) (by first | assumption | go_simp) (by first | assumption | go_simp) (by first | assumption | go_simp) (by first | assumption | go_simp)
    have hnb : ((n : Int) == 0) = false := by simpa using h0
    go_wp2_with fail
    refine bodyPost_ret (v := .tuple #[.agg #[(.int .u64 (a)), (.int .u64 (b))], (.int .i64 (0))]) (by simp [results, Tryd.results16, go_sem, k2_0, k2_1]) rfl ⟨?_, Or.inl ?_⟩
    · have zz0 := B.size; try simp at zz0
      repeat' (first | exact Below.refl _ _ | with_reducible refine Below.alloc ?_ ?_ _ | with_reducible refine Below.setCell ?_ ?_ _ | with_reducible refine Below.drew ?_ | with_reducible refine below_drewN ?_ _ | refine Below.trans ?_ (Below.mono (by assumption) ?_))
      all_goals (first | omega | (simp <;> omega))
    · have := W128.lt ha hb
      have e : W128 a b ^ n = W128 a b := by
        obtain ⟨j, rfl⟩ : ∃ j, n = j + 1 := ⟨n - 1, by omega⟩
        have := H1.out
        have h : W128 a b = 0 ∨ W128 a b = 1 := by omega
        rcases h with h | h <;> rw [h]
        · rw [Int.pow_succ]; omega
        · rw [Int.one_pow]
      rw [e]
      exact ⟨this.2, _, _, rfl, ha, hb, rfl⟩

set_option maxRecDepth 100000 in
set_option maxHeartbeats 2000000 in
theorem power_big (a b : Int) (n : Nat) (w : World) (g : One w) (ha : U64 a) (hb : U64 b) (h1 : 1 < W128 a b) (hn : (n : Int) ≤ 9223372036854775807) :
    Calls Tryd.prog 16 #[.agg #[(.int .u64 (a)), (.int .u64 (b))], (.int .i64 (n))] w (Checked (W128 a b ^ n) w) := by
  have G := hid g
  obtain ⟨z0, g0, g1⟩ := g
  have hc : cmpI (W128 a b) (W128 0 1) = 1 := by
    rw [W128.one]; unfold cmpI; rw [if_neg (by omega), if_pos h1]
  have C := hid (fun w => compare_any a b 0 1 w ha hb U64.zero U64.one)
  rw [hc] at C
  have hmf := @hmf
  have H1 := hid h1; clear h1 hc
  have z1 : ¬ w.heap.size = 0 := by omega
  have z2 : ¬ 0 = w.heap.size := by omega
  go_enter Tryd.func16, Tryd.ntmps16
  go_wp2_with fail
  (refine (C.out _).mono ?_; rintro e w1 ⟨rfl, B⟩)
  obtain ⟨k0_0, k0_1, k0_f0, k0_f1⟩ := keep2 B (b := w.heap.size) (x0 := (.int .u64 (a))) (x1 := (.int .u64 (b))) (by first | omega | (simp <;> omega)) (by first | assumption | go_simp) (by first | assumption | go_simp) (by first | assumption | go_simp) (by first | assumption | go_simp)
  obtain ⟨k1_0, k1_f0⟩ := keep1 B (b := (w.heap.size + 1)) (x0 := (.int .i64 (n))) (by first | omega | (simp <;> omega)) (by first | assumption | go_simp) (by first | assumption | go_simp)
  obtain ⟨k2_0, k2_1, k2_f0, k2_f1⟩ := keep2 B (b := (w.heap.size + 1 + 1)) (x0 := (.int .u64 (0))) (x1 := (.int .u64 (0))) (by first | omega | (simp <;> omega)) (by first | assumption | go_simp) (by first | assumption | go_simp) (by first | assumption | go_simp) (by first | assumption | go_simp)
  have G1 : One w1 := by
    refine One.below ?_ ?_ B
    · exact G.out.below z0 ((((Below.refl _ _).alloc (Nat.le_refl _) _).alloc (by simp) _).alloc (by simp; omega) _)
    · simp
  have zz := B.size
  simp at zz
  go_wp2_with fail
  refine (checked_k (fun k => k ≠ w.heap.size + 1) 37 _ (W128 a b ^ n) _ ?_ (by intro w; simp [go_sem]) ?_).mono ?_
  · intro k hk; omega
  · intro w2 B2
    obtain ⟨m1_0, m1_f0⟩ := keep1 B2 (b := (w.heap.size + 1)) (x0 := (.int .i64 (n))) (by first | omega | (simp <;> omega)) (by first | assumption | go_simp) (by first | assumption | go_simp)
    obtain ⟨m0_0, m0_1⟩ := keepr2 B2 (b := w.heap.size) (x0 := (.int .u64 (a))) (x1 := (.int .u64 (b))) (by first | omega | (simp <;> omega)) (by first | assumption | go_simp) (by first | assumption | go_simp)
    have G2 := G1.below (by omega) B2
    have zz2 := B2.size
    exact pow1 (w.heap.size + 1) w.heap.size n (W128 a b) (W128 a b ^ n) a b w2 ha hb ⟨rfl, by have := H1.out; omega⟩ rfl hn G2.2.1 G2.2.2 G2.1 m1_0 m1_f0 m0_0 m0_1 (by omega) (by omega) (by omega) (by omega)
  rintro e w2 ⟨K2, ⟨hN, h, l, rfl, u1, u2, u3⟩ | ⟨hN, rfl⟩⟩
  · have n0 : w2.cell? ⟨(w.heap.size + 1 + 1), 0, none⟩ = some (.int .u64 (0)) := (K2.cell (by omega) (by omega)).trans k2_0
    have n1 : w2.cell? ⟨(w.heap.size + 1 + 1), 1, none⟩ = some (.int .u64 (0)) := (K2.cell (by omega) (by omega)).trans k2_1
    have n2 : w2.frozen? ⟨(w.heap.size + 1 + 1), 0, none⟩ = false := (K2.frozen (by omega) (by omega)).trans k2_f0
    have n3 : w2.frozen? ⟨(w.heap.size + 1 + 1), 1, none⟩ = false := (K2.frozen (by omega) (by omega)).trans k2_f1
    have U3 := hid u3; have HN := hid hN; clear u3 hN
    have KB : Hid (Below w.heap.size w w2) := by
      have q : Below w.heap.size w w1 := by
        have zz0 := B.size; try simp at zz0
        repeat' (first | exact Below.refl _ _ | with_reducible refine Below.alloc ?_ ?_ _ | with_reducible refine Below.setCell ?_ ?_ _ | with_reducible refine Below.drew ?_ | with_reducible refine below_drewN ?_ _ | refine Below.trans ?_ (Below.mono (by assumption) ?_))
        all_goals (first | omega | (simp <;> omega))
      exact q.trans ⟨K2.os, K2.tape, K2.output, K2.size, fun k hk => K2.block k (by omega) (by omega)⟩
    go_wp2_with fail
    refine bodyPost_ret (v := .tuple #[.agg #[(.int .u64 (h)), (.int .u64 (l))], (.int .i64 (0))]) (by simp [results, Tryd.results16, go_sem, n0, n1]) rfl ⟨?_, Or.inl ⟨HN.out, _, _, rfl, u1, u2, U3.out⟩⟩
    exact (KB.out.setCell (by simp; omega) _).setCell (by simp; omega) _
  · have n0 : w2.cell? ⟨(w.heap.size + 1 + 1), 0, none⟩ = some (.int .u64 (0)) := (K2.cell (by omega) (by omega)).trans k2_0
    have n1 : w2.cell? ⟨(w.heap.size + 1 + 1), 1, none⟩ = some (.int .u64 (0)) := (K2.cell (by omega) (by omega)).trans k2_1
    have n2 : w2.frozen? ⟨(w.heap.size + 1 + 1), 0, none⟩ = false := (K2.frozen (by omega) (by omega)).trans k2_f0
    have n3 : w2.frozen? ⟨(w.heap.size + 1 + 1), 1, none⟩ = false := (K2.frozen (by omega) (by omega)).trans k2_f1
    have HN := hid hN; clear hN
    have KB : Hid (Below w.heap.size w w2) := by
      have q : Below w.heap.size w w1 := by
        have zz0 := B.size; try simp at zz0
        repeat' (first | exact Below.refl _ _ | with_reducible refine Below.alloc ?_ ?_ _ | with_reducible refine Below.setCell ?_ ?_ _ | with_reducible refine Below.drew ?_ | with_reducible refine below_drewN ?_ _ | refine Below.trans ?_ (Below.mono (by assumption) ?_))
        all_goals (first | omega | (simp <;> omega))
      exact q.trans ⟨K2.os, K2.tape, K2.output, K2.size, fun k hk => K2.block k (by omega) (by omega)⟩
    go_wp2_with fail
    refine bodyPost_ret (v := .tuple #[.agg #[(.int .u64 (0)), (.int .u64 (0))], (.int .i64 (110))]) (by simp [results, Tryd.results16, go_sem, n0, n1]) rfl ⟨?_, Or.inr ⟨Int.not_lt.2 HN.out, rfl⟩⟩
    exact (KB.out.setCell (by simp; omega) _).setCell (by simp; omega) _
end Go.Proofs.YtdpcfpmlkhdmkaaDoor
