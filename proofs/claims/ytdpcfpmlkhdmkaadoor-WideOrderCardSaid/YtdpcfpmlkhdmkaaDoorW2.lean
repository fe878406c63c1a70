/- wide: contracts of Mul64, times. -/
import Derived.Test.YtdpcfpmlkhdmkaaDoorW1
import Derived.LoopN
namespace Go.Proofs.YtdpcfpmlkhdmkaaDoor
open Go.RowKit

theorem mul64 (x y : Int) (hx : U64 x) (hy : U64 y) (w : World) :
    Calls Tryd.prog 55 #[.int .u64 x, .int .u64 y] w fun e w' => e = .returned (.tuple #[.int .u64 (x * y / M), .int .u64 (x * y % M)]) ∧ w = w' := by
  unfold U64 at hx hy
  simp only [M_eq] at *
  obtain ⟨x, rfl⟩ := Int.eq_ofNat_of_zero_le hx.1
  obtain ⟨y, rfl⟩ := Int.eq_ofNat_of_zero_le hy.1
  refine (Tryd.bits_Mul64 x y (by omega) (by omega) w).mono ?_
  rintro e w' ⟨rfl, rfl⟩
  exact ⟨by simp, rfl⟩

theorem U64.div {p : Int} (h0 : 0 ≤ p) (h : p < M * M) : U64 (p / M) := by
  unfold U64; simp only [M_eq] at *; omega
theorem U64.mod (p : Int) : U64 (p % M) := by
  unfold U64; simp only [M_eq] at *; omega
theorem U64.prod {x y : Int} (hx : U64 x) (hy : U64 y) : 0 ≤ x * y ∧ x * y < M * M := by
  unfold U64 at *
  refine ⟨Int.mul_nonneg hx.1 hy.1, ?_⟩
  have h1 : x * y ≤ x * M := Int.mul_le_mul_of_nonneg_left (by omega) hx.1
  have h2 : x * M < M * M := Int.mul_lt_mul_of_pos_right hx.2 (by rw [M_eq]; omega)
  omega
theorem W128.divmod (p : Int) : W128 (p / M) (p % M) = p := by
  unfold W128; simp only [M_eq] at *; omega
theorem U64.zero : U64 0 := by unfold U64; simp only [M_eq]; omega

theorem M_pos : 0 < M := by rw [M_eq]; omega
/-- the plain law of times: what the steps ask. -/
theorem times_law {a b c d : Int} (ha : U64 a) (hb : U64 b) (hc : U64 c) (hd : U64 d) :
    (W128 a b * W128 c d = a * c * (M * M) + (b * d + a * d * M + c * b * M)) ∧ 0 ≤ a * c ∧ 0 ≤ a * d ∧ 0 ≤ c * b ∧ 0 ≤ b * d := by
  refine ⟨by unfold W128; grind, ?_, ?_, ?_, ?_⟩
  · exact Int.mul_nonneg ha.1 hc.1
  · exact Int.mul_nonneg ha.1 hd.1
  · exact Int.mul_nonneg hc.1 hb.1
  · exact Int.mul_nonneg hb.1 hd.1

theorem idx83 (a b c d : Int) : (∀ w, (Instr.index 83 (.agg #[.int .u64 a, .int .u64 b, .int .u64 c, .int .u64 d]) (.int .i64 0)).run Tryd.prog w = .ok (.agg #[.int .u64 a, .int .u64 b]) w) ∧
    (∀ w, (Instr.index 83 (.agg #[.int .u64 a, .int .u64 b, .int .u64 c, .int .u64 d]) (.int .i64 1)).run Tryd.prog w = .ok (.agg #[.int .u64 c, .int .u64 d]) w) :=
  ⟨fun _ => by kernel_rfl, fun _ => by kernel_rfl⟩


def TimesPost (N : Int) (w : World) := WideOr N w

set_option maxRecDepth 100000 in
set_option maxHeartbeats 2000000 in
theorem times_core (a b c d N : Int) (w : World) (ha : U64 a) (hb : U64 b) (hc : U64 c) (hd : U64 d) (g0 : (a == 0) = true ∨ ((a == 0) = false ∧ (c == 0) = true))
  (hN : Hid (N = b * d + a * d * M + c * b * M)) :
   Calls Tryd.prog 38 #[.agg #[.int .u64 a, .int .u64 b], .agg #[.int .u64 c, .int .u64 d]] w (WideOr N w) := by
  obtain ⟨j0, j1⟩ := idx83 a d c b
  obtain ⟨-, -, p1, p2, p3⟩ := times_law ha hb hc hd
  rcases g0 with g0 | ⟨g0, g1⟩
  all_goals
    go_enter Tryd.func38, Tryd.ntmps38
    go_wp2_with fail
    ((with_reducible refine (need_yes _).mono ?_); rintro e w' ⟨rfl, rfl⟩)
    go_wp2_with fail
    ((with_reducible refine (mul64 _ _ hb hd _).mono ?_); rintro e w' ⟨rfl, rfl⟩)
    go_wp2_with fail
    refine wp_loop_rounds 3 ?_
    rw [rounds_succ]
    go_wp2_with fail
    ((with_reducible refine (mul64 _ _ ha hd _).mono ?_); rintro e w' ⟨rfl, rfl⟩)
    by_cases h1 : a * d < M
    · have H1 := hid h1; clear h1
      have q1 : ((a * d) / M == 0) = true := by have := H1.out; rw [beq_iff_eq]; exact Int.ediv_eq_zero_of_lt p1 this
      go_wp2_with fail
      ((with_reducible refine (need_yes _).mono ?_); rintro e w' ⟨rfl, rfl⟩)
      go_wp2_with fail
      ((with_reducible refine (plus_any _ _ _ _ _ (U64.div p3 (U64.prod hb hd).2) (U64.mod _) (U64.mod _) U64.zero).mono ?_); rintro e w1 ⟨B1, ⟨-, h, l, rfl, u1, u2, u3⟩ | ⟨u3, rfl⟩⟩)
      · rw [W128.divmod, Int.emod_eq_of_lt p1 H1.out] at u3
        have U3 := hid u3; clear u3
        obtain ⟨k2_0, k2_1, k2_f0, k2_f1⟩ := keep2 B1 (b := (w.heap.size + 1 + 1)) (x0 := (.int .u64 (0))) (x1 := (.int .u64 (0))) (by first | omega | (simp <;> omega)) (by first | assumption | go_simp) (by first | assumption | go_simp) (by first | assumption | go_simp) (by first | assumption | go_simp)
        obtain ⟨k3_0, k3_1, k3_f0, k3_f1⟩ := keep2 B1 (b := (w.heap.size + 1 + 1 + 1)) (x0 := (.int .u64 (b * d / M))) (x1 := (.int .u64 (b * d % M))) (by first | omega | (simp <;> omega)) (by first | assumption | go_simp) (by first | assumption | go_simp) (by first | assumption | go_simp) (by first | assumption | go_simp)
        obtain ⟨z1, z2, z3⟩ := sizes B1 (w.heap.size + 1 + 1 + 1 + 1 + 1) (by simp)
        go_wp2_with fail
        rw [rounds_succ]
        go_wp2_with fail
        ((with_reducible refine (mul64 _ _ hc hb _).mono ?_); rintro e w' ⟨rfl, rfl⟩)
        by_cases h2 : c * b < M
        · have H2 := hid h2; clear h2
          have q2 : ((c * b) / M == 0) = true := by have := H2.out; rw [beq_iff_eq]; exact Int.ediv_eq_zero_of_lt p2 this
          go_wp2_with fail
          ((with_reducible refine (need_yes _).mono ?_); rintro e w' ⟨rfl, rfl⟩)
          go_wp2_with fail
          ((with_reducible refine (plus_any _ _ _ _ _ u1 u2 (U64.mod _) U64.zero).mono ?_); rintro e w2 ⟨B2, ⟨u5, h', l', rfl, u1', u2', u4⟩ | ⟨u4, rfl⟩⟩)
          · rw [Int.emod_eq_of_lt p2 H2.out, U3.out] at u4 u5
            have U4 := hid u4; clear u4
            have U5 := hid u5; clear u5
            have e1 := B1.size
            simp at e1
            obtain ⟨m2_0, m2_1, m2_f0, m2_f1⟩ := keep2 B2 (b := (w.heap.size + 1 + 1)) (x0 := (.int .u64 (0))) (x1 := (.int .u64 (0))) (by first | omega | (simp <;> omega)) (by first | assumption | go_simp) (by first | assumption | go_simp) (by first | assumption | go_simp) (by first | assumption | go_simp)
            obtain ⟨m3_0, m3_1, m3_f0, m3_f1⟩ := keep2 B2 (b := (w.heap.size + 1 + 1 + 1)) (x0 := (.int .u64 (h))) (x1 := (.int .u64 (l))) (by first | omega | (simp <;> omega)) (by first | assumption | go_simp) (by first | assumption | go_simp) (by first | assumption | go_simp) (by first | assumption | go_simp)
            go_wp2_with fail
            rw [rounds_succ]
            go_wp2_with fail
            refine bodyPost_ret (v := .agg #[(.int .u64 (h')), (.int .u64 (l'))]) (by simp [results, Tryd.results38, go_sem, m2_0, m2_1, m3_0, m3_1]) rfl ⟨?_, Or.inl ⟨?_, _, _, rfl, u1', u2', ?_⟩⟩
            · have zz0 := B1.size; try simp at zz0
              have zz1 := B2.size; try simp at zz1
              repeat' (first | exact Below.refl _ _ | with_reducible refine Below.alloc ?_ ?_ _ | with_reducible refine Below.setCell ?_ ?_ _ | with_reducible refine Below.drew ?_ | with_reducible refine below_drewN ?_ _ | refine Below.trans ?_ (Below.mono (by assumption) ?_))
              all_goals (first | omega | (simp <;> omega))
            · rw [hN.out]; have := U5.out; unfold W128 at this; omega
            · rw [U4.out, hN.out]; unfold W128; omega
          · rw [Int.emod_eq_of_lt p2 H2.out, U3.out] at u4
            refine ⟨rfl, ?_, Or.inr ⟨?_, rfl⟩⟩
            · have zz0 := B1.size; try simp at zz0
              have zz1 := B2.size; try simp at zz1
              repeat' (first | exact Below.refl _ _ | with_reducible refine Below.alloc ?_ ?_ _ | with_reducible refine Below.setCell ?_ ?_ _ | with_reducible refine Below.drew ?_ | with_reducible refine below_drewN ?_ _ | refine Below.trans ?_ (Below.mono (by assumption) ?_))
              all_goals (first | omega | (simp <;> omega))
            · rw [hN.out]; unfold W128 at u4; omega
        · have q2 : ((c * b) / M == 0) = false := by rw [beq_eq_false_iff_ne]; rw [M_eq] at *; omega
          have H2 := hid h2; clear h2
          go_wp2_with fail
          ((with_reducible refine (need_no _).mono ?_); rintro e w' ⟨rfl, rfl⟩)
          refine ⟨rfl, ?_, Or.inr ⟨?_, rfl⟩⟩
          · have zz0 := B1.size; try simp at zz0
            repeat' (first | exact Below.refl _ _ | with_reducible refine Below.alloc ?_ ?_ _ | with_reducible refine Below.setCell ?_ ?_ _ | with_reducible refine Below.drew ?_ | with_reducible refine below_drewN ?_ _ | refine Below.trans ?_ (Below.mono (by assumption) ?_))
            all_goals (first | omega | (simp <;> omega))
          · rw [hN.out]; have := H2.out; have : M * M ≤ c * b * M := Int.mul_le_mul_of_nonneg_right (by omega) (Int.le_of_lt M_pos)
            have : 0 ≤ a * d * M := Int.mul_nonneg p1 (Int.le_of_lt M_pos)
            omega
      · rw [W128.divmod, Int.emod_eq_of_lt p1 H1.out] at u3
        refine ⟨rfl, ?_, Or.inr ⟨?_, rfl⟩⟩
        · have zz0 := B1.size; try simp at zz0
          repeat' (first | exact Below.refl _ _ | with_reducible refine Below.alloc ?_ ?_ _ | with_reducible refine Below.setCell ?_ ?_ _ | with_reducible refine Below.drew ?_ | with_reducible refine below_drewN ?_ _ | refine Below.trans ?_ (Below.mono (by assumption) ?_))
          all_goals (first | omega | (simp <;> omega))
        · rw [hN.out]; unfold W128 at u3; have : 0 ≤ c * b * M := Int.mul_nonneg p2 (Int.le_of_lt M_pos); omega
    · have q1 : ((a * d) / M == 0) = false := by rw [beq_eq_false_iff_ne]; rw [M_eq] at *; omega
      have H1 := hid h1; clear h1
      go_wp2_with fail
      ((with_reducible refine (need_no _).mono ?_); rintro e w' ⟨rfl, rfl⟩)
      refine ⟨rfl, ?_, Or.inr ⟨?_, rfl⟩⟩
      · repeat' (first | exact Below.refl _ _ | with_reducible refine Below.alloc ?_ ?_ _ | with_reducible refine Below.setCell ?_ ?_ _ | with_reducible refine Below.drew ?_ | with_reducible refine below_drewN ?_ _ | refine Below.trans ?_ (Below.mono (by assumption) ?_))
        all_goals (first | omega | (simp <;> omega))
      · rw [hN.out]; have := H1.out; have : M * M ≤ a * d * M := Int.mul_le_mul_of_nonneg_right (by omega) (Int.le_of_lt M_pos)
        have : 0 ≤ c * b * M := Int.mul_nonneg p2 (Int.le_of_lt M_pos)
        omega

set_option maxRecDepth 100000 in
theorem times_any (a b c d : Int) (w : World) (ha : U64 a) (hb : U64 b) (hc : U64 c) (hd : U64 d) :
   Calls Tryd.prog 38 #[.agg #[.int .u64 a, .int .u64 b], .agg #[.int .u64 c, .int .u64 d]] w (WideOr (W128 a b * W128 c d) w) := by
  obtain ⟨n1, n2, p1, p2, p3⟩ := times_law ha hb hc hd
  by_cases h0 : a = 0
  · refine times_core a b c d _ w ha hb hc hd (Or.inl (by simpa using h0)) ?_
    show _ = _
    rw [n1, h0]; simp
  · by_cases h1 : c = 0
    · refine times_core a b c d _ w ha hb hc hd (Or.inr ⟨by simpa using h0, by simpa using h1⟩) ?_
      show _ = _
      rw [n1, h1]; simp
    · have g0 : (a == 0) = false := by simpa using h0
      have g1 : (c == 0) = false := by simpa using h1
      have : ¬ W128 a b * W128 c d < M * M := by
        rw [n1]
        have a1 : 1 ≤ a := by have := ha.1; omega
        have c1 : 1 ≤ c := by have := hc.1; omega
        have : 1 * 1 ≤ a * c := Int.mul_le_mul a1 c1 (by omega) (by omega)
        have : 1 * (M * M) ≤ a * c * (M * M) := Int.mul_le_mul_of_nonneg_right (by omega) (by rw [M_eq]; omega)
        have : 0 ≤ c * b * M := Int.mul_nonneg p2 (Int.le_of_lt M_pos)
        have : 0 ≤ a * d * M := Int.mul_nonneg p1 (Int.le_of_lt M_pos)
        omega
      have HN := hid this; clear this n1
      clear h0 h1
      go_enter Tryd.func38, Tryd.ntmps38
      go_wp2_with fail
      ((with_reducible refine (need_no _).mono ?_); rintro e w' ⟨rfl, rfl⟩)
      refine ⟨rfl, ?_, Or.inr ⟨Int.not_lt.2 HN.out, rfl⟩⟩
      repeat' (first | exact Below.refl _ _ | with_reducible refine Below.alloc ?_ ?_ _ | with_reducible refine Below.setCell ?_ ?_ _ | with_reducible refine Below.drew ?_ | with_reducible refine below_drewN ?_ _ | refine Below.trans ?_ (Below.mono (by assumption) ?_))
      all_goals (first | omega | (simp <;> omega))
end Go.Proofs.YtdpcfpmlkhdmkaaDoor
