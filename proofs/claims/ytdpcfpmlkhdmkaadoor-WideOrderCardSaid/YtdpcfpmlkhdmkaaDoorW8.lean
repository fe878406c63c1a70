/- wide: Div. -/
import Derived.Test.YtdpcfpmlkhdmkaaDoorW7
import Derived.Deep.QuietTactic
import Derived.BigQuiet
namespace Go.Proofs.YtdpcfpmlkhdmkaaDoor
open Go.RowKit

theorem div_unique {q r y N : Int} (h : q * y + r = N) (h0 : 0 ≤ r) (h1 : r < y) : q = N / y ∧ r = N % y := by
  have hy : 0 < y := by omega
  subst h
  constructor
  · rw [Int.add_comm, Int.add_mul_ediv_right _ _ (by omega), Int.ediv_eq_zero_of_lt h0 h1]; omega
  · rw [Int.add_comm, Int.add_mul_emod_self_right, Int.emod_eq_of_lt h0 h1]

theorem div64_val (hi lo y : Int) (w : World) (hh : U64 hi) (hl : U64 lo) (hy : U64 y) (h1 : hi < y) :
   Calls Tryd.prog 34 #[(.int .u64 (hi)), (.int .u64 (lo)), (.int .u64 (y))] w (fun e w' => e = .returned (.tuple #[(.int .u64 (W128 hi lo / y)), (.int .u64 (W128 hi lo % y))]) ∧ ∃ n, w' = w.drewN n) := by
  refine (div64_any hi lo y w hh hl hy h1).mono ?_
  rintro e w' ⟨⟨q, r, rfl, h2, h3, h4, -⟩, hn⟩
  obtain ⟨rfl, rfl⟩ := div_unique h2 h3 h4
  exact ⟨rfl, hn⟩

/-- the quotient by one word. -/
def DivBy (N y : Int) (w : World) (e : Ending) (w' : World) : Prop :=
  Below w.heap.size w w' ∧ ∃ h l r, e = .returned (.tuple #[.agg #[.int .u64 h, .int .u64 l], .int .u64 r, .int .i64 0]) ∧ U64 h ∧ U64 l ∧ U64 r ∧ W128 h l * y + r = N ∧ r < y

theorem quo_lt {hi lo y : Int} (hh : 0 ≤ hi) (hl : U64 lo) (h1 : hi < y) : 0 ≤ W128 hi lo / y ∧ W128 hi lo / y < M := by
  have h0 := hl.1
  have h2 := hl.2
  have h3 : (hi + 1) * M ≤ y * M := Int.mul_le_mul_of_nonneg_right (by omega) (by rw [M_lit]; omega)
  have h4 : (hi + 1) * M = hi * M + M := by grind
  have h5 : 0 ≤ hi * M := Int.mul_nonneg hh (by rw [M_lit]; omega)
  unfold W128
  refine ⟨Int.ediv_nonneg (by omega) (by omega), ?_⟩
  rw [Int.ediv_lt_iff_lt_mul (by omega), Int.mul_comm M]
  omega
theorem div_none (a b : Int) (w : World) : Calls Tryd.prog 12 #[.agg #[(.int .u64 (a)), (.int .u64 (b))], (.int .u64 (0))] w fun e w' =>
    e = .returned (.tuple #[.agg #[(.int .u64 (0)), (.int .u64 (0))], (.int .u64 (0)), (.int .i64 (2))]) ∧ Below w.heap.size w w' := by
  go_enter Tryd.func12, Tryd.ntmps12
  go_wp2_with fail
  refine bodyPost_ret (v := .tuple #[.agg #[(.int .u64 (0)), (.int .u64 (0))], (.int .u64 (0)), (.int .i64 (2))]) (by simp [results, Tryd.results12, go_sem]) rfl ⟨rfl, ?_⟩
  repeat' (first | exact Below.refl _ _ | with_reducible refine Below.alloc ?_ ?_ _ | with_reducible refine Below.setCell ?_ ?_ _ | with_reducible refine Below.drew ?_ | with_reducible refine below_drewN ?_ _ | refine Below.trans ?_ (Below.mono (by assumption) ?_))
  all_goals (first | omega | (simp <;> omega))

set_option maxRecDepth 100000 in
set_option maxHeartbeats 1000000 in
theorem div_some (a b y : Int) (w : World) (ha : U64 a) (hb : U64 b) (hy : U64 y) (h0 : 0 < y) :
   Calls Tryd.prog 12 #[.agg #[(.int .u64 (a)), (.int .u64 (b))], (.int .u64 (y))] w (DivBy (W128 a b) y w) := by
  have hy0 : ¬ y = 0 := by omega
  have hyb : (y == 0) = false := by simpa using hy0
  have e1 : a.tmod y = a % y := Int.tmod_eq_emod_of_nonneg ha.1
  have b1 := Int.ediv_nonneg ha.1 (show 0 ≤ y by omega)
  have b2 : a / y ≤ a := Int.ediv_le_self _ ha.1
  have b3 := Int.emod_nonneg a hy0
  have b4 := Int.emod_lt_of_pos a h0
  have u1 : U64 (a % y) := ⟨b3, by have := hy.2; omega⟩
  have u2 : U64 (a / y) := ⟨b1, by have := ha.2; omega⟩
  have e2 : IntKind.u64.wrap (a.tdiv y) = a / y := by rw [Int.tdiv_eq_ediv_of_nonneg ha.1]; exact wrapu _ u2.1 (by have := u2.2; rw [M_lit] at this; omega)
  have e3 : a.tdiv y = a / y := Int.tdiv_eq_ediv_of_nonneg ha.1
  have C := fun w => div64_val (a % y) b y w u1 hb hy b4
  have HC := hid C
  have e4 : IntKind.u64.wrap (a / y) = a / y := wrapu _ u2.1 (by have := u2.2; rw [M_lit] at this; omega)
  clear C b1 b2 b3 b4
  obtain ⟨q, hq⟩ : ∃ q, W128 (a % y) b / y = q := ⟨_, rfl⟩
  obtain ⟨r, hr⟩ : ∃ r, W128 (a % y) b % y = r := ⟨_, rfl⟩
  rw [hq, hr] at HC
  have HQ := hid hq
  have HR := hid hr
  clear hq hr
  go_enter Tryd.func12, Tryd.ntmps12
  go_wp2_with fail
  go_quiet ((go_at_call 34; exact Calls.quiet_of (HC.out _)))
  go_wp2_with fail
  refine bodyPost_ret (v := .tuple #[.agg #[(.int .u64 (a / y)), (.int .u64 (q))], (.int .u64 (r)), (.int .i64 (0))]) (by simp [results, Tryd.results12, go_sem]) rfl ⟨?_, ?_⟩
  · repeat' (first | exact Below.refl _ _ | with_reducible refine Below.alloc ?_ ?_ _ | with_reducible refine Below.setCell ?_ ?_ _ | with_reducible refine Below.drew ?_ | with_reducible refine below_drewN ?_ _ | refine Below.trans ?_ (Below.mono (by assumption) ?_))
    all_goals (first | omega | (simp <;> omega))
  · have q0 := quo_lt u1.1 hb (Int.emod_lt_of_pos a h0)
    have r0 := Int.emod_nonneg (W128 (a % y) b) hy0
    have r1 := Int.emod_lt_of_pos (W128 (a % y) b) h0
    have s0 := Int.mul_ediv_add_emod (W128 (a % y) b) y
    have s1 := Int.mul_ediv_add_emod a y
    rw [HR.out] at r0 r1 s0
    rw [HQ.out] at q0 s0
    refine ⟨_, _, _, rfl, u2, q0, ⟨r0, by have := hy.2; omega⟩, ?_, r1⟩
    unfold W128 at s0 ⊢
    grind
end Go.Proofs.YtdpcfpmlkhdmkaaDoor
