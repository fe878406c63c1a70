/- plain arithmetic of a division of 128 bits by 64: no program in sight. -/
import Derived.Test.YtdpcfpmlkhdmkaaDoorW4
namespace Go.Proofs.YtdpcfpmlkhdmkaaDoor
open Go.RowKit

theorem bitLenAux_bounds : ∀ (f x : Nat), x < 2 ^ f → x ≠ 0 → 1 ≤ Lib.bitLenAux f x ∧ Lib.bitLenAux f x ≤ f ∧ 2 ^ (Lib.bitLenAux f x - 1) ≤ x ∧ x < 2 ^ (Lib.bitLenAux f x)
  | 0, x, h, h0 => by simp at h; omega
  | f + 1, x, h, h0 => by
    rw [Lib.bitLenAux, if_neg h0]
    by_cases h1 : x / 2 = 0
    · have : x = 1 := by omega
      subst this
      have e : Lib.bitLenAux f (1 / 2) = 0 := by cases f <;> simp [Lib.bitLenAux]
      rw [e]; simp
    · have ih := bitLenAux_bounds f (x / 2) (by rw [Nat.pow_succ] at h; omega) h1
      obtain ⟨a, b, c, d⟩ := ih
      obtain ⟨k, hk⟩ : ∃ k, Lib.bitLenAux f (x / 2) = k + 1 := ⟨_, (Nat.sub_add_cancel a).symm⟩
      rw [hk] at a b c d ⊢
      simp only [Nat.add_sub_cancel] at c
      have e1 : 1 + (k + 1) - 1 = k + 1 := by omega
      have e2 : 1 + (k + 1) = (k + 1) + 1 := by omega
      rw [e1, e2, Nat.pow_succ 2 (k + 1), Nat.pow_succ 2 k]
      rw [Nat.pow_succ] at d
      exact ⟨by omega, by omega, by omega, by omega⟩

/-- how far a number is shifted till it fills 64 bits. -/
theorem lead (y : Nat) (h0 : 0 < y) (h1 : y < 18446744073709551616) :
    ∃ s : Nat, s ≤ 63 ∧ (64 - (Lib.bitLen y : Int)) = (s : Int) ∧ 9223372036854775808 ≤ y * 2 ^ s ∧ y * 2 ^ s < 18446744073709551616 := by
  obtain ⟨a, b, c, d⟩ := bitLenAux_bounds 64 y h1 (by omega)
  unfold Lib.bitLen
  generalize Lib.bitLenAux 64 y = L at *
  refine ⟨64 - L, by omega, by omega, ?_, ?_⟩
  · have : 2 ^ (L - 1) * 2 ^ (64 - L) = 9223372036854775808 := by rw [← Nat.pow_add, show L - 1 + (64 - L) = 63 from by omega]
    rw [← this]; exact Nat.mul_le_mul_right _ c
  · have : 2 ^ L * 2 ^ (64 - L) = 18446744073709551616 := by rw [← Nat.pow_add, show L + (64 - L) = 64 from by omega]
    rw [← this]; exact Nat.mul_lt_mul_of_pos_right d (Nat.pow_pos (by omega))

/-- one digit of the division: what holds at the head of its loop. y1, y0: the divisor's halves; u32, u1: the dividend. -/
structure Digit (y1 y0 u32 u1 q r : Int) : Prop where
  sum : q * y1 + r = u32
  r0 : 0 ≤ r
  q0 : 0 ≤ q
  hi : u32 * 4294967296 + u1 < (q + 1) * (y1 * 4294967296 + y0)

structure Halves (y1 y0 u32 u1 : Int) : Prop where
  a : 2147483648 ≤ y1
  b : y1 < 4294967296
  c : 0 ≤ y0
  d : y0 < 4294967296
  e : 0 ≤ u1
  f : u1 < 4294967296
  g : 0 ≤ u32
  h : u32 < y1 * 4294967296 + y0

theorem Digit.start {y1 y0 u32 u1 : Int} (h : Halves y1 y0 u32 u1) : Digit y1 y0 u32 u1 (u32 / y1) (u32 - u32 / y1 * y1) ∧ u32 - u32 / y1 * y1 < 4294967296 := by
  obtain ⟨a, b, c, d, e, f, g, h⟩ := h
  have hy : (0 : Int) < y1 := by omega
  have h1 := Int.mul_ediv_add_emod u32 y1
  have h2 := Int.emod_nonneg u32 (show y1 ≠ 0 by omega)
  have h3 := Int.emod_lt_of_pos u32 hy
  have h4 : 0 ≤ u32 / y1 := Int.ediv_nonneg g (by omega)
  have h5 : u32 / y1 * y1 = y1 * (u32 / y1) := Int.mul_comm _ _
  have h6 : 0 ≤ u32 / y1 * y0 := Int.mul_nonneg h4 c
  refine ⟨⟨by omega, by omega, h4, ?_⟩, by omega⟩
  have : (u32 / y1 + 1) * (y1 * 4294967296 + y0) = (u32 / y1 * y1 + y1) * 4294967296 + u32 / y1 * y0 + y0 := by grind
  omega

theorem Digit.big {y1 y0 u32 u1 q r : Int} (H : Halves y1 y0 u32 u1) (h : 4294967296 ≤ q) : u32 * 4294967296 + u1 < q * (y1 * 4294967296 + y0) := by
  obtain ⟨a, b, c, d, e, f, g, hh⟩ := H
  have : 4294967296 * (y1 * 4294967296 + y0) ≤ q * (y1 * 4294967296 + y0) := Int.mul_le_mul_of_nonneg_right h (by omega)
  omega
theorem Digit.over {y1 y0 u32 u1 q r : Int} (D : Digit y1 y0 u32 u1 q r) (h : 4294967296 * r + u1 < q * y0) : u32 * 4294967296 + u1 < q * (y1 * 4294967296 + y0) := by
  have := D.sum
  have : q * (y1 * 4294967296 + y0) = (q * y1) * 4294967296 + q * y0 := by grind
  omega
theorem Digit.fits {y1 y0 u32 u1 q r : Int} (D : Digit y1 y0 u32 u1 q r) (h : q * y0 ≤ 4294967296 * r + u1) : q * (y1 * 4294967296 + y0) ≤ u32 * 4294967296 + u1 := by
  have := D.sum
  have : q * (y1 * 4294967296 + y0) = (q * y1) * 4294967296 + q * y0 := by grind
  omega
theorem Digit.far {y1 y0 u32 u1 q r : Int} (H : Halves y1 y0 u32 u1) (D : Digit y1 y0 u32 u1 q r) (h : 4294967296 ≤ r) : q * (y1 * 4294967296 + y0) ≤ u32 * 4294967296 + u1 := by
  obtain ⟨a, b, c, d, e, f, g, hh⟩ := H
  refine D.fits ?_
  have h1 := D.sum
  have h2 := D.q0
  have hq : q < 4294967296 := by
    false_or_by_contra
    have : 4294967296 * y1 ≤ q * y1 := Int.mul_le_mul_of_nonneg_right (by omega) (by omega)
    omega
  have h3 : q * y0 ≤ 4294967295 * y0 := Int.mul_le_mul_of_nonneg_right (by omega) c
  omega
theorem Digit.less {y1 y0 u32 u1 q r : Int} (H : Halves y1 y0 u32 u1) (D : Digit y1 y0 u32 u1 q r) (h : u32 * 4294967296 + u1 < q * (y1 * 4294967296 + y0)) : 1 ≤ q ∧ Digit y1 y0 u32 u1 (q - 1) (r + y1) := by
  obtain ⟨a, b, c, d, e, f, g, hh⟩ := H
  have h1 := D.q0
  have h2 : 1 ≤ q := by
    false_or_by_contra
    have : q = 0 := by omega
    subst this
    simp at h; omega
  refine ⟨h2, by have := D.sum; grind, by have := D.r0; omega, by omega, ?_⟩
  have : q - 1 + 1 = q := by omega
  rw [this]; exact h
theorem Digit.end_ {y1 y0 u32 u1 q r : Int} (H : Halves y1 y0 u32 u1) (D : Digit y1 y0 u32 u1 q r) (h : q * (y1 * 4294967296 + y0) ≤ u32 * 4294967296 + u1) :
    0 ≤ q ∧ q < 4294967296 ∧ 0 ≤ u32 * 4294967296 + u1 - q * (y1 * 4294967296 + y0) ∧ u32 * 4294967296 + u1 - q * (y1 * 4294967296 + y0) < y1 * 4294967296 + y0 := by
  have h1 := D.hi
  have e1 : (q + 1) * (y1 * 4294967296 + y0) = q * (y1 * 4294967296 + y0) + (y1 * 4294967296 + y0) := by grind
  refine ⟨D.q0, ?_, by omega, by omega⟩
  false_or_by_contra
  have := Digit.big (r := r) H (show 4294967296 ≤ q by omega)
  omega
/-- what the loop's tests need that they do not wrap round. -/
theorem Digit.room {y1 y0 u32 u1 q r : Int} (H : Halves y1 y0 u32 u1) (D : Digit y1 y0 u32 u1 q r) (hq : q < 4294967296) : 0 ≤ q * y0 ∧ q * y0 ≤ 18446744073709551615 := by
  obtain ⟨a, b, c, d, e, f, g, hh⟩ := H
  have h2 := D.q0
  have h3 : q * y0 ≤ 4294967295 * y0 := Int.mul_le_mul_of_nonneg_right (by omega) c
  exact ⟨Int.mul_nonneg h2 c, by omega⟩

/-- all of it: the two digits are the quotient, what is left, shifted back, is the remainder. -/
theorem division (N y P Y u32 un10 u1 u0 q1 u21 q0 : Int) (hP : 1 ≤ P) (hy : 0 < y) (hY : y * P = Y) (hU : u32 * 18446744073709551616 + un10 = N * P)
    (h10 : u1 * 4294967296 + u0 = un10) (h21 : u21 = u32 * 4294967296 + u1 - q1 * Y) (hr0 : 0 ≤ u21 * 4294967296 + u0 - q0 * Y) (hr1 : u21 * 4294967296 + u0 - q0 * Y < Y) :
    (q1 * 4294967296 + q0) * y + (u21 * 4294967296 + u0 - q0 * Y) / P = N ∧ (u21 * 4294967296 + u0 - q0 * Y) / P < y ∧ 0 ≤ (u21 * 4294967296 + u0 - q0 * Y) / P := by
  have e : u21 * 4294967296 + u0 - q0 * Y = (N - (q1 * 4294967296 + q0) * y) * P := by
    subst h21 hY
    grind
  rw [e] at hr0 hr1 ⊢
  rw [Int.mul_ediv_cancel _ (by omega)]
  refine ⟨by omega, ?_, ?_⟩
  · rw [← hY] at hr1
    exact Int.lt_of_mul_lt_mul_right hr1 (by omega)
  · false_or_by_contra
    have h : N - (q1 * 4294967296 + q0) * y ≤ -1 := by omega
    have : (N - (q1 * 4294967296 + q0) * y) * P ≤ -1 * P := Int.mul_le_mul_of_nonneg_right h (by omega)
    omega
end Go.Proofs.YtdpcfpmlkhdmkaaDoor
