/- wide: math/bits.Div64 at every input that it takes; Div. -/
import Derived.Test.YtdpcfpmlkhdmkaaDoorW6
import Derived.Deep.RegionWith
namespace Go.Proofs.YtdpcfpmlkhdmkaaDoor
open Go.RowKit

theorem wraps_u64 (n : Int) (h₀ : 0 ≤ n) (h₁ : n < 2 ^ 64) : IntKind.u64.wrap n = n := by rw [IntKind.wrap_u64]; omega

set_option maxRecDepth 100000 in
theorem div64_big (hi lo y : Int) (w : World) (hh : U64 hi) (hl : U64 lo) (hy : U64 y) (h1 : hi < y) (h2 : (hi == 0) = false) :
   Calls Tryd.prog 34 #[(.int .u64 (hi)), (.int .u64 (lo)), (.int .u64 (y))] w (fun e w' => DivPost (W128 hi lo) y e ∧ w = w') := by
  have LZ0 := fun s : Nat => fun hs : (64 - (Lib.bitLen y.toNat : Int)) = (s : Int) => (Tryd.bits_LeadingZeros64 y w hy.1 (by have := hy.2; rw [M_lit] at this; omega)).mono
    (R' := fun e w' => e = .returned (.int .i64 (s)) ∧ w = w') (by rintro e w' ⟨rfl, rfl⟩; exact ⟨by rw [hs], rfl⟩)
  obtain ⟨hh0, hh1⟩ := hh
  obtain ⟨hl0, hl1⟩ := hl
  obtain ⟨hy0, hy1⟩ := hy
  rw [M_lit] at hh1 hl1 hy1
  obtain ⟨s, s63, hs, y63, y64⟩ := lead y.toNat (by omega) (by omega)
  obtain ⟨P, hP⟩ : ∃ P : Int, (2 : Int) ^ s = P := ⟨_, rfl⟩
  obtain ⟨Q, hQ⟩ : ∃ Q : Int, (2 : Int) ^ (64 - s) = Q := ⟨_, rfl⟩
  have p1 : 0 < P := by rw [← hP]; exact Int.pow_pos (by omega)
  have q1 : 0 < Q := by rw [← hQ]; exact Int.pow_pos (by omega)
  have pq : Q * P = 18446744073709551616 := by rw [← hP, ← hQ, ← Int.pow_add, show 64 - s + s = 64 from by omega]; rfl
  have yP : ((y.toNat * 2 ^ s : Nat) : Int) = y * P := by rw [← hP]; simp; rw [Int.max_eq_left hy0]
  have a1 : 9223372036854775808 ≤ y * P := by rw [← yP]; omega
  have a2 : y * P < 18446744073709551616 := by rw [← yP]; omega
  have a3 : (hi + 1) * P ≤ y * P := Int.mul_le_mul_of_nonneg_right (by omega) (by omega)
  have a3' : (hi + 1) * P = hi * P + P := by grind
  have a4 : 0 ≤ hi * P := Int.mul_nonneg hh0 (by omega)
  have a5 : 0 ≤ lo / Q := Int.ediv_nonneg hl0 (by omega)
  have a6 : lo / Q < P := by
    rw [Int.ediv_lt_iff_lt_mul q1]
    rw [Int.mul_comm, pq]; exact hl1
  have a7 : lo * P / 18446744073709551616 = lo / Q := by
    rw [← pq]; exact Int.mul_ediv_mul_of_pos_left lo Q p1
  have a8 : (2 : Int) ^ 32 = 4294967296 := by rfl
  have m1 : bits .and .u64 (y * P) 4294967295 = (y * P) % 4294967296 := by
    have := bits_mask .u64 64 (by decide) wraps_u64 32 (by decide) (y * P) (by omega) (by omega)
    simpa using this
  have m2 : bits .and .u64 (lo * P % 18446744073709551616) 4294967295 = (lo * P % 18446744073709551616) % 4294967296 := by
    have := bits_mask .u64 64 (by decide) wraps_u64 32 (by decide) (lo * P % 18446744073709551616) (by omega) (by omega)
    simpa using this
  have m3 : bits .or .u64 (hi * P) (lo / Q) = hi * P + lo / Q :=
    bits_join .u64 64 (by decide) wraps_u64 s (hi * P) (lo / Q) a4 (by rw [hP]; exact Int.mul_emod_left _ _) (by omega) a5 (by rw [hP]; exact a6) (by omega)
  refine div64_walk hi lo y (W128 hi lo) s (64 - s) (y * P) (y * P / 4294967296) (y * P % 4294967296) (hi * P) (lo / Q) (hi * P + lo / Q) (lo * P % 18446744073709551616)
    (lo * P % 18446744073709551616 / 4294967296) (lo * P % 18446744073709551616 % 4294967296) w (by simp; omega) h1 h2 (LZ0 s hs)
    (wrapu _ (by omega) (by omega)) (by omega) (by rw [wrapu _ (by omega) (by omega)]; omega) (by omega) (by rw [hP]; exact wrapu _ (by omega) (by omega)) rfl m1
    (by rw [hP]; exact wrapu _ a4 (by omega)) (by rw [hQ]) m3 (by rw [hP, IntKind.wrap_u64]) rfl m2 (by omega) ?_ ?_ ?_ ?_ ?_ ?_ ?_
  · exact ⟨by omega, by omega, by omega, by omega, by omega, by omega, by omega, by omega⟩
  · exact ⟨by omega, by omega⟩
  · show _ = _
    rw [hP]
  · show _ = _
    rw [hP]; unfold W128; rw [M_lit]
    have := Int.mul_ediv_add_emod (lo * P) 18446744073709551616
    rw [a7] at this
    grind
  · show _ = _
    omega
  · show _ = _
    omega
  · show _ < _
    omega

set_option maxRecDepth 100000 in
theorem div64_small (lo y : Int) (w : World) (hl : U64 lo) (hy : U64 y) (h1 : 0 < y) :
   Calls Tryd.prog 34 #[(.int .u64 (0)), (.int .u64 (lo)), (.int .u64 (y))] w (fun e w' => DivPost (W128 0 lo) y e ∧ w' = w.drew) := by
  have hy0 : ¬ y = 0 := by omega
  have hl0 := hl.1
  have hl1 := hl.2
  rw [M_lit] at hl1
  have e1 : lo.tdiv y = lo / y := Int.tdiv_eq_ediv_of_nonneg hl.1
  have e2 : lo.tmod y = lo % y := Int.tmod_eq_emod_of_nonneg hl.1
  have b1 := Int.ediv_nonneg hl.1 (show 0 ≤ y by omega)
  have b2 : lo / y ≤ lo := Int.ediv_le_self _ hl.1
  have e3 : IntKind.u64.wrap (lo / y) = lo / y := wrapu _ b1 (by omega)
  have hyb : (y == 0) = false := by simpa using hy0
  clear hl0 hl1 b1 b2
  go_enter Tryd.func34, Tryd.ntmps34
  go_wp2_with fail
  go_region
  go_wp2_with fail
  go_ret2
  refine ⟨⟨_, _, rfl, ?_⟩, rfl⟩
  have h2 := Int.mul_ediv_add_emod lo y
  have h3 := Int.emod_nonneg lo hy0
  have h4 := Int.emod_lt_of_pos lo h1
  have b1 := Int.ediv_nonneg hl.1 (show 0 ≤ y by omega)
  have b2 : lo / y ≤ lo := Int.ediv_le_self _ hl.1
  have := hl.2
  refine ⟨?_, h3, h4, b1, by omega⟩
  unfold W128
  rw [Int.mul_comm (lo / y)]; omega

theorem Below.drew1 (w : World) : Below w.heap.size w w.drew := (Below.refl _ _).drew
theorem div64_any (hi lo y : Int) (w : World) (hh : U64 hi) (hl : U64 lo) (hy : U64 y) (h1 : hi < y) :
   Calls Tryd.prog 34 #[(.int .u64 (hi)), (.int .u64 (lo)), (.int .u64 (y))] w (fun e w' => DivPost (W128 hi lo) y e ∧ ∃ n, w' = w.drewN n) := by
  by_cases h : hi = 0
  · subst h
    exact (div64_small lo y w hl hy h1).mono fun e w' ⟨a, b⟩ => ⟨a, 1, b⟩
  · exact (div64_big hi lo y w hh hl hy h1 (by simpa using h)).mono fun e w' ⟨a, b⟩ => ⟨a, 0, by rw [← b]; rfl⟩
end Go.Proofs.YtdpcfpmlkhdmkaaDoor
