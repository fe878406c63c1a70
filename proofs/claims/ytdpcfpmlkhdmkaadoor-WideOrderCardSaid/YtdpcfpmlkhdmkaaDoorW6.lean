/- wide: the walk of math/bits.Div64. -/
import Derived.Test.YtdpcfpmlkhdmkaaDoorW5
import Derived.Deep.DeepCutAuto
import Derived.Deep.CutBlock
import Derived.Deep.LoopGhost
namespace Go.Proofs.YtdpcfpmlkhdmkaaDoor
open Go.RowKit

theorem wrapu (x : Int) (h0 : 0 ≤ x) (h1 : x ≤ 18446744073709551615) : IntKind.u64.wrap x = x := IntWalk.u64_in x ⟨h0, h1⟩

theorem M_lit : M = 18446744073709551616 := rfl
/-- what the difference of a digit's step comes to, though its parts wrap round. -/
theorem wrap_digit (u32 u1 z : Int) (h0 : 0 ≤ u32 * 4294967296 + u1 - z) (h1 : u32 * 4294967296 + u1 - z < 18446744073709551616) :
    IntKind.u64.wrap (IntKind.u64.wrap (IntKind.u64.wrap (u32 * 4294967296) + u1) - IntKind.u64.wrap z) = u32 * 4294967296 + u1 - z := by
  simp only [IntKind.wrap_u64]
  omega
theorem start_walk {y1 y0 u32 u1 : Int} (H : Halves y1 y0 u32 u1) :
    IntKind.u64.wrap (u32.tdiv y1) = u32 / y1 ∧ IntKind.u64.wrap (u32 / y1 * y1) = u32 / y1 * y1 ∧ IntKind.u64.wrap (u32 - u32 / y1 * y1) = u32 - u32 / y1 * y1 ∧ u32 ≤ 18446744073709551615 := by
  have D := Digit.start H
  obtain ⟨a, b, c, d, e, f, g, h⟩ := H
  have h1 := D.1.r0
  have h2 := D.1.q0
  have h3 := D.1.sum
  have h4 : u32 / y1 * 1 ≤ u32 / y1 * y1 := Int.mul_le_mul_of_nonneg_left (by omega) h2
  refine ⟨?_, ?_, ?_, by omega⟩
  · rw [Int.tdiv_eq_ediv_of_nonneg g]; exact wrapu _ h2 (by omega)
  · exact wrapu _ (by omega) (by omega)
  · exact wrapu _ (by omega) (by omega)

/-- q times y and r are N. -/
def DivPost (N y : Int) (e : Ending) : Prop := ∃ q r, e = .returned (.tuple #[(.int .u64 (q)), (.int .u64 (r))]) ∧ q * y + r = N ∧ 0 ≤ r ∧ r < y ∧ 0 ≤ q ∧ q < M

set_option maxRecDepth 100000 in
set_option maxHeartbeats 1000000 in
theorem div64_walk (hi lo y N : Int) (s t : Nat) (Y y1 y0 hs lt u32 un10 u1 u0 : Int) (w : World)
   (h0 : (y == 0) = false) (h1 : hi < y) (h2 : (hi == 0) = false)
   (LZ : Hid (Calls Tryd.prog 53 #[(.int .u64 (y))] w fun e w' => e = .returned (.int .i64 (s)) ∧ w = w'))
   (e1 : IntKind.u64.wrap (s : Int) = s) (e2 : min s 64 = s) (e3 : IntKind.u64.wrap (64 - (s : Int)) = t) (e4 : min t 64 = t)
   (e5 : IntKind.u64.wrap (y * 2 ^ s) = Y) (e6 : Y / 4294967296 = y1) (e7 : bits .and .u64 Y 4294967295 = y0)
   (e8 : IntKind.u64.wrap (hi * 2 ^ s) = hs) (e9 : lo / 2 ^ t = lt) (e10 : bits .or .u64 hs lt = u32)
   (e11 : IntKind.u64.wrap (lo * 2 ^ s) = un10) (e12 : un10 / 4294967296 = u1) (e13 : bits .and .u64 un10 4294967295 = u0)
   (n1 : ¬ y1 = 0) (H1 : Hid (Halves y1 y0 u32 u1)) (R0 : Hid (0 ≤ u0 ∧ u0 < 4294967296))
   (g1 : Hid (y * 2 ^ s = Y)) (g2 : Hid (u32 * 18446744073709551616 + un10 = N * 2 ^ s)) (g3 : Hid (u1 * 4294967296 + u0 = un10)) (g4 : Hid (y1 * 4294967296 + y0 = Y)) (g5 : Hid (0 < y)) :
   Calls Tryd.prog 34 #[(.int .u64 (hi)), (.int .u64 (lo)), (.int .u64 (y))] w (fun e w' => DivPost N y e ∧ w = w') := by
  obtain ⟨e14, e15, e16, -⟩ := start_walk H1.out
  have D1 := hid (Digit.start H1.out).1
  have D1' := (Digit.start H1.out).2
  go_enter Tryd.func34, Tryd.ntmps34
  go_wp2_with fail
  ((with_reducible refine (LZ.out).mono ?_); rintro e w' ⟨rfl, rfl⟩)
  go_upto_block 0 with fail
  go_cut [15, 16] (fun s15 s16 wc => ∃ q r : Int, s15 = (.int .u64 (q)) ∧ Hid (Digit y1 y0 u32 u1 q r ∧ q * (y1 * 4294967296 + y0) ≤ u32 * 4294967296 + u1) ∧ w = wc)
  case first =>
    go_wp2_with fail
    go_loop [15, 16] (fun s15 s16 => ∃ q r : Int, s15 = (.int .u64 (q)) ∧ s16 = (.int .u64 (r)) ∧ Hid (Digit y1 y0 u32 u1 q r) ∧ r < 4294967296) (fun s15 _ => (intOf s15).toNat)
    case atStart => exact ⟨_, _, rfl, rfl, D1, D1'⟩
    case round =>
      obtain ⟨q, r, rfl, rfl, D, hr⟩ := hrel
      have b1 := D.out.r0
      have b2 := D.out.q0
      have b3 := H1.out.a
      have b4 := H1.out.b
      have b5 := H1.out.e
      have b6 := H1.out.f
      have b7 : Hid (q ≤ 18446744073709551615) := by
        show _ ≤ _
        have := D.out.sum
        have := H1.out.h
        have := H1.out.d
        have : q * 1 ≤ q * y1 := Int.mul_le_mul_of_nonneg_left (by omega) b2
        omega
      have W4 : 1 ≤ q → IntKind.u64.wrap (q - 1) = q - 1 := fun h => wrapu _ (by omega) (by have := b7.out; omega)
      have W5 : IntKind.u64.wrap (r + y1) = r + y1 := wrapu _ (by omega) (by omega)
      have W2 : IntKind.u64.wrap (4294967296 * r) = 4294967296 * r := wrapu _ (by omega) (by omega)
      have W3 : IntKind.u64.wrap (4294967296 * r + u1) = 4294967296 * r + u1 := wrapu _ (by omega) (by omega)
      by_cases hq : 4294967296 ≤ q
      · have q1 : 1 ≤ q := by omega
        have L := hid (D.out.less H1.out (Digit.big (r := r) H1.out hq)).2
        have W4' := W4 q1
        clear W4
        go_wp2_with fail
        · go_meet
          exact ⟨_, _, rfl, ⟨L.out, Digit.far H1.out L.out (by assumption)⟩, rfl⟩
        · refine ⟨⟨_, _, rfl, rfl, L, by assumption⟩, ?_⟩
          simp [intOf]; omega
      · have hq' : q < 4294967296 := by omega
        clear hq
        have W1 : IntKind.u64.wrap (q * y0) = q * y0 := wrapu _ (D.out.room H1.out hq').1 (D.out.room H1.out hq').2
        by_cases ho : 4294967296 * r + u1 < q * y0
        · have L0 := D.out.less H1.out (D.out.over ho)
          have q1 : 1 ≤ q := L0.1
          have L := hid L0.2
          clear L0
          have W4' := W4 q1
          clear W4
          go_wp2_with fail
          · go_meet
            exact ⟨_, _, rfl, ⟨L.out, Digit.far H1.out L.out (by assumption)⟩, rfl⟩
          · refine ⟨⟨_, _, rfl, rfl, L, by assumption⟩, ?_⟩
            simp [intOf]; omega
        · have F := hid (D.out.fits (Int.not_lt.1 ho))
          clear W4
          go_wp2_with fail
          go_meet
          exact ⟨_, _, rfl, ⟨D.out, F.out⟩, rfl⟩
  case rest =>
    obtain ⟨q1, r1, rfl, hq1, rfl⟩ := hcut
    have E1 := hid (Digit.end_ H1.out hq1.out.1 hq1.out.2)
    have F1 := hid E1.out
    rw [show y1 * 4294967296 + y0 = Y from g4.out] at F1
    obtain ⟨u21, hu21⟩ : ∃ u21, u32 * 4294967296 + u1 - q1 * Y = u21 := ⟨_, rfl⟩
    have f1 : IntKind.u64.wrap (IntKind.u64.wrap (IntKind.u64.wrap (u32 * 4294967296) + u1) - IntKind.u64.wrap (q1 * Y)) = u21 := by
      have a := F1.out.2.2.1
      have b := F1.out.2.2.2
      have c := g4.out
      have d := H1.out.b
      have e := H1.out.d
      rw [← hu21]
      exact wrap_digit _ _ _ a (by omega)
    have H2 : Hid (Halves y1 y0 u21 u0) := by
      have a := F1.out.2.2.1
      have b := F1.out.2.2.2
      have c := g4.out
      rw [hu21] at a b
      exact ⟨H1.out.a, H1.out.b, H1.out.c, H1.out.d, R0.out.1, R0.out.2, a, by omega⟩
    have HU := hid hu21
    clear hu21 e14 e15 e16 D1 D1'
    obtain ⟨e14, e15, e16, -⟩ := start_walk H2.out
    have D2 := hid (Digit.start H2.out).1
    have D2' := (Digit.start H2.out).2
    go_upto_block 2 with fail
    go_cut [16, 18] (fun s16 s18 wc => ∃ q r : Int, s18 = (.int .u64 (q)) ∧ Hid (Digit y1 y0 u21 u0 q r ∧ q * (y1 * 4294967296 + y0) ≤ u21 * 4294967296 + u0) ∧ w = wc)
    case first =>
      go_wp2_with fail
      go_loop [16, 18] (fun s16 s18 => ∃ q r : Int, s18 = (.int .u64 (q)) ∧ s16 = (.int .u64 (r)) ∧ Hid (Digit y1 y0 u21 u0 q r) ∧ r < 4294967296) (fun _ s18 => (intOf s18).toNat)
      case atStart => exact ⟨_, _, rfl, rfl, D2, D2'⟩
      case round =>
        obtain ⟨q, r, rfl, rfl, D, hr⟩ := hrel
        have b1 := D.out.r0
        have b2 := D.out.q0
        have b3 := H2.out.a
        have b4 := H2.out.b
        have b5 := H2.out.e
        have b6 := H2.out.f
        have b7 : Hid (q ≤ 18446744073709551615) := by
          show _ ≤ _
          have := D.out.sum
          have := H2.out.h
          have := H2.out.d
          have : q * 1 ≤ q * y1 := Int.mul_le_mul_of_nonneg_left (by omega) b2
          omega
        have W4 : 1 ≤ q → IntKind.u64.wrap (q - 1) = q - 1 := fun h => wrapu _ (by omega) (by have := b7.out; omega)
        have W5 : IntKind.u64.wrap (r + y1) = r + y1 := wrapu _ (by omega) (by omega)
        have W2 : IntKind.u64.wrap (4294967296 * r) = 4294967296 * r := wrapu _ (by omega) (by omega)
        have W3 : IntKind.u64.wrap (4294967296 * r + u0) = 4294967296 * r + u0 := wrapu _ (by omega) (by omega)
        by_cases hq : 4294967296 ≤ q
        · have q1 : 1 ≤ q := by omega
          have L := hid (D.out.less H2.out (Digit.big (r := r) H2.out hq)).2
          have W4' := W4 q1
          clear W4
          go_wp2_with fail
          · go_meet
            exact ⟨_, _, rfl, ⟨L.out, Digit.far H2.out L.out (by assumption)⟩, rfl⟩
          · refine ⟨⟨_, _, rfl, rfl, L, by assumption⟩, ?_⟩
            simp [intOf]; omega
        · have hq' : q < 4294967296 := by omega
          clear hq
          have W1 : IntKind.u64.wrap (q * y0) = q * y0 := wrapu _ (D.out.room H2.out hq').1 (D.out.room H2.out hq').2
          by_cases ho : 4294967296 * r + u0 < q * y0
          · have L0 := D.out.less H2.out (D.out.over ho)
            have q1 : 1 ≤ q := L0.1
            have L := hid L0.2
            clear L0
            have W4' := W4 q1
            clear W4
            go_wp2_with fail
            · go_meet
              exact ⟨_, _, rfl, ⟨L.out, Digit.far H2.out L.out (by assumption)⟩, rfl⟩
            · refine ⟨⟨_, _, rfl, rfl, L, by assumption⟩, ?_⟩
              simp [intOf]; omega
          · have F := hid (D.out.fits (Int.not_lt.1 ho))
            clear W4
            go_wp2_with fail
            go_meet
            exact ⟨_, _, rfl, ⟨D.out, F.out⟩, rfl⟩
    case rest =>
      obtain ⟨q0, r0, rfl, hq0, rfl⟩ := hcut
      have E2 := hid (Digit.end_ H2.out hq0.out.1 hq0.out.2)
      have F2 := hid E2.out
      rw [show y1 * 4294967296 + y0 = Y from g4.out] at F2
      obtain ⟨R, hR⟩ : ∃ R, u21 * 4294967296 + u0 - q0 * Y = R := ⟨_, rfl⟩
      have f2 : IntKind.u64.wrap (IntKind.u64.wrap (IntKind.u64.wrap (u21 * 4294967296) + u0) - IntKind.u64.wrap (q0 * Y)) = R := by
        have a := F2.out.2.2.1
        have b := F2.out.2.2.2
        have c := g4.out
        have d := H1.out.b
        have e := H1.out.d
        rw [← hR]
        exact wrap_digit _ _ _ a (by omega)
      have HR := hid hR
      clear hR e14 e15 e16 D2 D2' f1
      have f3 : IntKind.u64.wrap (q1 * 4294967296) = q1 * 4294967296 := wrapu _ (by have := F1.out; omega) (by have := F1.out; omega)
      have f4 : IntKind.u64.wrap (q1 * 4294967296 + q0) = q1 * 4294967296 + q0 := wrapu _ (by have := F1.out; have := F2.out; omega) (by have := F1.out; have := F2.out; omega)
      go_wp2_with fail
      go_ret2
      refine ⟨⟨_, _, rfl, ?_⟩, rfl⟩
      have DV := division N y (2 ^ s) Y u32 un10 u1 u0 q1 u21 q0 (by have : (0 : Int) < 2 ^ s := Int.pow_pos (by omega); omega) g5.out g1.out g2.out g3.out HU.out.symm F2.out.2.2.1 F2.out.2.2.2
      rw [HR.out] at DV
      have := F1.out
      have := F2.out
      exact ⟨DV.1, DV.2.2, DV.2.1, by omega, by rw [M_lit]; omega⟩
end Go.Proofs.YtdpcfpmlkhdmkaaDoor
