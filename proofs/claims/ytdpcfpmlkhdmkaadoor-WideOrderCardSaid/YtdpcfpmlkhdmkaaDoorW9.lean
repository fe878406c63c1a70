/- wide: Compare. -/
import Derived.Test.YtdpcfpmlkhdmkaaDoorW8
namespace Go.Proofs.YtdpcfpmlkhdmkaaDoor
open Go.RowKit

theorem cmp_lt (x y : Int) (w : World) (h : x < y) : Calls Tryd.prog 48 #[(.int .u64 (x)), (.int .u64 (y))] w fun e w' => e = .returned (.int .i64 (-1)) ∧ w = w' := by
  go_enter Tryd.func48, Tryd.ntmps48
  go_wp2_with fail
  go_ret
  exact ⟨rfl, rfl⟩
theorem cmp_gt (x y : Int) (w : World) (h : y < x) : Calls Tryd.prog 48 #[(.int .u64 (x)), (.int .u64 (y))] w fun e w' => e = .returned (.int .i64 (1)) ∧ w = w' := by
  have h' : ¬ x < y := by omega
  go_enter Tryd.func48, Tryd.ntmps48
  go_wp2_with fail
  go_ret
  exact ⟨rfl, rfl⟩
theorem cmp_eq (x : Int) (w : World) : Calls Tryd.prog 48 #[(.int .u64 (x)), (.int .u64 (x))] w fun e w' => e = .returned (.int .i64 (0)) ∧ w = w' := by
  go_enter Tryd.func48, Tryd.ntmps48
  go_wp2_with fail
  go_ret
  exact ⟨rfl, rfl⟩

def cmpI (x y : Int) : Int := if x < y then -1 else if y < x then 1 else 0
theorem cmp_any (x y : Int) (w : World) : Calls Tryd.prog 48 #[(.int .u64 (x)), (.int .u64 (y))] w fun e w' => e = .returned (.int .i64 (cmpI x y)) ∧ w = w' := by
  unfold cmpI
  by_cases h : x < y
  · rw [if_pos h]; exact cmp_lt x y w h
  · rw [if_neg h]
    by_cases h' : y < x
    · rw [if_pos h']; exact cmp_gt x y w h'
    · rw [if_neg h']
      obtain rfl : x = y := by omega
      exact cmp_eq x w

def cmp2 (a b c d : Int) : Int := if cmpI a c = 0 then cmpI b d else cmpI a c
theorem cmp2_eq {a b c d : Int} (ha : U64 a) (hb : U64 b) (hc : U64 c) (hd : U64 d) : cmp2 a b c d = cmpI (W128 a b) (W128 c d) := by
  unfold U64 at *
  unfold cmp2 cmpI W128
  rw [M_lit] at *
  repeat' split
  all_goals omega

set_option maxRecDepth 100000 in
set_option maxHeartbeats 1000000 in
theorem comparefunc (a b c d : Int) (p q : Nat) (w : World) (a0 : w.cell? ⟨p, 0, none⟩ = some (.int .u64 (a))) (a1 : w.cell? ⟨p, 1, none⟩ = some (.int .u64 (b)))
    (b0 : w.cell? ⟨q, 0, none⟩ = some (.int .u64 (c))) (b1 : w.cell? ⟨q, 1, none⟩ = some (.int .u64 (d))) :
    Calls Tryd.prog 47 #[.slice (some ⟨p, 0, none⟩) 2 2, .slice (some ⟨q, 0, none⟩) 2 2, .func (.func 48) #[] #[]] w fun e w' => e = .returned (.int .i64 (cmp2 a b c d)) ∧ w = w' := by
  obtain ⟨x, hx⟩ : ∃ x, cmpI a c = x := ⟨_, rfl⟩
  have C1 := fun w => cmp_any a c w
  rw [hx] at C1
  have HC1 := hid C1
  clear C1
  by_cases h : x = 0
  · have h0 : (x == 0) = true := by simpa using h
    have h1 : (x != 0) = false := by simpa using h
    have HE : Hid (cmp2 a b c d = cmpI b d) := by show _ = _; unfold cmp2; rw [hx, if_pos h]
    clear hx h
    obtain ⟨z, hz⟩ : ∃ z, cmpI b d = z := ⟨_, rfl⟩
    have C2 := fun w => cmp_any b d w
    rw [hz] at C2 HE
    have HC2 := hid C2
    clear C2 hz
    by_cases hz0 : z = 0
    · have g0 : (z == 0) = true := by simpa using hz0
      have g1 : (z != 0) = false := by simpa using hz0
      rw [hz0] at HE
      clear hz0
      go_enter Tryd.func47, Tryd.ntmps47
      go_wp2_with fail
      refine wp_loop_rounds 3 ?_
      rw [rounds_succ]
      go_wp2_with fail
      ((with_reducible refine (HC1.out _).mono ?_); rintro e w' ⟨rfl, rfl⟩)
      go_wp2_with fail
      rw [rounds_succ]
      go_wp2_with fail
      ((with_reducible refine (HC2.out _).mono ?_); rintro e w' ⟨rfl, rfl⟩)
      go_wp2_with fail
      rw [rounds_succ]
      go_wp2_with fail
      go_ret
      exact ⟨by rw [HE.out]; rfl, rfl⟩
    · have g0 : (z == 0) = false := by simpa using hz0
      have g1 : (z != 0) = true := by simpa using hz0
      clear hz0
      go_enter Tryd.func47, Tryd.ntmps47
      go_wp2_with fail
      refine wp_loop_rounds 3 ?_
      rw [rounds_succ]
      go_wp2_with fail
      ((with_reducible refine (HC1.out _).mono ?_); rintro e w' ⟨rfl, rfl⟩)
      go_wp2_with fail
      rw [rounds_succ]
      go_wp2_with fail
      ((with_reducible refine (HC2.out _).mono ?_); rintro e w' ⟨rfl, rfl⟩)
      go_wp2_with fail
      go_ret
      exact ⟨by rw [HE.out]; rfl, rfl⟩
  · have h0 : (x == 0) = false := by simpa using h
    have h1 : (x != 0) = true := by simpa using h
    have HE : Hid (cmp2 a b c d = x) := by show _ = _; unfold cmp2; rw [hx, if_neg h]
    clear hx h
    go_enter Tryd.func47, Tryd.ntmps47
    go_wp2_with fail
    refine wp_loop_rounds 3 ?_
    rw [rounds_succ]
    go_wp2_with fail
    ((with_reducible refine (HC1.out _).mono ?_); rintro e w' ⟨rfl, rfl⟩)
    go_wp2_with fail
    go_ret
    exact ⟨by rw [HE.out]; rfl, rfl⟩

set_option maxRecDepth 100000 in
theorem compare_any (a b c d : Int) (w : World) (ha : U64 a) (hb : U64 b) (hc : U64 c) (hd : U64 d) :
   Calls Tryd.prog 23 #[.agg #[.int .u64 a, .int .u64 b], .agg #[.int .u64 c, .int .u64 d]] w fun e w' => e = .returned (.int .i64 (cmpI (W128 a b) (W128 c d))) ∧ Below w.heap.size w w' := by
  rw [← cmp2_eq ha hb hc hd]
  go_enter Tryd.func23, Tryd.ntmps23
  go_wp2_with fail
  refine (comparefunc a b c d (w.heap.size + 1 + 1) (w.heap.size + 1 + 1 + 1) _ ?_ ?_ ?_ ?_).mono ?_
  · go_simp
  · go_simp
  · go_simp
  · go_simp
  rintro e w' ⟨rfl, rfl⟩
  go_wp2_with fail
  go_ret
  refine ⟨rfl, ?_⟩
  repeat' (first | exact Below.refl _ _ | with_reducible refine Below.alloc ?_ ?_ _ | with_reducible refine Below.setCell ?_ ?_ _ | with_reducible refine Below.drew ?_ | with_reducible refine below_drewN ?_ _ | refine Below.trans ?_ (Below.mono (by assumption) ?_))
  all_goals (first | omega | (simp <;> omega))
end Go.Proofs.YtdpcfpmlkhdmkaaDoor
