/- wide: Power's closure (a goto), Power. -/
import Derived.Test.YtdpcfpmlkhdmkaaDoorW9
import Derived.ScopeJumps
import Derived.WalkMore
namespace Go.Proofs.YtdpcfpmlkhdmkaaDoor
open Go.RowKit

def cellInt (v : Option Value) : Int := match v with | some (.int _ q) => q | _ => 0

/-- what holds at the label: m powers are left. -/
structure PowInv (bn ba : Nat) (N A a b : Int) (w : World) (m : Nat) (w' : World) : Prop where
  keeps : Keeps (fun k => k ≠ bn) w w'
  cn : w'.cell? ⟨bn, 0, none⟩ = some (.int .i64 (m))
  fn : w'.frozen? ⟨bn, 0, none⟩ = false
  a0 : w'.cell? ⟨ba, 0, none⟩ = some (.int .u64 (a))
  a1 : w'.cell? ⟨ba, 1, none⟩ = some (.int .u64 (b))
  r0 : w'.cell? ⟨w.heap.size, 0, none⟩ = some (.int .u64 (0))
  r1 : w'.cell? ⟨w.heap.size, 1, none⟩ = some (.int .u64 (0))
  rf0 : w'.frozen? ⟨w.heap.size, 0, none⟩ = false
  rf1 : w'.frozen? ⟨w.heap.size, 1, none⟩ = false
  out : ∃ h l, w'.cell? ⟨(w.heap.size + 1), 0, none⟩ = some (.int .u64 (h)) ∧ w'.cell? ⟨(w.heap.size + 1), 1, none⟩ = some (.int .u64 (l)) ∧ U64 h ∧ U64 l ∧ W128 h l * A ^ m = N
  of0 : w'.frozen? ⟨(w.heap.size + 1), 0, none⟩ = false
  of1 : w'.frozen? ⟨(w.heap.size + 1), 1, none⟩ = false
  size : (w.heap.size + 1 + 1) ≤ w'.heap.size
  mle : (m : Int) ≤ 9223372036854775807

theorem pow_ge (A X : Int) (hA : 1 ≤ A) (hX : 0 ≤ X) : ∀ m : Nat, X ≤ X * A ^ m
  | 0 => by simp
  | m + 1 => by
    have ih := pow_ge A X hA hX m
    have h : 0 ≤ X * A ^ m := by omega
    have : X * A ^ m * 1 ≤ X * A ^ m * A := Int.mul_le_mul_of_nonneg_left hA h
    rw [Int.pow_succ, ← Int.mul_assoc]
    omega


def PowJ (bn ba : Nat) (N A a b : Int) (w : World) (a' : Act) (w' : World) : Prop :=
  ∃ (m : Nat) (u4 u5 u6 u7 u8 u9 u10 u11 u12 : Value), a' = { tmps := #[.pointer (some ⟨bn, 0, none⟩), .pointer (some ⟨ba, 0, none⟩), .pointer (some ⟨w.heap.size, 0, none⟩), .pointer (some ⟨(w.heap.size + 1), 0, none⟩), u4, u5, u6, u7, u8, u9, u10, u11, u12], defers := [] } ∧
    PowInv bn ba N A a b w m w'

set_option maxRecDepth 100000 in
set_option maxHeartbeats 2000000 in
theorem pow1 (bn ba n : Nat) (A N a b : Int) (w : World) (ha : U64 a) (hb : U64 b) (hA : Hid (A = W128 a b ∧ 1 ≤ A)) (hN : Hid (N = A ^ n)) (hn : (n : Int) ≤ 9223372036854775807)
    (g0 : w.cell? ⟨0, 0, none⟩ = some (.int .u64 (0))) (g1 : w.cell? ⟨0, 1, none⟩ = some (.int .u64 (1))) (z0 : 0 < w.heap.size)
    (cn : w.cell? ⟨bn, 0, none⟩ = some (.int .i64 (n))) (fn : w.frozen? ⟨bn, 0, none⟩ = false) (a0 : w.cell? ⟨ba, 0, none⟩ = some (.int .u64 (a))) (a1 : w.cell? ⟨ba, 1, none⟩ = some (.int .u64 (b)))
    (hbn : bn < w.heap.size) (hba : ba < w.heap.size) (hne : ¬ ba = bn) (hn0 : ¬ 0 = bn) :
    Calls Tryd.prog 37 #[.pointer (some ⟨bn, 0, none⟩), .pointer (some ⟨ba, 0, none⟩)] w (WideOrK (fun k => k ≠ bn) N w) := by
  go_enter Tryd.func37, Tryd.ntmps37
  go_wp2_with fail
  refine wp_scope_jumps 0 (PowJ bn ba N A a b w) (fun _ w' => (cellInt (w'.cell? ⟨bn, 0, none⟩)).toNat) rfl ?_ ?_
  · go_wp2_with fail
    go_step3
    have I : PowInv bn ba N A a b w n ((w.alloc (.cells #[(.int .u64 (0)), (.int .u64 (0))] 27)).alloc (.cells #[(.int .u64 (0)), (.int .u64 (1))] 27)) := by
      refine ⟨?_, ?_, ?_, ?_, ?_, ?_, ?_, ?_, ?_, ⟨0, 1, ?_, ?_, U64.zero, by unfold U64; rw [M_lit]; omega, ?_⟩, ?_, ?_, ?_, hn⟩
      · exact ((Keeps.refl _ w).alloc _).alloc _
      all_goals (try go_simp)
      rw [hN.out]; unfold W128; simp
    generalize ((w.alloc (.cells #[(.int .u64 (0)), (.int .u64 (0))] 27)).alloc (.cells #[(.int .u64 (0)), (.int .u64 (1))] 27)) = wr at *
    generalize n = m at *
    clear g0 g1 cn fn a0 a1 hN
    obtain ⟨ik, i1, i2, i3, i4, i5, i6, i7, i8, ⟨h, l, i9, i10, uh, ul, iN⟩, i11, i12, i13, i14⟩ := I
    have IK := hid ik; clear ik
    have IN := hid iN; clear iN
    have IZ := hid i13; clear i13
    by_cases hm : m = 0
    · subst hm
      go_wp2_with fail
      simp only [Exit.jump]
      refine bodyPost_ret (v := .agg #[(.int .u64 (h)), (.int .u64 (l))]) (by simp [results, Tryd.results37, go_sem, i5, i6]) rfl ⟨?_, Or.inl ⟨?_, _, _, rfl, uh, ul, ?_⟩⟩
      · exact (IK.out.setCell (Or.inl (Nat.le_refl _)) _).setCell (Or.inl (Nat.le_refl _)) _
      · rw [← IN.out]; simp; exact (W128.lt uh ul).2
      · rw [← IN.out]; simp
    · obtain ⟨j, rfl⟩ : ∃ j, m = j + 1 := ⟨m - 1, by omega⟩
      clear hm
      have hm' : (0 : Int) < ((j + 1 : Nat) : Int) := by omega
      have hw1 : ((j + 1 : Nat) : Int) - 1 = (j : Int) := by omega
      have z2 : w.heap.size < wr.heap.size := by have := IZ.out; omega
      have z3 : w.heap.size + 1 < wr.heap.size := by have := IZ.out; omega
      have z4 : bn < wr.heap.size := by omega
      have z5 : ba < wr.heap.size := by omega
      go_wp2_with fail
      (refine (times_any _ _ _ _ _ uh ul ha hb).mono ?_; rintro e w1 ⟨B, ⟨hN1, h', l', rfl, u1, u2, u3⟩ | ⟨hN1, rfl⟩⟩)
      · have U3 := hid u3; clear u3 hN1
        obtain ⟨k1_0, k1_f0⟩ := keep1 B (b := bn) (x0 := (.int .i64 ((j + 1 : Nat)))) (by first | omega | (simp <;> omega)) (by first | assumption | go_simp) (by first | assumption | go_simp)
        obtain ⟨k2_0, k2_1⟩ := keepr2 B (b := ba) (x0 := (.int .u64 (a))) (x1 := (.int .u64 (b))) (by first | omega | (simp <;> omega)) (by first | assumption | go_simp) (by first | assumption | go_simp)
        obtain ⟨k3_0, k3_1, k3_f0, k3_f1⟩ := keep2 B (b := w.heap.size) (x0 := (.int .u64 (0))) (x1 := (.int .u64 (0))) (by first | omega | (simp <;> omega)) (by first | assumption | go_simp) (by first | assumption | go_simp) (by first | assumption | go_simp) (by first | assumption | go_simp)
        obtain ⟨k4_0, k4_1, k4_f0, k4_f1⟩ := keep2 B (b := (w.heap.size + 1)) (x0 := (.int .u64 (h))) (x1 := (.int .u64 (l))) (by first | omega | (simp <;> omega)) (by first | assumption | go_simp) (by first | assumption | go_simp) (by first | assumption | go_simp) (by first | assumption | go_simp)
        clear i2 i3 i4 i5 i6 i7 i8 i9 i10 i11 i12
        go_wp2_with fail
        go_step3
        refine ⟨rfl, ?_⟩
        refine ⟨j, _, _, _, _, _, _, _, _, _, rfl, ?_, ?_, ?_, ?_, ?_, ?_, ?_, ?_, ?_, ⟨h', l', ?_, ?_, u1, u2, ?_⟩, ?_, ?_, ?_, by omega⟩
        · exact (((IK.out.trans (.of_below B)).setCell (Or.inl (by simp)) _).setCell (Or.inl (by simp)) _).setCell (Or.inr (by simp)) _
        all_goals (try go_simp)
        · rw [U3.out, ← IN.out, Int.pow_succ, ← hA.out.1]; grind
        · have := IZ.out; have := B.size; simp; omega
      · have q := IN.out
        refine ⟨rfl, ?_, Or.inr ⟨?_, rfl⟩⟩
        · exact IK.out.trans (.of_below B)
        · rw [← q]
          have hge := pow_ge A (W128 h l * W128 a b) hA.out.2 (Int.mul_nonneg (W128.lt uh ul).1 (W128.lt ha hb).1) j
          have e : W128 h l * A ^ (j + 1) = W128 h l * W128 a b * A ^ j := by rw [Int.pow_succ, ← hA.out.1]; grind
          rw [e]; omega
  · rintro a' wr ⟨m, u4, u5, u6, u7, u8, u9, u10, u11, u12, rfl, I⟩
    clear g0 g1 cn fn a0 a1
    obtain ⟨ik, i1, i2, i3, i4, i5, i6, i7, i8, ⟨h, l, i9, i10, uh, ul, iN⟩, i11, i12, i13, i14⟩ := I
    have IK := hid ik; clear ik
    have IN := hid iN; clear iN
    have IZ := hid i13; clear i13
    by_cases hm : m = 0
    · subst hm
      go_wp2_with fail
      simp only [Exit.jump]
      refine bodyPost_ret (v := .agg #[(.int .u64 (h)), (.int .u64 (l))]) (by simp [results, Tryd.results37, go_sem, i5, i6]) rfl ⟨?_, Or.inl ⟨?_, _, _, rfl, uh, ul, ?_⟩⟩
      · exact (IK.out.setCell (Or.inl (Nat.le_refl _)) _).setCell (Or.inl (Nat.le_refl _)) _
      · rw [← IN.out]; simp; exact (W128.lt uh ul).2
      · rw [← IN.out]; simp
    · obtain ⟨j, rfl⟩ : ∃ j, m = j + 1 := ⟨m - 1, by omega⟩
      clear hm
      have hm' : (0 : Int) < ((j + 1 : Nat) : Int) := by omega
      have hw1 : ((j + 1 : Nat) : Int) - 1 = (j : Int) := by omega
      have z2 : w.heap.size < wr.heap.size := by have := IZ.out; omega
      have z3 : w.heap.size + 1 < wr.heap.size := by have := IZ.out; omega
      have z4 : bn < wr.heap.size := by omega
      have z5 : ba < wr.heap.size := by omega
      go_wp2_with fail
      (refine (times_any _ _ _ _ _ uh ul ha hb).mono ?_; rintro e w1 ⟨B, ⟨hN1, h', l', rfl, u1, u2, u3⟩ | ⟨hN1, rfl⟩⟩)
      · have U3 := hid u3; clear u3 hN1
        obtain ⟨k1_0, k1_f0⟩ := keep1 B (b := bn) (x0 := (.int .i64 ((j + 1 : Nat)))) (by first | omega | (simp <;> omega)) (by first | assumption | go_simp) (by first | assumption | go_simp)
        obtain ⟨k2_0, k2_1⟩ := keepr2 B (b := ba) (x0 := (.int .u64 (a))) (x1 := (.int .u64 (b))) (by first | omega | (simp <;> omega)) (by first | assumption | go_simp) (by first | assumption | go_simp)
        obtain ⟨k3_0, k3_1, k3_f0, k3_f1⟩ := keep2 B (b := w.heap.size) (x0 := (.int .u64 (0))) (x1 := (.int .u64 (0))) (by first | omega | (simp <;> omega)) (by first | assumption | go_simp) (by first | assumption | go_simp) (by first | assumption | go_simp) (by first | assumption | go_simp)
        obtain ⟨k4_0, k4_1, k4_f0, k4_f1⟩ := keep2 B (b := (w.heap.size + 1)) (x0 := (.int .u64 (h))) (x1 := (.int .u64 (l))) (by first | omega | (simp <;> omega)) (by first | assumption | go_simp) (by first | assumption | go_simp) (by first | assumption | go_simp) (by first | assumption | go_simp)
        clear i2 i3 i4 i5 i6 i7 i8 i9 i10 i11 i12
        go_wp2_with fail
        go_step3
        refine ⟨rfl, ?_⟩
        refine ⟨⟨j, _, _, _, _, _, _, _, _, _, rfl, ?_, ?_, ?_, ?_, ?_, ?_, ?_, ?_, ?_, ⟨h', l', ?_, ?_, u1, u2, ?_⟩, ?_, ?_, ?_, by omega⟩, ?_⟩
        · exact (((IK.out.trans (.of_below B)).setCell (Or.inl (by simp)) _).setCell (Or.inl (by simp)) _).setCell (Or.inr (by simp)) _
        all_goals (try go_simp)
        · rw [U3.out, ← IN.out, Int.pow_succ, ← hA.out.1]; grind
        · have := IZ.out; have := B.size; simp; omega
        · simp [cellInt, i1]; omega
      · have q := IN.out
        refine ⟨rfl, ?_, Or.inr ⟨?_, rfl⟩⟩
        · exact IK.out.trans (.of_below B)
        · rw [← q]
          have hge := pow_ge A (W128 h l * W128 a b) hA.out.2 (Int.mul_nonneg (W128.lt uh ul).1 (W128.lt ha hb).1) j
          have e : W128 h l * A ^ (j + 1) = W128 h l * W128 a b * A ^ j := by rw [Int.pow_succ, ← hA.out.1]; grind
          rw [e]; omega
end Go.Proofs.YtdpcfpmlkhdmkaaDoor
