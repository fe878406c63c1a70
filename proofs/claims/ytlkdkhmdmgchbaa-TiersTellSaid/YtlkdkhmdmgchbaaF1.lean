/- how pairs stand: Compare, Ahead. -/
import Derived.Test.YtlkdkhmdmgchbaaP1
namespace Go.Proofs.Ytlkdkhmdmgchbaa
set_option linter.unusedSimpArgs false
set_option linter.unusedVariables false
open Go.RowKit

def cmpI (x y : Int) : Int := if x < y then -1 else if y < x then 1 else 0
/-- how pairs stand. -/
def pcmp (p q : Pr) : Int := if cmpI p.1 q.1 = 0 then cmpI p.2 q.2 else cmpI p.1 q.1
/-- a pair stands ahead of another one. -/
def lt (p q : Pr) : Prop := p.1 < q.1 ∨ p.1 = q.1 ∧ p.2 < q.2
instance (p q : Pr) : Decidable (lt p q) := by unfold lt; infer_instance
theorem pcmp_lt (p q : Pr) : pcmp p q < 0 ↔ lt p q := by
  unfold pcmp lt cmpI
  repeat' split
  all_goals omega
theorem pcmp_gt (p q : Pr) : 0 < pcmp p q ↔ lt q p := by
  unfold pcmp lt cmpI
  repeat' split
  all_goals omega
theorem pcmp_eq (p q : Pr) : pcmp p q = 0 ↔ p = q := by
  obtain ⟨a, b⟩ := p
  obtain ⟨c, d⟩ := q
  simp only [pcmp, cmpI, Prod.mk.injEq]
  repeat' split
  all_goals omega
theorem pcmp_small (p q : Pr) : -1 ≤ pcmp p q ∧ pcmp p q ≤ 1 := by
  unfold pcmp cmpI
  repeat' split
  all_goals omega
theorem lt_irrefl (p : Pr) : ¬ lt p p := by unfold lt; omega
theorem lt_trans {p q r : Pr} (h : lt p q) (k : lt q r) : lt p r := by unfold lt at *; omega
theorem lt_asymm {p q : Pr} (h : lt p q) : ¬ lt q p := by unfold lt at *; omega
theorem lt_total (p q : Pr) : lt p q ∨ p = q ∨ lt q p := by
  obtain ⟨a, b⟩ := p
  obtain ⟨c, d⟩ := q
  simp only [lt, Prod.mk.injEq]
  omega

theorem nan_any (x : Int) (w : World) : Calls Try.prog 155 #[(.int .u64 (x))] w fun e w' => e = .returned (.bool false) ∧ w = w' := by
  go_enter Try.func155, Try.ntmps155
  go_wp2_with fail
  go_ret
  exact ⟨by simp, rfl⟩

set_option maxRecDepth 100000 in
theorem cmp_any (x y : Int) (w : World) : Calls Try.prog 114 #[(.int .u64 (x)), (.int .u64 (y))] w fun e w' => e = .returned (.int .i64 (cmpI x y)) ∧ w = w' := by
  rcases Int.lt_trichotomy x y with h | h | h
  · have e : cmpI x y = -1 := by unfold cmpI; rw [if_pos h]
    rw [e]
    go_enter Try.func114, Try.ntmps114
    go_wp2_with fail
    ((with_reducible refine (nan_any _ _).mono ?_); rintro e w' ⟨rfl, rfl⟩)
    go_wp2_with fail
    ((with_reducible refine (nan_any _ _).mono ?_); rintro e w' ⟨rfl, rfl⟩)
    go_wp2_with fail
    go_ret
    exact ⟨rfl, rfl⟩
  · have e : cmpI x y = 0 := by unfold cmpI; rw [if_neg (by omega), if_neg (by omega)]
    rw [e]
    subst h
    go_enter Try.func114, Try.ntmps114
    go_wp2_with fail
    ((with_reducible refine (nan_any _ _).mono ?_); rintro e w' ⟨rfl, rfl⟩)
    go_wp2_with fail
    ((with_reducible refine (nan_any _ _).mono ?_); rintro e w' ⟨rfl, rfl⟩)
    go_wp2_with fail
    go_ret
    exact ⟨rfl, rfl⟩
  · have e : cmpI x y = 1 := by unfold cmpI; rw [if_neg (by omega), if_pos h]
    rw [e]
    have h' : ¬ x < y := by omega
    go_enter Try.func114, Try.ntmps114
    go_wp2_with fail
    ((with_reducible refine (nan_any _ _).mono ?_); rintro e w' ⟨rfl, rfl⟩)
    go_wp2_with fail
    ((with_reducible refine (nan_any _ _).mono ?_); rintro e w' ⟨rfl, rfl⟩)
    go_wp2_with fail
    go_ret
    exact ⟨rfl, rfl⟩

set_option maxRecDepth 100000 in
theorem or_any (g : Nat) (c d : Int) (w : World) (h0 : w.cell? ⟨g, 0, none⟩ = some (.int .i64 (c))) (h1 : w.cell? ⟨g, 1, none⟩ = some (.int .i64 (d))) :
    Calls Try.prog 113 #[.slice (some ⟨g, 0, none⟩) 2 2] w fun e w' => e = .returned (.int .i64 (if c = 0 then d else c)) ∧ w = w' := by
  by_cases hc : c = 0
  · rw [if_pos hc]
    have b0 : (c == 0) = true := by simpa using hc
    have b1 : (c != 0) = false := by simpa using hc
    have HC := hid hc; clear hc
    by_cases hd : d = 0
    · have b2 : (d == 0) = true := by simpa using hd
      have b3 : (d != 0) = false := by simpa using hd
      have HD := hid hd; clear hd
      go_enter Try.func113, Try.ntmps113
      go_wp2_with fail
      refine wp_loop_rounds 3 ?_
      rw [rounds_succ]
      go_wp2_with fail
      rw [rounds_succ]
      go_wp2_with fail
      rw [rounds_succ]
      go_wp2_with fail
      go_ret
      exact ⟨by rw [HD.out]; rfl, rfl⟩
    · have b2 : (d == 0) = false := by simpa using hd
      have b3 : (d != 0) = true := by simpa using hd
      clear hd
      go_enter Try.func113, Try.ntmps113
      go_wp2_with fail
      refine wp_loop_rounds 3 ?_
      rw [rounds_succ]
      go_wp2_with fail
      rw [rounds_succ]
      go_wp2_with fail
      go_ret
      exact ⟨rfl, rfl⟩
  · rw [if_neg hc]
    have b0 : (c == 0) = false := by simpa using hc
    have b1 : (c != 0) = true := by simpa using hc
    clear hc
    go_enter Try.func113, Try.ntmps113
    go_wp2_with fail
    refine wp_loop_rounds 3 ?_
    rw [rounds_succ]
    go_wp2_with fail
    go_ret
    exact ⟨rfl, rfl⟩

set_option maxRecDepth 100000 in
set_option maxHeartbeats 2000000 in
theorem compare_any (a b c d : Int) (w : World) : Calls Try.prog 56 #[.agg #[(.int .u64 (a)), (.int .u64 (b))], .agg #[(.int .u64 (c)), (.int .u64 (d))]] w fun e w' => e = .returned (.int .i64 (pcmp (a, b) (c, d))) ∧ Below w.heap.size w w' := by
  have C1 := hid (fun W => cmp_any a c W)
  have C2 := hid (fun W => cmp_any b d W)
  have E : Hid (pcmp (a, b) (c, d) = if cmpI a c = 0 then cmpI b d else cmpI a c) := rfl
  rw [E.out]
  generalize cmpI a c = x at *
  generalize cmpI b d = y at *
  have O := hid (fun g W h0 h1 => or_any g x y W h0 h1)
  clear E
  generalize (if x = 0 then y else x) = z at *
  go_enter Try.func56, Try.ntmps56
  go_wp2_with fail
  go_region_held3 (fun W => W.cell? ⟨w.heap.size, 0, none⟩ = some (.int .u64 (a)) ∧ W.cell? ⟨w.heap.size, 1, none⟩ = some (.int .u64 (b)) ∧ W.cell? ⟨(w.heap.size + 1), 0, none⟩ = some (.int .u64 (c)) ∧ W.cell? ⟨(w.heap.size + 1), 1, none⟩ = some (.int .u64 (d))) (first | assumption | go_keep)
    (first | (go_at_call_of 114 a; refine (C1.out _).mono ?_; rintro e wa ⟨rfl, rfl⟩) | (go_at_call_of 114 b; refine (C2.out _).mono ?_; rintro e wa ⟨rfl, rfl⟩) | (go_at_call 113; refine (O.out _ _ (by go_simp) (by go_simp)).mono ?_; rintro e wa ⟨rfl, rfl⟩))
  all_goals
    go_wp2_with fail
    go_ret
    refine ⟨rfl, ?_⟩
    repeat' (first | exact Below.refl _ _ | with_reducible refine Below.alloc ?_ ?_ _ | with_reducible refine Below.setCell ?_ ?_ _ | with_reducible refine Below.drew ?_ | with_reducible refine below_drewN ?_ _ | refine Below.trans ?_ (Below.mono (by assumption) ?_))
    all_goals (first | omega | (simp <;> omega))

set_option maxRecDepth 100000 in
set_option maxHeartbeats 1000000 in
theorem ahead_any (a b c d : Int) (w : World) : Calls Try.prog 60 #[.agg #[(.int .u64 (a)), (.int .u64 (b))], .agg #[(.int .u64 (c)), (.int .u64 (d))]] w fun e w' => e = .returned (.bool (decide (lt (a, b) (c, d)))) ∧ Below w.heap.size w w' := by
  by_cases h1 : a < c
  · have e : decide (lt (a, b) (c, d)) = true := by simp [lt, h1]
    rw [e]
    go_enter Try.func60, Try.ntmps60
    go_wp2_with fail
    go_ret
    refine ⟨rfl, ?_⟩
    repeat' (first | exact Below.refl _ _ | with_reducible refine Below.alloc ?_ ?_ _ | with_reducible refine Below.setCell ?_ ?_ _ | with_reducible refine Below.drew ?_ | with_reducible refine below_drewN ?_ _ | refine Below.trans ?_ (Below.mono (by assumption) ?_))
    all_goals (first | omega | (simp <;> omega))
  · by_cases h2 : a = c
    · by_cases h3 : b < d
      · have e : decide (lt (a, b) (c, d)) = true := by simp [lt, h2, h3]
        rw [e]
        have q : (a == c) = true := by simpa using h2
        clear h2
        go_enter Try.func60, Try.ntmps60
        go_wp2_with fail
        go_ret
        refine ⟨rfl, ?_⟩
        repeat' (first | exact Below.refl _ _ | with_reducible refine Below.alloc ?_ ?_ _ | with_reducible refine Below.setCell ?_ ?_ _ | with_reducible refine Below.drew ?_ | with_reducible refine below_drewN ?_ _ | refine Below.trans ?_ (Below.mono (by assumption) ?_))
        all_goals (first | omega | (simp <;> omega))
      · have e : decide (lt (a, b) (c, d)) = false := by simp [lt, h2, h3]
        rw [e]
        have q : (a == c) = true := by simpa using h2
        clear h2
        go_enter Try.func60, Try.ntmps60
        go_wp2_with fail
        go_ret
        refine ⟨rfl, ?_⟩
        repeat' (first | exact Below.refl _ _ | with_reducible refine Below.alloc ?_ ?_ _ | with_reducible refine Below.setCell ?_ ?_ _ | with_reducible refine Below.drew ?_ | with_reducible refine below_drewN ?_ _ | refine Below.trans ?_ (Below.mono (by assumption) ?_))
        all_goals (first | omega | (simp <;> omega))
    · have e : decide (lt (a, b) (c, d)) = false := by simp [lt, h1, h2]
      rw [e]
      have q : (a == c) = false := by simpa using h2
      clear h2
      go_enter Try.func60, Try.ntmps60
      go_wp2_with fail
      go_ret
      refine ⟨rfl, ?_⟩
      repeat' (first | exact Below.refl _ _ | with_reducible refine Below.alloc ?_ ?_ _ | with_reducible refine Below.setCell ?_ ?_ _ | with_reducible refine Below.drew ?_ | with_reducible refine below_drewN ?_ _ | refine Below.trans ?_ (Below.mono (by assumption) ?_))
      all_goals (first | omega | (simp <;> omega))
end Go.Proofs.Ytlkdkhmdmgchbaa
