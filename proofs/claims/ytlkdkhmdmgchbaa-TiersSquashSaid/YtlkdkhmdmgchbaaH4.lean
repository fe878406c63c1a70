/- the program's runs: sides, merged. -/
import Derived.Test.YtlkdkhmdmgchbaaH3
namespace Go.Proofs.Ytlkdkhmdmgchbaa
set_option linter.unusedSimpArgs false
set_option linter.unusedVariables false
open Go.RowKit

set_option maxRecDepth 100000 in
theorem both_any (x y : Bool) (w : World) : Calls Try.prog 133 #[.agg #[.bool x, .bool y]] w fun e w' => e = .returned (.bool (x && y)) ∧ Below w.heap.size w w' := by
  cases x <;> cases y
  all_goals
    go_enter Try.func133, Try.ntmps133
    go_wp2_with fail
    go_ret
    refine ⟨rfl, ?_⟩
    repeat' (first | exact Below.refl _ _ | with_reducible refine Below.alloc ?_ ?_ _ | with_reducible refine Below.setCell ?_ ?_ _ | with_reducible refine Below.drew ?_ | with_reducible refine below_drewN ?_ _ | refine Below.trans ?_ (Below.mono (by assumption) ?_))
    all_goals (first | omega | (simp <;> omega))
set_option maxRecDepth 100000 in
theorem either_any (x y : Bool) (w : World) : Calls Try.prog 130 #[.agg #[.bool x, .bool y]] w fun e w' => e = .returned (.bool (x || y)) ∧ Below w.heap.size w w' := by
  cases x <;> cases y
  all_goals
    go_enter Try.func130, Try.ntmps130
    go_wp2_with fail
    go_ret
    refine ⟨rfl, ?_⟩
    repeat' (first | exact Below.refl _ _ | with_reducible refine Below.alloc ?_ ?_ _ | with_reducible refine Below.setCell ?_ ?_ _ | with_reducible refine Below.drew ?_ | with_reducible refine below_drewN ?_ _ | refine Below.trans ?_ (Below.mono (by assumption) ?_))
    all_goals (first | omega | (simp <;> omega))
set_option maxRecDepth 100000 in
theorem alone_any (x y : Bool) (w : World) : Calls Try.prog 131 #[.agg #[.bool x, .bool y]] w fun e w' => e = .returned (.bool (x && !y)) ∧ Below w.heap.size w w' := by
  cases x <;> cases y
  all_goals
    go_enter Try.func131, Try.ntmps131
    go_wp2_with fail
    go_ret
    refine ⟨rfl, ?_⟩
    repeat' (first | exact Below.refl _ _ | with_reducible refine Below.alloc ?_ ?_ _ | with_reducible refine Below.setCell ?_ ?_ _ | with_reducible refine Below.drew ?_ | with_reducible refine below_drewN ?_ _ | refine Below.trans ?_ (Below.mono (by assumption) ?_))
    all_goals (first | omega | (simp <;> omega))
theorem merged_any (p1 p2 : Option Addr) (n1 k1 n2 k2 : Nat) (w : World) : Calls Try.prog 159 #[.slice p1 n1 k1, .slice p2 n2 k2] w fun e w' =>
    e = .returned (.func (.func 174) #[] #[.pointer (some ⟨w.heap.size, 0, none⟩), .pointer (some ⟨(w.heap.size + 1), 0, none⟩)]) ∧ (w.alloc (.cells #[.slice p1 n1 k1] 22)).alloc (.cells #[.slice p2 n2 k2] 22) = w' := by
  have hmf := @hmf
  go_enter Try.func159, Try.ntmps159
  go_wp2_with fail
  go_ret
  exact ⟨rfl, rfl⟩

/-- Meet's own test: it lays what it is told into a box of Meet's. -/
theorem holds_any (x y u v : Bool) (s0 : Nat) (w : World) (h0 : w.cell? ⟨s0, 0, none⟩ = some (.bool u)) (h1 : w.cell? ⟨s0, 1, none⟩ = some (.bool v)) (f0 : w.frozen? ⟨s0, 0, none⟩ = false) (f1 : w.frozen? ⟨s0, 1, none⟩ = false) :
    Calls Try.prog 132 #[.agg #[.bool x, .bool y], .pointer (some ⟨s0, 0, none⟩)] w fun e w' => e = .returned (.bool (x && y)) ∧ Keeps (fun k => k ≠ s0) w w' ∧
      w'.cell? ⟨s0, 0, none⟩ = some (.bool x) ∧ w'.cell? ⟨s0, 1, none⟩ = some (.bool y) ∧ w'.frozen? ⟨s0, 0, none⟩ = false ∧ w'.frozen? ⟨s0, 1, none⟩ = false := by
  have hmf := @hmf
  have hs := World.lt_of_cell h0
  go_enter Try.func132, Try.ntmps132
  go_wp2_with fail
  refine (both_any x y _).mono ?_
  rintro e w1 ⟨rfl, B⟩
  have hsz := B.size
  simp at hsz
  have k : Keeps (fun k => k ≠ s0) w w1 := by
    refine Keeps.trans ?_ (Keeps.of_below B)
    repeat' (first | exact Keeps.refl _ _ | with_reducible refine Keeps.alloc ?_ _ | with_reducible refine Keeps.setCell ?_ (Or.inr (by simp)) _)
  have K := hid k; clear k
  have r0 : w1.cell? ⟨s0, 0, none⟩ = some (.bool x) := cellB B (by go_simp)
  have r1 : w1.cell? ⟨s0, 1, none⟩ = some (.bool y) := cellB B (by go_simp)
  have r2 : w1.frozen? ⟨s0, 0, none⟩ = false := (B.frozen (p := ⟨s0, 0, none⟩) (by simp; omega)).trans (by go_simp)
  have r3 : w1.frozen? ⟨s0, 1, none⟩ = false := (B.frozen (p := ⟨s0, 1, none⟩) (by simp; omega)).trans (by go_simp)
  go_wp2_with fail
  go_ret
  exact ⟨rfl, K.out, r0, r1, r2, r3⟩
end Go.Proofs.Ytlkdkhmdmgchbaa
