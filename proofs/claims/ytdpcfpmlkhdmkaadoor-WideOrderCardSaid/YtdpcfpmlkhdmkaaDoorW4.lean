/- wide: Add, Sub, Mul, Of. -/
import Derived.Test.YtdpcfpmlkhdmkaaDoorW3
namespace Go.Proofs.YtdpcfpmlkhdmkaaDoor
open Go.RowKit

theorem of_any (n : Int) (w : World) : Calls Tryd.prog 13 #[(.int .u64 (n))] w fun e w' => e = .returned (.agg #[(.int .u64 (0)), (.int .u64 (n))]) ∧ Below w.heap.size w w' := by
  go_enter Tryd.func13, Tryd.ntmps13
  go_wp2
  refine bodyPost_ret (v := .agg #[(.int .u64 (0)), (.int .u64 (n))]) (by simp [results, Tryd.results13, go_sem]) rfl ⟨rfl, ?_⟩
  repeat' (first | exact Below.refl _ _ | with_reducible refine Below.alloc ?_ ?_ _ | with_reducible refine Below.setCell ?_ ?_ _ | with_reducible refine Below.drew ?_ | with_reducible refine below_drewN ?_ _ | refine Below.trans ?_ (Below.mono (by assumption) ?_))
  all_goals (first | omega | (simp <;> omega))

theorem hmf {fn : Fn} {first cap : Array Value} {w : World} : (Instr.makeFunc fn first cap).run Tryd.prog w = .ok (.func fn first cap) w := rfl

theorem W128.lt {a b : Int} (ha : U64 a) (hb : U64 b) : 0 ≤ W128 a b ∧ W128 a b < M * M := by
  unfold U64 W128 at *; rw [M_eq] at *; omega

set_option maxRecDepth 100000 in
theorem add_any (a b c d : Int) (w : World) (ha : U64 a) (hb : U64 b) (hc : U64 c) (hd : U64 d) :
   Calls Tryd.prog 20 #[.agg #[.int .u64 a, .int .u64 b], .agg #[.int .u64 c, .int .u64 d]] w (Checked (W128 a b + W128 c d) w) := by
  have hmf := @hmf
  go_enter Tryd.func20, Tryd.ntmps20
  go_wp2_with fail
  refine (checked_any 42 _ (W128 a b + W128 c d) _ (by intro w; simp [go_sem]) ?_).mono ?_
  · intro w1 B
    obtain ⟨k_0, k_1, k_f0, k_f1⟩ := keep2 B (b := w.heap.size) (x0 := (.int .u64 (a))) (x1 := (.int .u64 (b))) (by first | omega | (simp <;> omega)) (by first | assumption | go_simp) (by first | assumption | go_simp) (by first | assumption | go_simp) (by first | assumption | go_simp)
    obtain ⟨m_0, m_1, m_f0, m_f1⟩ := keep2 B (b := (w.heap.size + 1)) (x0 := (.int .u64 (c))) (x1 := (.int .u64 (d))) (by first | omega | (simp <;> omega)) (by first | assumption | go_simp) (by first | assumption | go_simp) (by first | assumption | go_simp) (by first | assumption | go_simp)
    have zz := B.size
    simp at zz
    exact add1 a b c d _ _ w1 ha hb hc hd k_0 k_1 m_0 m_1 (by omega) (by omega)
  rintro e w1 ⟨B, ⟨hN, h, l, rfl, u1, u2, u3⟩ | ⟨hN, rfl⟩⟩
  · obtain ⟨k_0, k_1, k_f0, k_f1⟩ := keep2 B (b := (w.heap.size + 1 + 1)) (x0 := (.int .u64 (0))) (x1 := (.int .u64 (0))) (by first | omega | (simp <;> omega)) (by first | assumption | go_simp) (by first | assumption | go_simp) (by first | assumption | go_simp) (by first | assumption | go_simp)
    have U3 := hid u3; clear u3
    have HN := hid hN; clear hN
    go_wp2_with fail
    refine bodyPost_ret (v := .tuple #[.agg #[(.int .u64 (h)), (.int .u64 (l))], (.int .i64 (0))]) (by simp [results, Tryd.results20, go_sem, k_0, k_1]) rfl ⟨?_, Or.inl ⟨HN.out, _, _, rfl, u1, u2, U3.out⟩⟩
    have zz0 := B.size; try simp at zz0
    repeat' (first | exact Below.refl _ _ | with_reducible refine Below.alloc ?_ ?_ _ | with_reducible refine Below.setCell ?_ ?_ _ | with_reducible refine Below.drew ?_ | with_reducible refine below_drewN ?_ _ | refine Below.trans ?_ (Below.mono (by assumption) ?_))
    all_goals (first | omega | (simp <;> omega))
  · obtain ⟨k_0, k_1, k_f0, k_f1⟩ := keep2 B (b := (w.heap.size + 1 + 1)) (x0 := (.int .u64 (0))) (x1 := (.int .u64 (0))) (by first | omega | (simp <;> omega)) (by first | assumption | go_simp) (by first | assumption | go_simp) (by first | assumption | go_simp) (by first | assumption | go_simp)
    have HN := hid hN; clear hN
    go_wp2_with fail
    refine bodyPost_ret (v := .tuple #[.agg #[(.int .u64 (0)), (.int .u64 (0))], (.int .i64 (110))]) (by simp [results, Tryd.results20, go_sem, k_0, k_1]) rfl ⟨?_, Or.inr ⟨Int.not_lt.2 HN.out, rfl⟩⟩
    have zz0 := B.size; try simp at zz0
    repeat' (first | exact Below.refl _ _ | with_reducible refine Below.alloc ?_ ?_ _ | with_reducible refine Below.setCell ?_ ?_ _ | with_reducible refine Below.drew ?_ | with_reducible refine below_drewN ?_ _ | refine Below.trans ?_ (Below.mono (by assumption) ?_))
    all_goals (first | omega | (simp <;> omega))

set_option maxRecDepth 100000 in
theorem mul_any (a b c d : Int) (w : World) (ha : U64 a) (hb : U64 b) (hc : U64 c) (hd : U64 d) :
   Calls Tryd.prog 22 #[.agg #[.int .u64 a, .int .u64 b], .agg #[.int .u64 c, .int .u64 d]] w (Checked (W128 a b * W128 c d) w) := by
  have hmf := @hmf
  go_enter Tryd.func22, Tryd.ntmps22
  go_wp2_with fail
  refine (checked_any 46 _ (W128 a b * W128 c d) _ (by intro w; simp [go_sem]) ?_).mono ?_
  · intro w1 B
    obtain ⟨k_0, k_1, k_f0, k_f1⟩ := keep2 B (b := w.heap.size) (x0 := (.int .u64 (a))) (x1 := (.int .u64 (b))) (by first | omega | (simp <;> omega)) (by first | assumption | go_simp) (by first | assumption | go_simp) (by first | assumption | go_simp) (by first | assumption | go_simp)
    obtain ⟨m_0, m_1, m_f0, m_f1⟩ := keep2 B (b := (w.heap.size + 1)) (x0 := (.int .u64 (c))) (x1 := (.int .u64 (d))) (by first | omega | (simp <;> omega)) (by first | assumption | go_simp) (by first | assumption | go_simp) (by first | assumption | go_simp) (by first | assumption | go_simp)
    have zz := B.size
    simp at zz
    exact mul1 a b c d _ _ w1 ha hb hc hd k_0 k_1 m_0 m_1 (by omega) (by omega)
  rintro e w1 ⟨B, ⟨hN, h, l, rfl, u1, u2, u3⟩ | ⟨hN, rfl⟩⟩
  · obtain ⟨k_0, k_1, k_f0, k_f1⟩ := keep2 B (b := (w.heap.size + 1 + 1)) (x0 := (.int .u64 (0))) (x1 := (.int .u64 (0))) (by first | omega | (simp <;> omega)) (by first | assumption | go_simp) (by first | assumption | go_simp) (by first | assumption | go_simp) (by first | assumption | go_simp)
    have U3 := hid u3; clear u3
    have HN := hid hN; clear hN
    go_wp2_with fail
    refine bodyPost_ret (v := .tuple #[.agg #[(.int .u64 (h)), (.int .u64 (l))], (.int .i64 (0))]) (by simp [results, Tryd.results22, go_sem, k_0, k_1]) rfl ⟨?_, Or.inl ⟨HN.out, _, _, rfl, u1, u2, U3.out⟩⟩
    have zz0 := B.size; try simp at zz0
    repeat' (first | exact Below.refl _ _ | with_reducible refine Below.alloc ?_ ?_ _ | with_reducible refine Below.setCell ?_ ?_ _ | with_reducible refine Below.drew ?_ | with_reducible refine below_drewN ?_ _ | refine Below.trans ?_ (Below.mono (by assumption) ?_))
    all_goals (first | omega | (simp <;> omega))
  · obtain ⟨k_0, k_1, k_f0, k_f1⟩ := keep2 B (b := (w.heap.size + 1 + 1)) (x0 := (.int .u64 (0))) (x1 := (.int .u64 (0))) (by first | omega | (simp <;> omega)) (by first | assumption | go_simp) (by first | assumption | go_simp) (by first | assumption | go_simp) (by first | assumption | go_simp)
    have HN := hid hN; clear hN
    go_wp2_with fail
    refine bodyPost_ret (v := .tuple #[.agg #[(.int .u64 (0)), (.int .u64 (0))], (.int .i64 (110))]) (by simp [results, Tryd.results22, go_sem, k_0, k_1]) rfl ⟨?_, Or.inr ⟨Int.not_lt.2 HN.out, rfl⟩⟩
    have zz0 := B.size; try simp at zz0
    repeat' (first | exact Below.refl _ _ | with_reducible refine Below.alloc ?_ ?_ _ | with_reducible refine Below.setCell ?_ ?_ _ | with_reducible refine Below.drew ?_ | with_reducible refine below_drewN ?_ _ | refine Below.trans ?_ (Below.mono (by assumption) ?_))
    all_goals (first | omega | (simp <;> omega))

/-- a difference: the number, or an overflow. -/
def Diff (N : Int) (w : World) (e : Ending) (w' : World) : Prop :=
  Below w.heap.size w w' ∧ ((0 ≤ N ∧ ∃ h l, e = .returned (.tuple #[.agg #[.int .u64 h, .int .u64 l], .int .i64 0]) ∧ U64 h ∧ U64 l ∧ W128 h l = N) ∨
    (N < 0 ∧ e = .returned (.tuple #[.agg #[.int .u64 0, .int .u64 0], .int .i64 110])))

theorem subNum {N : Int} (h : N < M * M) : (SubNum N < M * M ↔ 0 ≤ N) ∧ (0 ≤ N → SubNum N = N) := by
  unfold SubNum; split <;> omega

set_option maxRecDepth 100000 in
theorem sub_any (a b c d : Int) (w : World) (ha : U64 a) (hb : U64 b) (hc : U64 c) (hd : U64 d) :
   Calls Tryd.prog 21 #[.agg #[.int .u64 a, .int .u64 b], .agg #[.int .u64 c, .int .u64 d]] w (Diff (W128 a b - W128 c d) w) := by
  have hmf := @hmf
  have hlt : Hid ((SubNum (W128 a b - W128 c d) < M * M ↔ 0 ≤ (W128 a b - W128 c d)) ∧ (0 ≤ (W128 a b - W128 c d) → SubNum (W128 a b - W128 c d) = (W128 a b - W128 c d))) := subNum (by
    have := W128.lt ha hb; have := W128.lt hc hd; omega)
  go_enter Tryd.func21, Tryd.ntmps21
  go_wp2_with fail
  refine (checked_any 43 _ (SubNum (W128 a b - W128 c d)) _ (by intro w; simp [go_sem]) ?_).mono ?_
  · intro w1 B
    obtain ⟨k_0, k_1, k_f0, k_f1⟩ := keep2 B (b := w.heap.size) (x0 := (.int .u64 (a))) (x1 := (.int .u64 (b))) (by first | omega | (simp <;> omega)) (by first | assumption | go_simp) (by first | assumption | go_simp) (by first | assumption | go_simp) (by first | assumption | go_simp)
    obtain ⟨m_0, m_1, m_f0, m_f1⟩ := keep2 B (b := (w.heap.size + 1)) (x0 := (.int .u64 (c))) (x1 := (.int .u64 (d))) (by first | omega | (simp <;> omega)) (by first | assumption | go_simp) (by first | assumption | go_simp) (by first | assumption | go_simp) (by first | assumption | go_simp)
    have zz := B.size
    simp at zz
    refine (sub1 a b c d _ _ w1 ha hb hc hd k_0 k_1 m_0 m_1 (by omega) (by omega)).mono ?_
    rintro e w2 ⟨B2, ⟨hN, h, l, rfl, u1, u2, u3⟩ | ⟨hN, rfl⟩⟩
    · exact ⟨B2, Or.inl ⟨hlt.out.1.2 hN, h, l, rfl, u1, u2, by rw [u3, hlt.out.2 hN]⟩⟩
    · refine ⟨B2, Or.inr ⟨fun h => ?_, rfl⟩⟩
      have := hlt.out.1.1 h; omega
  rintro e w1 ⟨B, ⟨hN, h, l, rfl, u1, u2, u3⟩ | ⟨hN, rfl⟩⟩
  · obtain ⟨k_0, k_1, k_f0, k_f1⟩ := keep2 B (b := (w.heap.size + 1 + 1)) (x0 := (.int .u64 (0))) (x1 := (.int .u64 (0))) (by first | omega | (simp <;> omega)) (by first | assumption | go_simp) (by first | assumption | go_simp) (by first | assumption | go_simp) (by first | assumption | go_simp)
    have hN' := hlt.out.1.1 hN
    rw [hlt.out.2 hN'] at u3
    have U3 := hid u3; clear u3
    have HN := hid hN'; clear hN hN'
    go_wp2_with fail
    refine bodyPost_ret (v := .tuple #[.agg #[(.int .u64 (h)), (.int .u64 (l))], (.int .i64 (0))]) (by simp [results, Tryd.results21, go_sem, k_0, k_1]) rfl ⟨?_, Or.inl ⟨HN.out, _, _, rfl, u1, u2, U3.out⟩⟩
    have zz0 := B.size; try simp at zz0
    repeat' (first | exact Below.refl _ _ | with_reducible refine Below.alloc ?_ ?_ _ | with_reducible refine Below.setCell ?_ ?_ _ | with_reducible refine Below.drew ?_ | with_reducible refine below_drewN ?_ _ | refine Below.trans ?_ (Below.mono (by assumption) ?_))
    all_goals (first | omega | (simp <;> omega))
  · obtain ⟨k_0, k_1, k_f0, k_f1⟩ := keep2 B (b := (w.heap.size + 1 + 1)) (x0 := (.int .u64 (0))) (x1 := (.int .u64 (0))) (by first | omega | (simp <;> omega)) (by first | assumption | go_simp) (by first | assumption | go_simp) (by first | assumption | go_simp) (by first | assumption | go_simp)
    have HN : Hid (W128 a b - W128 c d < 0) := by
      show _ < _
      have := hlt.out.1.2; omega
    clear hN
    go_wp2_with fail
    refine bodyPost_ret (v := .tuple #[.agg #[(.int .u64 (0)), (.int .u64 (0))], (.int .i64 (110))]) (by simp [results, Tryd.results21, go_sem, k_0, k_1]) rfl ⟨?_, Or.inr ⟨HN.out, rfl⟩⟩
    have zz0 := B.size; try simp at zz0
    repeat' (first | exact Below.refl _ _ | with_reducible refine Below.alloc ?_ ?_ _ | with_reducible refine Below.setCell ?_ ?_ _ | with_reducible refine Below.drew ?_ | with_reducible refine below_drewN ?_ _ | refine Below.trans ?_ (Below.mono (by assumption) ?_))
    all_goals (first | omega | (simp <;> omega))
end Go.Proofs.YtdpcfpmlkhdmkaaDoor
