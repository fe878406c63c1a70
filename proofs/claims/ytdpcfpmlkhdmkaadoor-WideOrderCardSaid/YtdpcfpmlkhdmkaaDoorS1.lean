/- wide: Sum. -/
import Derived.Test.YtdpcfpmlkhdmkaaDoorW4
namespace Go.Proofs.YtdpcfpmlkhdmkaaDoor
open Go.RowKit

/-- the slice reads as these wide numbers. -/
def WRow (w : World) (v : Value) (l : List (Int × Int)) : Prop :=
  ∃ p cap, v = .slice p l.length cap ∧ l.length ≤ cap ∧ (p = none → cap = 0) ∧ (0 < l.length → ∃ g o : Nat, p = some ⟨g, o, none⟩ ∧ ∀ j x, l[j]? = some x → w.cell? ⟨g, o + j * 2, none⟩ = some (.int .u64 (x.1)) ∧ w.cell? ⟨g, o + j * 2 + 1, none⟩ = some (.int .u64 (x.2)))
theorem WRow.below {w w' : World} {v : Value} {l : List (Int × Int)} (h : WRow w v l) (hb : Below w.heap.size w w') : WRow w' v l := by
  obtain ⟨p, cap, e, h1, h2, h3⟩ := h
  refine ⟨p, cap, e, h1, h2, fun hl => ?_⟩
  obtain ⟨g, o, e, h3⟩ := h3 hl
  exact ⟨g, o, e, fun j x hj => ⟨(hb.cell (p := ⟨g, o + j * 2, none⟩) (World.block_lt_of_cell? _ _ (h3 j x hj).1)).trans (h3 j x hj).1, (hb.cell (p := ⟨g, o + j * 2 + 1, none⟩) (World.block_lt_of_cell? _ _ (h3 j x hj).2)).trans (h3 j x hj).2⟩⟩
theorem WRow.form {w : World} {v : Value} {l : List (Int × Int)} (h : WRow w v l) : ∃ p cap, v = .slice p l.length cap := by
  obtain ⟨p, cap, e, _⟩ := h
  exact ⟨p, cap, e⟩
theorem WRow.take {w : World} {p : Option Addr} {cap : Nat} {l : List (Int × Int)} (h : WRow w (.slice p l.length cap) l) (k : Nat) (hk : k ≤ l.length) : WRow w (.slice p k cap) (l.take k) := by
  obtain ⟨p', cap', e, h1, h2, h3⟩ := h
  simp only [Value.slice.injEq, true_and] at e
  obtain ⟨rfl, rfl⟩ := e
  refine ⟨p, cap, by simp [Nat.min_eq_left hk], by simp; omega, h2, fun hl => ?_⟩
  simp at hl
  obtain ⟨g, o, e, h3⟩ := h3 (by omega)
  refine ⟨g, o, e, fun j x hj => h3 j x ?_⟩
  rw [List.getElem?_take] at hj
  split at hj
  · exact hj
  · cases hj
theorem WRow.cell {w : World} {v : Value} {l : List (Int × Int)} (h : WRow w v l) (hl : 0 < l.length) : ∃ g o cap : Nat, v = .slice (some ⟨g, o, none⟩) l.length cap ∧ ∀ k (hk : k < l.length), w.cell? ⟨g, o + k * 2, none⟩ = some (.int .u64 (l[k].1)) ∧ w.cell? ⟨g, o + k * 2 + 1, none⟩ = some (.int .u64 (l[k].2)) := by
  obtain ⟨p, cap, e, h1, h2, hx⟩ := h
  obtain ⟨g, o, rfl, hx'⟩ := hx hl
  exact ⟨g, o, cap, e, fun k hk => hx' k _ (List.getElem?_eq_getElem hk)⟩
def WU (l : List (Int × Int)) : Prop := ∀ x ∈ l, U64 x.1 ∧ U64 x.2
def sumW : List (Int × Int) → Int
  | [] => 0
  | x :: l => W128 x.1 x.2 + sumW l
theorem sumW_append (l m : List (Int × Int)) : sumW (l ++ m) = sumW l + sumW m := by
  induction l with
  | nil => simp [sumW]
  | cons x l ih => simp only [List.cons_append, sumW, ih]; omega
theorem sumW_nonneg {l : List (Int × Int)} (h : WU l) : 0 ≤ sumW l := by
  induction l with
  | nil => exact Int.le_refl _
  | cons x l ih =>
    have h1 := h x (List.mem_cons_self ..)
    have := W128.lt h1.1 h1.2
    have := ih (fun y hy => h y (List.mem_cons_of_mem _ hy))
    simp only [sumW]; omega
theorem sumW_take_succ (l : List (Int × Int)) (k : Nat) (h : k < l.length) : sumW (l.take (k + 1)) = sumW (l.take k) + W128 l[k].1 l[k].2 := by
  rw [List.take_succ_eq_append_getElem h, sumW_append]; simp [sumW]
theorem sumW_take_le {l : List (Int × Int)} (h : WU l) (k : Nat) : sumW (l.take k) ≤ sumW l := by
  have e : sumW l = sumW (l.take k) + sumW (l.drop k) := by rw [← sumW_append, List.take_append_drop]
  have := sumW_nonneg (l := l.drop k) (fun y hy => h y (List.mem_of_mem_drop hy))
  omega

theorem sumW_le {l : List (Int × Int)} (h : WU l) : sumW l ≤ l.length * (M * M) := by
  induction l with
  | nil => simp [sumW]
  | cons x l ih =>
    have h1 := h x (List.mem_cons_self ..)
    have := W128.lt h1.1 h1.2
    have := ih (fun y hy => h y (List.mem_cons_of_mem _ hy))
    simp only [sumW, List.length_cons]
    have e : ((l.length + 1 : Nat) : Int) * (M * M) = l.length * (M * M) + M * M := by rw [Int.natCast_add, Int.add_mul]; simp
    omega

structure SumI (w : World) (l : List (Int × Int)) (v7 : Value) (k : Nat) (h1 l1 : Int) (wr : World) : Prop where
  e7 : v7 = (.int .i64 (k))
  hk : k ≤ l.length
  bel : Below w.heap.size w wr
  size : (w.heap.size + 1 + 1) ≤ wr.heap.size
  c0 : wr.cell? ⟨(w.heap.size + 1), 0, none⟩ = some (.int .u64 (h1))
  c1 : wr.cell? ⟨(w.heap.size + 1), 1, none⟩ = some (.int .u64 (l1))
  f0 : wr.frozen? ⟨(w.heap.size + 1), 0, none⟩ = false
  f1 : wr.frozen? ⟨(w.heap.size + 1), 1, none⟩ = false
  r0 : wr.cell? ⟨w.heap.size, 0, none⟩ = some (.int .u64 (0))
  r1 : wr.cell? ⟨w.heap.size, 1, none⟩ = some (.int .u64 (0))
  rf0 : wr.frozen? ⟨w.heap.size, 0, none⟩ = false
  rf1 : wr.frozen? ⟨w.heap.size, 1, none⟩ = false
  uh : U64 h1
  ul : U64 l1
  sum : Hid (W128 h1 l1 = sumW (l.take k))

set_option maxRecDepth 100000 in
set_option maxHeartbeats 1000000 in
theorem sum1 (p : Nat) (v : Value) (l : List (Int × Int)) (w : World) (hp : w.cell? ⟨p, 0, none⟩ = some v) (hr : WRow w v l) (hu : WU l) (hlen : l.length ≤ 1000000) :
    Calls Tryd.prog 40 #[.pointer (some ⟨p, 0, none⟩)] w (WideOr (sumW l) w) := by
  obtain ⟨pa, ca, rfl⟩ := hr.form
  have HR := hid hr; have HU := hid hu
  have hps : p < w.heap.size := World.block_lt_of_cell? _ _ hp
  clear hr hu
  go_enter Tryd.func40, Tryd.ntmps40
  go_wp2_with fail
  go_loopw [7] (fun v7 wr => ∃ k h1 l1, SumI w l v7 k h1 l1 wr) (fun v7 _ => l.length - (intOf v7).toNat)
  case atStart =>
    refine ⟨0, 0, 0, rfl, Nat.zero_le _, ?_, by simp, by go_simp, by go_simp, by go_simp, by go_simp, by go_simp, by go_simp, by go_simp, by go_simp, U64.zero, U64.zero, rfl⟩
    repeat' (first | exact Below.refl _ _ | with_reducible refine Below.alloc ?_ ?_ _ | with_reducible refine Below.setCell ?_ ?_ _ | with_reducible refine Below.drew ?_ | with_reducible refine below_drewN ?_ _ | refine Below.trans ?_ (Below.mono (by assumption) ?_))
    all_goals (first | omega | (simp <;> omega))
  case round =>
    obtain ⟨k, h1, l1, I⟩ := hrel
    obtain ⟨rfl, hk, bel, size, c0, c1, f0, f1, r0, r1, rf0, rf1, uh, ul, sum⟩ := I
    have BEL := hid bel; clear bel
    by_cases hgo : k < l.length
    · have hgo' : (k : Int) < (l.length : Int) := by omega
      obtain ⟨g, o, cap, hv, hcell⟩ := (HR.out.below BEL.out).cell (by omega)
      simp only [Value.slice.injEq, true_and] at hv
      obtain ⟨rfl, rfl⟩ := hv
      obtain ⟨d0, d1⟩ := hcell k hgo
      clear hcell
      have SU := hid (sumW_take_succ l k hgo)
      have LE := hid (sumW_take_le HU.out (k + 1))
      obtain ⟨u0, u1⟩ := HU.out l[k] (List.getElem_mem hgo)
      generalize l[k] = x at *
      obtain ⟨x0, x1⟩ := x
      simp only at d0 d1 u0 u1
      have z0 : w.heap.size < wr.heap.size := by omega
      have z1 : w.heap.size + 1 < wr.heap.size := by omega
      clear hp
      go_wp2_with fail
      ((with_reducible refine (plus_any _ _ _ _ _ uh ul u0 u1).mono ?_); rintro e w1 ⟨B1, ⟨u2, h2, l2, rfl, uh2, ul2, u3⟩ | ⟨u3, rfl⟩⟩)
      · have U3 := hid u3; clear u2 u3
        obtain ⟨m0_0, m0_1, m0_f0, m0_f1⟩ := keep2 B1 (b := w.heap.size) (x0 := (.int .u64 (0))) (x1 := (.int .u64 (0))) (by first | omega | (simp <;> omega)) (by first | assumption | go_simp) (by first | assumption | go_simp) (by first | assumption | go_simp) (by first | assumption | go_simp)
        obtain ⟨m1_0, m1_1, m1_f0, m1_f1⟩ := keep2 B1 (b := (w.heap.size + 1)) (x0 := (.int .u64 (h1))) (x1 := (.int .u64 (l1))) (by first | omega | (simp <;> omega)) (by first | assumption | go_simp) (by first | assumption | go_simp) (by first | assumption | go_simp) (by first | assumption | go_simp)
        have ze := B1.size; try simp at ze
        have BN : Hid (Below w.heap.size w w1) := by
          have q := BEL.out
          show Below _ _ _
          have zz0 := q.size; try simp at zz0
          have zz1 := B1.size; try simp at zz1
          repeat' (first | exact Below.refl _ _ | with_reducible refine Below.alloc ?_ ?_ _ | with_reducible refine Below.setCell ?_ ?_ _ | with_reducible refine Below.drew ?_ | with_reducible refine below_drewN ?_ _ | refine Below.trans ?_ (Below.mono (by assumption) ?_))
          all_goals (first | omega | (simp <;> omega))
        clear c0 c1 f0 f1 r0 r1 rf0 rf1 d0 d1 B1
        go_wp2_with fail
        refine ⟨⟨k + 1, h2, l2, by simp, by omega, BN.out.setCell (by simp) _ |>.setCell (by simp) _, by simp; omega, by go_simp, by go_simp, by go_simp, by go_simp, by go_simp, by go_simp, by go_simp, by go_simp, uh2, ul2, ?_⟩, ?_⟩
        · show _ = _
          rw [U3.out, SU.out, sum.out]
        · simp [intOf]; omega
      · have q := BEL.out
        refine ⟨rfl, ?_, Or.inr ⟨?_, rfl⟩⟩
        · have zz0 := q.size; try simp at zz0
          have zz1 := B1.size; try simp at zz1
          repeat' (first | exact Below.refl _ _ | with_reducible refine Below.alloc ?_ ?_ _ | with_reducible refine Below.setCell ?_ ?_ _ | with_reducible refine Below.drew ?_ | with_reducible refine below_drewN ?_ _ | refine Below.trans ?_ (Below.mono (by assumption) ?_))
          all_goals (first | omega | (simp <;> omega))
        · have a := LE.out; rw [SU.out, ← sum.out] at a; omega
    · have h1' : ¬ (k : Int) < (l.length : Int) := by omega
      have E : Hid (W128 h1 l1 = sumW l) := by
        show _ = _
        rw [sum.out, List.take_of_length_le (by omega)]
      clear hgo
      go_wp2_with fail
      refine bodyPost_ret (v := .agg #[(.int .u64 (h1)), (.int .u64 (l1))]) (by simp [results, Tryd.results40, go_sem, r0, r1]) rfl ⟨?_, Or.inl ⟨?_, _, _, rfl, uh, ul, E.out⟩⟩
      · exact (BEL.out.setCell (Nat.le_refl _) _).setCell (Nat.le_refl _) _
      · rw [← E.out]; exact (W128.lt uh ul).2
set_option maxRecDepth 100000 in
set_option maxHeartbeats 1000000 in
theorem sum_any (v : Value) (l : List (Int × Int)) (w : World) (hr : WRow w v l) (hu : WU l) (hlen : l.length ≤ 1000000) : Calls Tryd.prog 18 #[v] w (Checked (sumW l) w) := by
  have hmf := @hmf
  obtain ⟨pa, ca, rfl⟩ := hr.form
  have B0 := Below.alloc (Below.alloc (Below.refl w.heap.size w) (Nat.le_refl _) (.cells #[.slice pa l.length ca] 22)) (by simp) (.cells #[(.int .u64 (0)), (.int .u64 (0))] 27)
  have HR := hid (hr.below B0); have HU := hid hu
  clear hr hu B0
  go_enter Tryd.func18, Tryd.ntmps18
  go_wp2_with fail
  refine (checked_any 40 _ (sumW l) _ (by intro w; simp [go_sem]) ?_).mono ?_
  · intro w1 B
    obtain k_0 := keepr1 B (b := w.heap.size) (x0 := .slice pa l.length ca) (by first | omega | (simp <;> omega)) (by first | assumption | go_simp)
    have := HR.out.below (B.mono (by simp))
    exact sum1 _ _ l w1 k_0 this HU.out hlen
  rintro e w1 ⟨B, ⟨hN, h, l, rfl, u1, u2, u3⟩ | ⟨hN, rfl⟩⟩
  · obtain ⟨k_0, k_1, k_f0, k_f1⟩ := keep2 B (b := (w.heap.size + 1)) (x0 := (.int .u64 (0))) (x1 := (.int .u64 (0))) (by first | omega | (simp <;> omega)) (by first | assumption | go_simp) (by first | assumption | go_simp) (by first | assumption | go_simp) (by first | assumption | go_simp)
    have U3 := hid u3; clear u3
    have HN := hid hN; clear hN
    go_wp2_with fail
    refine bodyPost_ret (v := .tuple #[.agg #[(.int .u64 (h)), (.int .u64 (l))], (.int .i64 (0))]) (by simp [results, Tryd.results18, go_sem, k_0, k_1]) rfl ⟨?_, Or.inl ⟨HN.out, _, _, rfl, u1, u2, U3.out⟩⟩
    have zz0 := B.size; try simp at zz0
    repeat' (first | exact Below.refl _ _ | with_reducible refine Below.alloc ?_ ?_ _ | with_reducible refine Below.setCell ?_ ?_ _ | with_reducible refine Below.drew ?_ | with_reducible refine below_drewN ?_ _ | refine Below.trans ?_ (Below.mono (by assumption) ?_))
    all_goals (first | omega | (simp <;> omega))
  · obtain ⟨k_0, k_1, k_f0, k_f1⟩ := keep2 B (b := (w.heap.size + 1)) (x0 := (.int .u64 (0))) (x1 := (.int .u64 (0))) (by first | omega | (simp <;> omega)) (by first | assumption | go_simp) (by first | assumption | go_simp) (by first | assumption | go_simp) (by first | assumption | go_simp)
    have HN := hid hN; clear hN
    go_wp2_with fail
    refine bodyPost_ret (v := .tuple #[.agg #[(.int .u64 (0)), (.int .u64 (0))], (.int .i64 (110))]) (by simp [results, Tryd.results18, go_sem, k_0, k_1]) rfl ⟨?_, Or.inr ⟨Int.not_lt.2 HN.out, rfl⟩⟩
    have zz0 := B.size; try simp at zz0
    repeat' (first | exact Below.refl _ _ | with_reducible refine Below.alloc ?_ ?_ _ | with_reducible refine Below.setCell ?_ ?_ _ | with_reducible refine Below.drew ?_ | with_reducible refine below_drewN ?_ _ | refine Below.trans ?_ (Below.mono (by assumption) ?_))
    all_goals (first | omega | (simp <;> omega))
end Go.Proofs.YtdpcfpmlkhdmkaaDoor
