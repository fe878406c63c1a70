/- the law WideAdds: its walk. -/
import Derived.Test.YtdpcfpmlkhdmkaaDoorR7
import Derived.Test.YtdpcfpmlkhdmkaaDoorR6
import Derived.Test.YtdpcfpmlkhdmkaaDoorW14
import Derived.Deep.DeepCutAuto
namespace Go.Proofs.YtdpcfpmlkhdmkaaDoor
open Go.RowKit

theorem cellB {w w' : World} {g o : Nat} {x : Value} (hb : Below w.heap.size w w') (h : w.cell? ⟨g, o, none⟩ = some x) : w'.cell? ⟨g, o, none⟩ = some x := (hb.cell (p := ⟨g, o, none⟩) (World.block_lt_of_cell? _ _ h)).trans h
/-- the slice reads as these pairs of wide numbers. -/
def QRow (w : World) (v : Value) (l : List (Int × Int × Int × Int)) : Prop :=
  ∃ p cap, v = .slice p l.length cap ∧ (0 < l.length → ∃ g o : Nat, p = some ⟨g, o, none⟩ ∧ ∀ j a b c d, l[j]? = some (a, b, c, d) → w.cell? ⟨g, o + j * 4, none⟩ = some (.int .u64 (a)) ∧ w.cell? ⟨g, o + j * 4 + 1, none⟩ = some (.int .u64 (b)) ∧ w.cell? ⟨g, o + j * 4 + 2, none⟩ = some (.int .u64 (c)) ∧ w.cell? ⟨g, o + j * 4 + 3, none⟩ = some (.int .u64 (d)))
theorem QRow.below {w w' : World} {v : Value} {l : List (Int × Int × Int × Int)} (h : QRow w v l) (hb : Below w.heap.size w w') : QRow w' v l := by
  obtain ⟨p, cap, e, h⟩ := h
  refine ⟨p, cap, e, fun hl => ?_⟩
  obtain ⟨g, o, e, h3⟩ := h hl
  exact ⟨g, o, e, fun j a b c d hj => ⟨cellB hb (h3 j a b c d hj).1, cellB hb (h3 j a b c d hj).2.1, cellB hb (h3 j a b c d hj).2.2.1, cellB hb (h3 j a b c d hj).2.2.2⟩⟩
theorem QRow.form {w : World} {v : Value} {l : List (Int × Int × Int × Int)} (h : QRow w v l) : ∃ p cap, v = .slice p l.length cap := by
  obtain ⟨p, cap, e, _⟩ := h
  exact ⟨p, cap, e⟩
theorem QRow.cell {w : World} {v : Value} {l : List (Int × Int × Int × Int)} (h : QRow w v l) (k : Nat) (hk : k < l.length) : ∃ g o cap : Nat, v = .slice (some ⟨g, o, none⟩) l.length cap ∧ ∃ a b c d, l[k] = (a, b, c, d) ∧ w.cell? ⟨g, o + k * 4, none⟩ = some (.int .u64 (a)) ∧ w.cell? ⟨g, o + k * 4 + 1, none⟩ = some (.int .u64 (b)) ∧ w.cell? ⟨g, o + k * 4 + 2, none⟩ = some (.int .u64 (c)) ∧ w.cell? ⟨g, o + k * 4 + 3, none⟩ = some (.int .u64 (d)) := by
  obtain ⟨p, cap, e, hx⟩ := h
  obtain ⟨g, o, rfl, hx'⟩ := hx (by omega)
  obtain ⟨a, b, c, d⟩ : ∃ a b c d, l[k] = (a, b, c, d) := ⟨_, _, _, _, rfl⟩
  exact ⟨g, o, cap, e, _, _, _, _, rfl, hx' k _ _ _ _ (List.getElem?_eq_getElem hk)⟩
def QU (l : List (Int × Int × Int × Int)) : Prop := ∀ a b c d, (a, b, c, d) ∈ l → U64 a ∧ U64 b ∧ U64 c ∧ U64 d

abbrev AS (w : World) (E : Nat) (a b c d : Int) (w' : World) : Prop :=
  Below w.heap.size w w' ∧ w'.cell? ⟨E, 0, none⟩ = some (.int .u64 (a)) ∧ w'.cell? ⟨E, 1, none⟩ = some (.int .u64 (b)) ∧ w'.cell? ⟨E, 2, none⟩ = some (.int .u64 (c)) ∧ w'.cell? ⟨E, 3, none⟩ = some (.int .u64 (d)) ∧ E < w'.heap.size
theorem AS.keep {w : World} {E : Nat} {a b c d : Int} {W W' : World} (h : AS w E a b c d W) (B : Below W.heap.size W W') : AS w E a b c d W' :=
  ⟨h.1.trans (B.mono h.1.size), cellB B h.2.1, cellB B h.2.2.1, cellB B h.2.2.2.1, cellB B h.2.2.2.2.1, by have := B.size; have := h.2.2.2.2.2; omega⟩

abbrev Bx (T : Nat) (x y : Int) (W : World) : Prop := W.cell? ⟨T, 0, none⟩ = some (.int .u64 (x)) ∧ W.cell? ⟨T, 1, none⟩ = some (.int .u64 (y)) ∧ T < W.heap.size
theorem Bx.keep {T : Nat} {x y : Int} {W W' : World} (h : Bx T x y W) (B : Below W.heap.size W W') : Bx T x y W' :=
  ⟨cellB B h.1, cellB B h.2.1, by have := B.size; have := h.2.2; omega⟩
theorem Bx.new (W : World) (x y : Int) (t : Nat) : Bx W.heap.size x y (W.alloc (.cells #[(.int .u64 (x)), (.int .u64 (y))] t)) := ⟨by go_simp, by go_simp, by simp⟩
theorem below_alloc (W : World) (o : Obj) : Below W.heap.size W (W.alloc o) := (Below.refl _ _).alloc (Nat.le_refl _) _
theorem below_drew (W : World) : Below W.heap.size W W.drew := (Below.refl _ _).drew
abbrev A3 (w : World) (E T8 T10 T12 : Nat) (a b c d x8 y8 x10 y10 x12 y12 : Int) (W : World) : Prop :=
  Below w.heap.size w W ∧ W.cell? ⟨E, 0, none⟩ = some (.int .u64 (a)) ∧ W.cell? ⟨E, 1, none⟩ = some (.int .u64 (b)) ∧ W.cell? ⟨E, 2, none⟩ = some (.int .u64 (c)) ∧ W.cell? ⟨E, 3, none⟩ = some (.int .u64 (d)) ∧ E < W.heap.size ∧ W.cell? ⟨T8, 0, none⟩ = some (.int .u64 (x8)) ∧ W.cell? ⟨T8, 1, none⟩ = some (.int .u64 (y8)) ∧ T8 < W.heap.size ∧ W.cell? ⟨T10, 0, none⟩ = some (.int .u64 (x10)) ∧ W.cell? ⟨T10, 1, none⟩ = some (.int .u64 (y10)) ∧ T10 < W.heap.size ∧ W.cell? ⟨T12, 0, none⟩ = some (.int .u64 (x12)) ∧ W.cell? ⟨T12, 1, none⟩ = some (.int .u64 (y12)) ∧ T12 < W.heap.size
theorem A3.keep {w : World} {E T8 T10 T12 : Nat} {a b c d x8 y8 x10 y10 x12 y12 : Int} {W W' : World} (h : A3 w E T8 T10 T12 a b c d x8 y8 x10 y10 x12 y12 W) (B : Below W.heap.size W W') : A3 w E T8 T10 T12 a b c d x8 y8 x10 y10 x12 y12 W' := by
  obtain ⟨h0, h1, h2, h3, h4, h5, h6, h7, h8, h9, h10, h11, h12, h13, h14⟩ := h
  have := B.size
  exact ⟨h0.trans (B.mono h0.size), cellB B h1, cellB B h2, cellB B h3, cellB B h4, by omega, cellB B h6, cellB B h7, by omega, cellB B h9, cellB B h10, by omega, cellB B h12, cellB B h13, by omega⟩
theorem Checked.got {N : Int} {w : World} {e : Ending} {w' : World} (h : Checked N w e w') : Below w.heap.size w w' ∧ ∃ x y c, e = .returned (.tuple #[.agg #[.int .u64 x, .int .u64 y], .int .i64 c]) ∧ Got N x y c := by
  obtain ⟨b, ⟨h1, x, y, rfl, h2, h3, h4⟩ | ⟨h1, rfl⟩⟩ := h
  · exact ⟨b, _, _, _, rfl, .inl ⟨h1, rfl, h2, h3, h4⟩⟩
  · exact ⟨b, _, _, _, rfl, .inr ⟨h1, rfl, rfl, rfl⟩⟩
theorem Diff.got {N : Int} {w : World} {e : Ending} {w' : World} (h : Diff N w e w') : Below w.heap.size w w' ∧ ∃ x y c, e = .returned (.tuple #[.agg #[.int .u64 x, .int .u64 y], .int .i64 c]) ∧ ((0 ≤ N ∧ Got N x y c) ∨ (N < 0 ∧ x = 0 ∧ y = 0 ∧ c = 110)) := by
  obtain ⟨b, ⟨h1, x, y, rfl, h2, h3, h4⟩ | ⟨h1, rfl⟩⟩ := h
  · exact ⟨b, _, _, _, rfl, .inl ⟨h1, .inl ⟨by rw [← h4]; exact (W128.lt h2 h3).2, rfl, h2, h3, h4⟩⟩⟩
  · exact ⟨b, _, _, _, rfl, .inr ⟨h1, rfl, rfl, rfl⟩⟩
theorem Num.row {w : World} {v : Value} {N : Int} (h : Num w v N) (hN : N < P16 10000) : ∃ l, Row w v l ∧ Digs l ∧ Trim l ∧ numD l = N ∧ l.length ≤ 10000 := by
  obtain ⟨l, h1, h2, h3, h4⟩ := h
  exact ⟨l, h1, h2, h3, h4, (h3.len h2 _).2 (by rw [h4]; exact hN)⟩
theorem MM_lt : M * M < P16 10000 := by
  have h : P16 9 ≤ P16 10000 := P16_le (by omega)
  have h9 : M * M < P16 9 := by rw [P16_succ, P16_8]; have := P16_pos 8; rw [P16_8] at this; omega
  omega
theorem plus_nn (va vb : Value) (X Y : Int) (w : World) (ha : Num w va X) (hb : Num w vb Y) (hX : X < M * M) (hY : Y < M * M) : Calls Tryd.prog 10 #[va, vb] w fun e w' => (∃ v', e = .returned v' ∧ Num w' v' (X + Y)) ∧ Below w.heap.size w w' := by
  obtain ⟨l, h1, h2, h3, rfl, h5⟩ := ha.row (Int.lt_trans hX MM_lt)
  obtain ⟨m, k1, k2, k3, rfl, k5⟩ := hb.row (Int.lt_trans hY MM_lt)
  exact plus_num va vb l m w h1 k1 h2 k2 (by omega) (by omega)
theorem times_nn (va vb : Value) (X Y : Int) (w : World) (ha : Num w va X) (hb : Num w vb Y) (hX : X < M * M) (hY : Y < M * M) : Calls Tryd.prog 14 #[va, vb] w fun e w' => (∃ v', e = .returned v' ∧ Num w' v' (X * Y)) ∧ Below w.heap.size w w' := by
  obtain ⟨l, h1, h2, h3, rfl, h5⟩ := ha.row (Int.lt_trans hX MM_lt)
  obtain ⟨m, k1, k2, k3, rfl, k5⟩ := hb.row (Int.lt_trans hY MM_lt)
  exact times_num va vb l m w h1 k1 h2 k2 (by omega) (by omega)
theorem minus_nn (va vb : Value) (X Y : Int) (w : World) (ha : Num w va X) (hb : Num w vb Y) (hX : X < M * M) (hY : Y ≤ X) : Calls Tryd.prog 24 #[va, vb] w fun e w' => (∃ v', e = .returned v' ∧ Num w' v' (X - Y)) ∧ Below w.heap.size w w' := by
  obtain ⟨l, h1, h2, h3, rfl, h5⟩ := ha.row (Int.lt_trans hX MM_lt)
  obtain ⟨m, k1, k2, k3, rfl, k5⟩ := hb.row (Int.lt_trans (Int.lt_of_le_of_lt hY hX) MM_lt)
  exact minus_num va vb l m w h1 k1 h2 k2 k3 hY (by omega)

set_option maxRecDepth 100000 in
set_option maxHeartbeats 4000000 in
theorem adds_any (v : Value) (l : List (Int × Int × Int × Int)) (w : World) (hr : QRow w v l) (hu : QU l) (g : One w) (hlen : (l.length : Int) ≤ 9223372036854775807) : Calls Tryd.prog 4 #[v] w fun e w' => e = .returned (.bool true) ∧ Below w.heap.size w w' := by
  obtain ⟨pa, ca, rfl⟩ := hr.form
  have HR := hid hr; have HU := hid hu; have G := hid g
  clear hr hu g
  go_enter Tryd.func4, Tryd.ntmps4
  go_wp2_with fail
  ((with_reducible refine (wakes_any _ G.out).mono ?_); rintro e w1 ⟨rfl, B1⟩)
  have BB1 := hid B1; clear B1
  go_wp2_with fail
  go_loopw [18] (fun v18 wr => ∃ k : Nat, v18 = (.int .i64 (k)) ∧ k ≤ l.length ∧ Hid (Below w.heap.size w wr)) (fun v18 _ => l.length - (intOf v18).toNat)
  case atStart => exact ⟨0, rfl, Nat.zero_le _, BB1⟩
  case round =>
    obtain ⟨k, rfl, hk, BEL⟩ := hrel
    by_cases hgo : k < l.length
    · have hgo' : (k : Int) < (l.length : Int) := by omega
      obtain ⟨g, o, cap, hv, a, b, c, d, hlk, c0, c1, c2, c3⟩ := (HR.out.below BEL.out).cell k hgo
      simp only [Value.slice.injEq, true_and] at hv
      obtain ⟨rfl, rfl⟩ := hv
      obtain ⟨ua, ub, uc, ud⟩ := HU.out a b c d (hlk ▸ List.getElem_mem hgo)
      clear hlk
      by_cases h12 : k = 12
      · have h12' : ((k : Int) == 12) = true := by rw [beq_iff_eq]; omega
        clear h12
        go_wp2_with fail
        go_ret
        exact ⟨rfl, BEL.out.alloc BEL.out.size _⟩
      · have h12' : ((k : Int) == 12) = false := by rw [beq_eq_false_iff_ne]; omega
        clear h12
        go_wp2_with fail
        have st : AS w wr.heap.size a b c d (wr.alloc (.cells #[(.int .u64 (a)), (.int .u64 (b)), (.int .u64 (c)), (.int .u64 (d))] 41)) := ⟨BEL.out.alloc BEL.out.size _, by go_simp, by go_simp, by go_simp, by go_simp, by simp⟩
        generalize (wr.alloc (.cells #[(.int .u64 (a)), (.int .u64 (b)), (.int .u64 (c)), (.int .u64 (d))] 41)) = W0 at *
        generalize wr.heap.size = E at *
        clear BEL c0 c1 c2 c3
        have st : AS w E a b c d W0.drew := ⟨st.1.drew, st.2⟩
        go_region_held3 (fun w' => Below w.heap.size w w' ∧ w'.cell? ⟨E, 0, none⟩ = some (.int .u64 (a)) ∧ w'.cell? ⟨E, 1, none⟩ = some (.int .u64 (b)) ∧ w'.cell? ⟨E, 2, none⟩ = some (.int .u64 (c)) ∧ w'.cell? ⟨E, 3, none⟩ = some (.int .u64 (d)) ∧ E < w'.heap.size) (first | assumption | go_keep)
          (first | (go_at_call_of 11 a; refine (rdigits_any a b _ ua ub).mono ?_; rintro e wx ⟨⟨v5, rfl, n1⟩, b1⟩; have N5 := hid n1; clear n1; have hx := AS.keep (by assumption) b1; clear b1) | (go_at_call_of 11 c; refine (rdigits_any c d _ uc ud).mono ?_; rintro e wy ⟨⟨v6, rfl, n1⟩, b1⟩; have N6 := hid n1; clear n1; have hy := AS.keep (by assumption) b1; have N5 := hid (N5.out.below b1); clear b1))
        clear hx st
        have HY := hid hy
        obtain ⟨-, p0, p1, p2, p3, p4⟩ := hy
        have LX := hid (W128.lt ua ub)
        have LY := hid (W128.lt uc ud)
        go_wp2_with fail
        ((with_reducible refine (refcmp_any a b c d _ ua ub uc ud).mono ?_); rintro e w2 ⟨rfl, B2⟩)
        have HY := hid (HY.out.keep B2); have N5 := hid (N5.out.below B2); have N6 := hid (N6.out.below B2)
        obtain ⟨-, p0, p1, p2, p3, p4⟩ := HY.out
        clear B2
        go_wp2_with fail
        refine (add_any a b c d _ ua ub uc ud).mono ?_
        rintro e w3 hq
        obtain ⟨B3, x8, y8, r8, rfl, q8⟩ := hq.got
        have G8 := hid q8
        have HY := hid (HY.out.keep B3); have N5 := hid (N5.out.below B3); have N6 := hid (N6.out.below B3)
        obtain ⟨-, p0, p1, p2, p3, p4⟩ := HY.out
        clear B3 hq q8
        go_wp2_with fail
        refine (sub_any a b c d _ ua ub uc ud).mono ?_
        rintro e w4 hq
        obtain ⟨B4, x10, y10, r10, rfl, q10⟩ := hq.got
        have G10 := hid q10
        have HY := hid ((HY.out.keep (below_alloc _ _)).keep B4); have N5 := hid ((N5.out.below (below_alloc _ _)).below B4); have N6 := hid ((N6.out.below (below_alloc _ _)).below B4)
        have b8 := hid ((Bx.new _ _ _ _).keep B4)
        obtain ⟨-, p0, p1, p2, p3, p4⟩ := HY.out
        obtain ⟨b80, b81, b82⟩ := b8.out
        generalize w3.heap.size = T8 at *
        clear B4 hq q10
        go_wp2_with fail
        refine (mul_any a b c d _ ua ub uc ud).mono ?_
        rintro e w5 hq
        obtain ⟨B5, x12, y12, r12, rfl, q12⟩ := hq.got
        have G12 := hid q12
        have HY := hid ((HY.out.keep (below_alloc _ _)).keep B5); have N5 := hid ((N5.out.below (below_alloc _ _)).below B5); have N6 := hid ((N6.out.below (below_alloc _ _)).below B5)
        have b8 := hid ((b8.out.keep (below_alloc _ _)).keep B5)
        have b10 := hid ((Bx.new _ _ _ _).keep B5)
        generalize w4.heap.size = T10 at *
        clear B5 hq q12
        go_wp2_with fail
        have HY := hid (HY.out.keep (below_alloc w5 (.cells #[(.int .u64 (x12)), (.int .u64 (y12))] 27))); have N5 := hid (N5.out.below (below_alloc w5 (.cells #[(.int .u64 (x12)), (.int .u64 (y12))] 27))); have N6 := hid (N6.out.below (below_alloc w5 (.cells #[(.int .u64 (x12)), (.int .u64 (y12))] 27)))
        have b8 := hid (b8.out.keep (below_alloc w5 (.cells #[(.int .u64 (x12)), (.int .u64 (y12))] 27)))
        have b10 := hid (b10.out.keep (below_alloc w5 (.cells #[(.int .u64 (x12)), (.int .u64 (y12))] 27)))
        have b12 := hid (Bx.new w5 x12 y12 27)
        generalize (w5.alloc (.cells #[(.int .u64 (x12)), (.int .u64 (y12))] 27)) = W6 at *
        generalize w5.heap.size = T12 at *
        have st : A3 w E T8 T10 T12 a b c d x8 y8 x10 y10 x12 y12 W6.drew := ⟨HY.out.1.drew, HY.out.2.1, HY.out.2.2.1, HY.out.2.2.2.1, HY.out.2.2.2.2.1, HY.out.2.2.2.2.2, b8.out.1, b8.out.2.1, b8.out.2.2, b10.out.1, b10.out.2.1, b10.out.2.2, b12.out.1, b12.out.2.1, b12.out.2.2⟩
        clear HY b8 b10 b12
        have hc : Hid (cmpI (W128 a b) (W128 c d) = cmpI (W128 a b) (W128 c d)) := rfl
        have CMP := hid (fun w => compare_any a b c d w ua ub uc ud)
        have CLT : Hid (cmpI (W128 a b) (W128 c d) < 0 ↔ W128 a b < W128 c d) := by
          show _ ↔ _
          unfold cmpI; split
          · omega
          · split <;> omega
        generalize cmpI (W128 a b) (W128 c d) = q at *
        have N5 : Hid (Num W6.drew v5 (W128 a b)) := N5
        have N6 : Hid (Num W6.drew v6 (W128 c d)) := N6
        go_region_held3 (fun w' => Below w.heap.size w w' ∧ w'.cell? ⟨E, 0, none⟩ = some (.int .u64 (a)) ∧ w'.cell? ⟨E, 1, none⟩ = some (.int .u64 (b)) ∧ w'.cell? ⟨E, 2, none⟩ = some (.int .u64 (c)) ∧ w'.cell? ⟨E, 3, none⟩ = some (.int .u64 (d)) ∧ E < w'.heap.size ∧ w'.cell? ⟨T8, 0, none⟩ = some (.int .u64 (x8)) ∧ w'.cell? ⟨T8, 1, none⟩ = some (.int .u64 (y8)) ∧ T8 < w'.heap.size ∧ w'.cell? ⟨T10, 0, none⟩ = some (.int .u64 (x10)) ∧ w'.cell? ⟨T10, 1, none⟩ = some (.int .u64 (y10)) ∧ T10 < w'.heap.size ∧ w'.cell? ⟨T12, 0, none⟩ = some (.int .u64 (x12)) ∧ w'.cell? ⟨T12, 1, none⟩ = some (.int .u64 (y12)) ∧ T12 < w'.heap.size) (first | assumption | go_keep)
          (first | (go_at_call 23; refine (CMP.out _).mono ?_; rintro e wa ⟨rfl, B⟩; have hx := A3.keep (by assumption) B; have N5 := hid (N5.out.below B); have N6 := hid (N6.out.below B); clear B) | (go_at_call 10; refine (plus_nn v5 v6 _ _ _ N5.out N6.out LX.out.2 LY.out.2).mono ?_; rintro e wb ⟨⟨v7, rfl, n7⟩, B⟩; have N7 := hid n7; clear n7; have hx := A3.keep (by assumption) B; have N5 := hid (N5.out.below B); have N6 := hid (N6.out.below B); clear B) | (go_at_call_of 15 x8; refine (like_any x8 y8 r8 _ v7 _ G8.out N7.out).mono ?_; rintro e wc ⟨rfl, B⟩; have hx := A3.keep (by assumption) B; have N5 := hid (N5.out.below B); have N6 := hid (N6.out.below B); clear B) | (go_at_call 14; refine (times_nn v5 v6 _ _ _ N5.out N6.out LX.out.2 LY.out.2).mono ?_; rintro e wd ⟨⟨v9, rfl, n9⟩, B⟩; have N9 := hid n9; clear n9; have hx := A3.keep (by assumption) B; have N5 := hid (N5.out.below B); have N6 := hid (N6.out.below B); clear B) | (go_at_call_of 15 x12; refine (like_any x12 y12 r12 _ v9 _ G12.out N9.out).mono ?_; rintro e we ⟨rfl, B⟩; have hx := A3.keep (by assumption) B; have N5 := hid (N5.out.below B); have N6 := hid (N6.out.below B); clear B))
        clear st
        have hz := (by assumption : A3 w E T8 T10 T12 a b c d x8 y8 x10 y10 x12 y12 we)
        have HZ := hid hz
        have c10 := hz.2.2.2.2.2.2.2.2.2.1
        have c11 := hz.2.2.2.2.2.2.2.2.2.2.1
        clear hz
        have hwk : IntKind.i64.wrap ((k : Int) + 1) = ((k + 1 : Nat) : Int) := by rw [IntWalk.i64_in _ ⟨by omega, by omega⟩]; omega
        by_cases hq : q < 0
        · obtain ⟨h1, rfl, rfl, rfl⟩ : W128 a b - W128 c d < 0 ∧ x10 = 0 ∧ y10 = 0 ∧ r10 = 110 := by
            have := CLT.out.1 hq
            rcases G10.out with ⟨h, _⟩ | h
            · omega
            · exact h
          clear h1
          go_wp2_with fail
          have st : A3 w E T8 T10 T12 a b c d x8 y8 0 0 x12 y12 we.drew := HZ.out.keep (below_drew _)
          go_region_held3 (fun w' => Below w.heap.size w w' ∧ w'.cell? ⟨E, 0, none⟩ = some (.int .u64 (a)) ∧ w'.cell? ⟨E, 1, none⟩ = some (.int .u64 (b)) ∧ w'.cell? ⟨E, 2, none⟩ = some (.int .u64 (c)) ∧ w'.cell? ⟨E, 3, none⟩ = some (.int .u64 (d)) ∧ E < w'.heap.size ∧ w'.cell? ⟨T8, 0, none⟩ = some (.int .u64 (x8)) ∧ w'.cell? ⟨T8, 1, none⟩ = some (.int .u64 (y8)) ∧ T8 < w'.heap.size ∧ w'.cell? ⟨T10, 0, none⟩ = some (.int .u64 (0)) ∧ w'.cell? ⟨T10, 1, none⟩ = some (.int .u64 (0)) ∧ T10 < w'.heap.size ∧ w'.cell? ⟨T12, 0, none⟩ = some (.int .u64 (x12)) ∧ w'.cell? ⟨T12, 1, none⟩ = some (.int .u64 (y12)) ∧ T12 < w'.heap.size) (first | assumption | go_keep)
            (first | (go_at_call 13; refine (of_any _ _).mono ?_; rintro e wf ⟨rfl, B⟩; have hx := A3.keep (by assumption) B; clear B))
          have hz := hid (by assumption : A3 w E T8 T10 T12 a b c d x8 y8 0 0 x12 y12 wf)
          go_wp2_with fail
          exact ⟨⟨k + 1, by simp, hgo, hz.out.1⟩, by simp [intOf]; omega⟩
        · have hle : W128 c d ≤ W128 a b := by
            false_or_by_contra
            exact hq (CLT.out.2 (by omega))
          have HLE := hid hle; clear hle
          have G : Hid (Got (W128 a b - W128 c d) x10 y10 r10) := by
            rcases G10.out with ⟨_, h⟩ | ⟨h, _⟩
            · exact h
            · have := HLE.out; omega
          go_wp2_with fail
          have st : A3 w E T8 T10 T12 a b c d x8 y8 x10 y10 x12 y12 we.drew := HZ.out.keep (below_drew _)
          have N5 : Hid (Num we.drew v5 (W128 a b)) := N5
          have N6 : Hid (Num we.drew v6 (W128 c d)) := N6
          go_region_held3 (fun w' => Below w.heap.size w w' ∧ w'.cell? ⟨E, 0, none⟩ = some (.int .u64 (a)) ∧ w'.cell? ⟨E, 1, none⟩ = some (.int .u64 (b)) ∧ w'.cell? ⟨E, 2, none⟩ = some (.int .u64 (c)) ∧ w'.cell? ⟨E, 3, none⟩ = some (.int .u64 (d)) ∧ E < w'.heap.size ∧ w'.cell? ⟨T8, 0, none⟩ = some (.int .u64 (x8)) ∧ w'.cell? ⟨T8, 1, none⟩ = some (.int .u64 (y8)) ∧ T8 < w'.heap.size ∧ w'.cell? ⟨T10, 0, none⟩ = some (.int .u64 (x10)) ∧ w'.cell? ⟨T10, 1, none⟩ = some (.int .u64 (y10)) ∧ T10 < w'.heap.size ∧ w'.cell? ⟨T12, 0, none⟩ = some (.int .u64 (x12)) ∧ w'.cell? ⟨T12, 1, none⟩ = some (.int .u64 (y12)) ∧ T12 < w'.heap.size) (first | assumption | go_keep)
            (first | (go_at_call 24; refine (minus_nn v5 v6 _ _ _ N5.out N6.out LX.out.2 HLE.out).mono ?_; rintro e wf ⟨⟨v11, rfl, n11⟩, B⟩; have N11 := hid n11; clear n11; have hx := A3.keep (by assumption) B; clear B) | (go_at_call 15; refine (like_any x10 y10 r10 _ v11 _ G.out N11.out).mono ?_; rintro e wg ⟨rfl, B⟩; have hx := A3.keep (by assumption) B; clear B))
          have hz := hid (by assumption : A3 w E T8 T10 T12 a b c d x8 y8 x10 y10 x12 y12 wg)
          go_wp2_with fail
          exact ⟨⟨k + 1, by simp, hgo, hz.out.1⟩, by simp [intOf]; omega⟩
    · have h1' : ¬ (k : Int) < (l.length : Int) := by omega
      clear hgo
      go_wp2_with fail
      go_ret
      exact ⟨rfl, BEL.out⟩
end Go.Proofs.YtdpcfpmlkhdmkaaDoor
