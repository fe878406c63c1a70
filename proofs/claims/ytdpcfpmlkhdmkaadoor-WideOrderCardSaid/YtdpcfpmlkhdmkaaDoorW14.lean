/- wide: the laws' own first line: the layer does something. -/
import Derived.Test.YtdpcfpmlkhdmkaaDoorW13
import Derived.Deep.RegionHeld3
namespace Go.Proofs.YtdpcfpmlkhdmkaaDoor
open Go.RowKit

theorem W128.inj {a b c d : Int} (ha : U64 a) (hb : U64 b) (hc : U64 c) (hd : U64 d) (e : W128 a b = W128 c d) : a = c ∧ b = d := by
  unfold U64 W128 at *; rw [M_lit] at *; omega

theorem add_is (a b c d h l : Int) (w : World) (ha : U64 a) (hb : U64 b) (hc : U64 c) (hd : U64 d) (hh : U64 h) (hl : U64 l) (e : W128 a b + W128 c d = W128 h l) :
   Calls Tryd.prog 20 #[.agg #[.int .u64 a, .int .u64 b], .agg #[.int .u64 c, .int .u64 d]] w fun e w' => e = .returned (.tuple #[.agg #[(.int .u64 (h)), (.int .u64 (l))], (.int .i64 (0))]) ∧ Below w.heap.size w w' := by
  refine (add_any a b c d w ha hb hc hd).mono ?_
  rintro e w' ⟨B, ⟨hN, h', l', rfl, u1, u2, u3⟩ | ⟨hN, rfl⟩⟩
  · obtain ⟨rfl, rfl⟩ := W128.inj u1 u2 hh hl (by rw [u3, e])
    exact ⟨rfl, B⟩
  · exact absurd (by rw [e]; exact (W128.lt hh hl).2) hN
theorem add_over (a b c d : Int) (w : World) (ha : U64 a) (hb : U64 b) (hc : U64 c) (hd : U64 d) (h : M * M ≤ W128 a b + W128 c d) :
   Calls Tryd.prog 20 #[.agg #[.int .u64 a, .int .u64 b], .agg #[.int .u64 c, .int .u64 d]] w fun e w' => e = .returned (.tuple #[.agg #[(.int .u64 (0)), (.int .u64 (0))], (.int .i64 (110))]) ∧ Below w.heap.size w w' := by
  refine (add_any a b c d w ha hb hc hd).mono ?_
  rintro e w' ⟨B, ⟨hN, h', l', rfl, u1, u2, u3⟩ | ⟨hN, rfl⟩⟩
  · omega
  · exact ⟨rfl, B⟩
theorem div_is (a b y h l r : Int) (w : World) (ha : U64 a) (hb : U64 b) (hy : U64 y) (h0 : 0 < y) (hh : U64 h) (hl : U64 l) (r0 : 0 ≤ r) (r1 : r < y) (e : W128 h l * y + r = W128 a b) :
   Calls Tryd.prog 12 #[.agg #[(.int .u64 (a)), (.int .u64 (b))], (.int .u64 (y))] w fun e w' => e = .returned (.tuple #[.agg #[(.int .u64 (h)), (.int .u64 (l))], (.int .u64 (r)), (.int .i64 (0))]) ∧ Below w.heap.size w w' := by
  refine (div_some a b y w ha hb hy h0).mono ?_
  rintro e w' ⟨B, h', l', r', rfl, u1, u2, u3, u4, u5⟩
  have q1 := div_unique u4 u3.1 u5
  have q2 := div_unique e r0 r1
  obtain ⟨rfl, rfl⟩ := W128.inj u1 u2 hh hl (by rw [q1.1, q2.1])
  obtain rfl : r' = r := by rw [q1.2, q2.2]
  exact ⟨rfl, B⟩
theorem power_is (a b h l : Int) (n : Nat) (m : Int) (hm : m = n) (w : World) (g : One w) (ha : U64 a) (hb : U64 b) (h1 : 1 < W128 a b) (hn : (n : Int) ≤ 9223372036854775807) (hh : U64 h) (hl : U64 l) (e : W128 a b ^ n = W128 h l) :
    Calls Tryd.prog 16 #[.agg #[(.int .u64 (a)), (.int .u64 (b))], (.int .i64 (m))] w fun e w' => e = .returned (.tuple #[.agg #[(.int .u64 (h)), (.int .u64 (l))], (.int .i64 (0))]) ∧ Below w.heap.size w w' := by
  subst hm
  refine (power_big a b n w g ha hb h1 hn).mono ?_
  rintro e w' ⟨B, ⟨hN, h', l', rfl, u1, u2, u3⟩ | ⟨hN, rfl⟩⟩
  · obtain ⟨rfl, rfl⟩ := W128.inj u1 u2 hh hl (by rw [u3, e])
    exact ⟨rfl, B⟩
  · exact absurd (by rw [e]; exact (W128.lt hh hl).2) hN

def Z0 : Int := 18446744073709551615
def Z1 : Int := 6148914691236517205
def Z2 : Int := 9223372036854775808
theorem z0_u : U64 18446744073709551615 := by unfold U64; rw [M_lit]; omega
theorem z1_u : U64 6148914691236517205 := by unfold U64; rw [M_lit]; omega
theorem z2_u : U64 9223372036854775808 := by unfold U64; rw [M_lit]; omega
theorem small_u (n : Int) (h0 : 0 ≤ n) (h1 : n ≤ 1000) : U64 n := by unfold U64; rw [M_lit]; omega

theorem text_big (w : World) : Calls Tryd.prog 25 #[.agg #[(.int .u64 (1)), (.int .u64 (0))]] w fun e w' =>
    e = .returned (.string ⟨#[49, 56, 52, 52, 54, 55, 52, 52, 48, 55, 51, 55, 48, 57, 53, 53, 49, 54, 49, 54]⟩) ∧ Below w.heap.size w w' := by
  have := text_any 1 0 18446744073709551616 (digs 39 18446744073709551616) w U64.one U64.zero ⟨rfl, by decide, rfl⟩
  refine this.mono ?_
  rintro e w' ⟨rfl, B⟩
  exact ⟨congrArg (fun s => Ending.returned (.string s)) (by decide +kernel), B⟩

abbrev WkS (w : World) (a b c : Nat) (w' : World) : Prop :=
  Below w.heap.size w w' ∧ w'.cell? ⟨a, 0, none⟩ = some (.int .u64 (1)) ∧ w'.cell? ⟨a, 1, none⟩ = some (.int .u64 (0)) ∧ w'.cell? ⟨b, 0, none⟩ = some (.int .u64 (0)) ∧ w'.cell? ⟨b, 1, none⟩ = some (.int .u64 (6148914691236517205)) ∧
    w'.cell? ⟨c, 0, none⟩ = some (.int .u64 (9223372036854775808)) ∧ w'.cell? ⟨c, 1, none⟩ = some (.int .u64 (0)) ∧ a < w'.heap.size ∧ b < w'.heap.size ∧ c < w'.heap.size
theorem WkS.keep {w : World} {a b c : Nat} {W W' : World} (h : WkS w a b c W) (B : Below W.heap.size W W') : WkS w a b c W' := by
  obtain ⟨h0, h1, h2, h3, h4, h5, h6, h7, h8, h9⟩ := h
  have := B.size
  exact ⟨h0.trans (B.mono h0.size), (B.cell (p := ⟨_, _, none⟩) h7).trans h1, (B.cell (p := ⟨_, _, none⟩) h7).trans h2, (B.cell (p := ⟨_, _, none⟩) h8).trans h3, (B.cell (p := ⟨_, _, none⟩) h8).trans h4,
    (B.cell (p := ⟨_, _, none⟩) h9).trans h5, (B.cell (p := ⟨_, _, none⟩) h9).trans h6, by omega, by omega, by omega⟩

set_option maxRecDepth 100000 in
set_option maxHeartbeats 4000000 in
theorem wakes_any (w : World) (g : One w) : Calls Tryd.prog 9 #[] w fun e w' => e = .returned (.bool true) ∧ Below w.heap.size w w' := by
  have G := hid g; clear g
  go_enter Tryd.func9, Tryd.ntmps9
  go_wp2_with fail
  ((with_reducible refine (of_any _ _).mono ?_); rintro e w1 ⟨rfl, B1⟩)
  go_wp2_with fail
  ((with_reducible refine (of_any _ _).mono ?_); rintro e w2 ⟨rfl, B2⟩)
  go_wp2_with fail
  ((with_reducible refine (add_is 0 18446744073709551615 0 1 1 0 _ U64.zero z0_u U64.zero U64.one U64.one U64.zero (by unfold W128; rw [M_lit]; omega)).mono ?_); rintro e w3 ⟨rfl, B3⟩)
  go_wp2_with fail
  ((with_reducible refine (of_any _ _).mono ?_); rintro e w4 ⟨rfl, B4⟩)
  obtain ⟨p1_0, p1_1⟩ := keepr2 B4 (b := w3.heap.size) (x0 := (.int .u64 (1))) (x1 := (.int .u64 (0))) (by first | omega | (simp <;> omega)) (by first | assumption | go_simp) (by first | assumption | go_simp)
  have s4 : w3.heap.size < w4.heap.size := by have := B4.size; simp at this; omega
  go_wp2_with fail
  ((with_reducible refine (add_over 18446744073709551615 18446744073709551615 0 1 _ z0_u z0_u U64.zero U64.one (by unfold W128; rw [M_lit]; omega)).mono ?_); rintro e w5 ⟨rfl, B5⟩)
  obtain ⟨q1_0, q1_1⟩ := keepr2 B5 (b := w3.heap.size) (x0 := (.int .u64 (1))) (x1 := (.int .u64 (0))) (by first | omega | (simp <;> omega)) (by first | assumption | go_simp) (by first | assumption | go_simp)
  have s5 : w3.heap.size < w5.heap.size := by have := B5.size; omega
  go_wp2_with fail
  ((with_reducible refine (div_is 1 0 3 0 6148914691236517205 1 _ U64.one U64.zero (small_u 3 (by omega) (by omega)) (by omega) U64.zero z1_u (by omega) (by omega) (by unfold W128; rw [M_lit]; omega)).mono ?_); rintro e w6 ⟨rfl, B6⟩)
  obtain ⟨r1_0, r1_1⟩ := keepr2 B6 (b := w3.heap.size) (x0 := (.int .u64 (1))) (x1 := (.int .u64 (0))) (by first | omega | (simp <;> omega)) (by first | assumption | go_simp) (by first | assumption | go_simp)
  have s6 : w3.heap.size < w6.heap.size := by have := B6.size; simp at this; omega
  clear p1_0 p1_1 q1_0 q1_1 
  go_wp2_with fail
  ((with_reducible refine (of_any _ _).mono ?_); rintro e w7 ⟨rfl, B7⟩)
  obtain ⟨p1_0, p1_1⟩ := keepr2 B7 (b := w3.heap.size) (x0 := (.int .u64 (1))) (x1 := (.int .u64 (0))) (by first | omega | (simp <;> omega)) (by first | assumption | go_simp) (by first | assumption | go_simp)
  obtain ⟨p2_0, p2_1⟩ := keepr2 B7 (b := w6.heap.size) (x0 := (.int .u64 (0))) (x1 := (.int .u64 (6148914691236517205))) (by first | omega | (simp <;> omega)) (by first | assumption | go_simp) (by first | assumption | go_simp)
  have s7 : w3.heap.size < w7.heap.size := by have := B7.size; simp at this; omega
  have s7' : w6.heap.size < w7.heap.size := by have := B7.size; simp at this; omega
  have BB : Below w.heap.size w w7 := by
    have zz0 := B1.size; try simp at zz0
    have zz1 := B2.size; try simp at zz1
    have zz2 := B3.size; try simp at zz2
    have zz3 := B4.size; try simp at zz3
    have zz4 := B5.size; try simp at zz4
    have zz5 := B6.size; try simp at zz5
    have zz6 := B7.size; try simp at zz6
    repeat' (first | exact Below.refl _ _ | with_reducible refine Below.alloc ?_ ?_ _ | with_reducible refine Below.setCell ?_ ?_ _ | with_reducible refine Below.drew ?_ | with_reducible refine below_drewN ?_ _ | refine Below.trans ?_ (Below.mono (by assumption) ?_))
    all_goals (first | omega | (simp <;> omega))
  have g7 := G.out.below (by have := G.out.1; omega) BB
  go_wp2_with fail
  ((with_reducible refine (power_is 0 2 9223372036854775808 0 127 127 (by omega) _ g7 U64.zero (small_u 2 (by omega) (by omega)) (by unfold W128; rw [M_lit]; omega) (by omega) z2_u U64.zero (by unfold W128; rw [M_lit]; decide +kernel)).mono ?_); rintro e w8 ⟨rfl, B8⟩)
  obtain ⟨m1_0, m1_1⟩ := keepr2 B8 (b := w3.heap.size) (x0 := (.int .u64 (1))) (x1 := (.int .u64 (0))) (by first | omega | (simp <;> omega)) (by first | assumption | go_simp) (by first | assumption | go_simp)
  obtain ⟨m2_0, m2_1⟩ := keepr2 B8 (b := w6.heap.size) (x0 := (.int .u64 (0))) (x1 := (.int .u64 (6148914691236517205))) (by first | omega | (simp <;> omega)) (by first | assumption | go_simp) (by first | assumption | go_simp)
  have s8 : w3.heap.size < w8.heap.size := by have := B8.size; omega
  have s8' : w6.heap.size < w8.heap.size := by have := B8.size; omega
  have B9 : Below w.heap.size w w8 := BB.trans (B8.mono BB.size)
  clear B1 B2 B3 B4 B5 B6 B7 B8 p1_0 p1_1 p2_0 p2_1 r1_0 r1_1 s4 s5 s6 s7 s7' BB g7
  have z8 : w.heap.size ≤ w8.heap.size := B9.size
  have HB9 := hid B9; clear B9
  go_wp2_with fail
  have st : WkS w w3.heap.size w6.heap.size w8.heap.size (w8.alloc (.cells #[(.int .u64 (9223372036854775808)), (.int .u64 (0))] 27)).drew := by
    refine ⟨?_, by go_simp, by go_simp, by go_simp, by go_simp, by go_simp, by go_simp, by simp; omega, by simp; omega, by simp⟩
    exact (HB9.out.alloc z8 _).drew
  go_region_held3 (fun w' => Below w.heap.size w w' ∧ w'.cell? ⟨w3.heap.size, 0, none⟩ = some (.int .u64 (1)) ∧ w'.cell? ⟨w3.heap.size, 1, none⟩ = some (.int .u64 (0)) ∧ w'.cell? ⟨w6.heap.size, 0, none⟩ = some (.int .u64 (0)) ∧ w'.cell? ⟨w6.heap.size, 1, none⟩ = some (.int .u64 (6148914691236517205)) ∧ w'.cell? ⟨w8.heap.size, 0, none⟩ = some (.int .u64 (9223372036854775808)) ∧ w'.cell? ⟨w8.heap.size, 1, none⟩ = some (.int .u64 (0)) ∧ w3.heap.size < w'.heap.size ∧ w6.heap.size < w'.heap.size ∧ w8.heap.size < w'.heap.size) (first | assumption | go_keep)
    (first | (go_at_call 13; refine (of_any _ _).mono ?_; rintro e wx ⟨rfl, Bx⟩; have hx := WkS.keep (by assumption) Bx; clear Bx) | (go_at_call 25; refine (text_big _).mono ?_; rintro e wx ⟨rfl, Bx⟩; have hx := WkS.keep (by assumption) Bx; clear Bx))
  all_goals go_wp2_with fail
  go_ret
  exact ⟨rfl, (by assumption : WkS _ _ _ _ _).1⟩
end Go.Proofs.YtdpcfpmlkhdmkaaDoor
