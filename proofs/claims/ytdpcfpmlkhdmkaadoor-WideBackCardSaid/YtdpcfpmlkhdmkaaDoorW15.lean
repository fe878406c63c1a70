/- wide: the walk of WideBack. -/
import Derived.Test.YtdpcfpmlkhdmkaaDoorW15a
namespace Go.Proofs.YtdpcfpmlkhdmkaaDoor
open Go.RowKit

set_option maxRecDepth 100000 in
set_option maxHeartbeats 4000000 in
theorem back_any (a b c d y : Int) (w : World) (g : One w) (ha : U64 a) (hb : U64 b) (hc : U64 c) (hd : U64 d) (hy : U64 y) :
    Calls Tryd.prog 6 #[.agg #[(.int .u64 (a)), (.int .u64 (b))], .agg #[(.int .u64 (c)), (.int .u64 (d))], (.int .u64 (y))] w fun e w' => e = .returned (.bool true) ∧ Below w.heap.size w w' := by
  have G := hid g; clear g
  have z1 := G.out.1
  go_enter Tryd.func6, Tryd.ntmps6
  have g1 : One ((w.alloc (.cells #[(.int .u64 (a)), (.int .u64 (b))] 27)).alloc (.cells #[(.int .u64 (c)), (.int .u64 (d))] 27)) := G.out.below G.out.1 (((Below.refl _ _).alloc (Nat.le_refl _) _).alloc (by simp) _)
  go_wp2_with fail
  ((with_reducible refine (wakes_any _ g1).mono ?_); rintro e w1 ⟨rfl, B1⟩)
  clear g1
  have zq := B1.size; try simp at zq
  obtain ⟨k1x0_0, k1x0_1⟩ := keepr2 B1 (b := w.heap.size) (x0 := (.int .u64 (a))) (x1 := (.int .u64 (b))) (by first | omega | (simp <;> omega)) (by first | assumption | go_simp) (by first | assumption | go_simp)
  have k1x0_s : w.heap.size < w1.heap.size := by omega
  obtain ⟨k1x1_0, k1x1_1⟩ := keepr2 B1 (b := (w.heap.size + 1)) (x0 := (.int .u64 (c))) (x1 := (.int .u64 (d))) (by first | omega | (simp <;> omega)) (by first | assumption | go_simp) (by first | assumption | go_simp)
  have k1x1_s : (w.heap.size + 1) < w1.heap.size := by omega
  clear zq
  by_cases hov : W128 a b + W128 c d < M * M
  · obtain ⟨h, l, hh, hl, hs⟩ : ∃ h l, U64 h ∧ U64 l ∧ W128 h l = W128 a b + W128 c d := ⟨(W128 a b + W128 c d) / M, (W128 a b + W128 c d) % M, U64.div (by have := W128.lt ha hb; have := W128.lt hc hd; omega) hov, U64.mod _, W128.divmod _⟩
    have HS := hid hs
    clear hs hov
    go_wp2_with fail
    ((with_reducible refine (add_is a b c d h l _ ha hb hc hd hh hl HS.out.symm).mono ?_); rintro e w2 ⟨rfl, B2⟩)
    have zq := B2.size; try simp at zq
    obtain ⟨k2x0_0, k2x0_1⟩ := keepr2 B2 (b := w.heap.size) (x0 := (.int .u64 (a))) (x1 := (.int .u64 (b))) (by first | omega | (simp <;> omega)) (by first | assumption | go_simp) (by first | assumption | go_simp)
    have k2x0_s : w.heap.size < w2.heap.size := by omega
    obtain ⟨k2x1_0, k2x1_1⟩ := keepr2 B2 (b := (w.heap.size + 1)) (x0 := (.int .u64 (c))) (x1 := (.int .u64 (d))) (by first | omega | (simp <;> omega)) (by first | assumption | go_simp) (by first | assumption | go_simp)
    have k2x1_s : (w.heap.size + 1) < w2.heap.size := by omega
    clear zq k1x0_0 k1x0_1 k1x0_s k1x1_0 k1x1_1 k1x1_s
    go_wp2_with fail
    ((with_reducible refine (sub_is h l c d a b _ hh hl hc hd ha hb (by have := HS.out; omega)).mono ?_); rintro e w3 ⟨rfl, B3⟩)
    have zq := B3.size; try simp at zq
    obtain ⟨k3x0_0, k3x0_1⟩ := keepr2 B3 (b := w.heap.size) (x0 := (.int .u64 (a))) (x1 := (.int .u64 (b))) (by first | omega | (simp <;> omega)) (by first | assumption | go_simp) (by first | assumption | go_simp)
    have k3x0_s : w.heap.size < w3.heap.size := by omega
    obtain ⟨k3x1_0, k3x1_1⟩ := keepr2 B3 (b := (w.heap.size + 1)) (x0 := (.int .u64 (c))) (x1 := (.int .u64 (d))) (by first | omega | (simp <;> omega)) (by first | assumption | go_simp) (by first | assumption | go_simp)
    have k3x1_s : (w.heap.size + 1) < w3.heap.size := by omega
    obtain ⟨k3x2_0, k3x2_1⟩ := keepr2 B3 (b := w2.heap.size) (x0 := (.int .u64 (h))) (x1 := (.int .u64 (l))) (by first | omega | (simp <;> omega)) (by first | assumption | go_simp) (by first | assumption | go_simp)
    have k3x2_s : w2.heap.size < w3.heap.size := by omega
    clear zq k2x0_0 k2x0_1 k2x0_s k2x1_0 k2x1_1 k2x1_s
    go_wp2_with fail
    ((with_reducible refine (compare_ge h l a b _ hh hl ha hb (by have := HS.out; have := (W128.lt hc hd).1; omega)).mono ?_); rintro e w3' ⟨x, rfl, hx, B3'⟩)
    have zq := B3'.size; try simp at zq
    obtain ⟨k4x0_0, k4x0_1⟩ := keepr2 B3' (b := w.heap.size) (x0 := (.int .u64 (a))) (x1 := (.int .u64 (b))) (by first | omega | (simp <;> omega)) (by first | assumption | go_simp) (by first | assumption | go_simp)
    have k4x0_s : w.heap.size < w3'.heap.size := by omega
    obtain ⟨k4x1_0, k4x1_1⟩ := keepr2 B3' (b := (w.heap.size + 1)) (x0 := (.int .u64 (c))) (x1 := (.int .u64 (d))) (by first | omega | (simp <;> omega)) (by first | assumption | go_simp) (by first | assumption | go_simp)
    have k4x1_s : (w.heap.size + 1) < w3'.heap.size := by omega
    obtain ⟨k4x2_0, k4x2_1⟩ := keepr2 B3' (b := w2.heap.size) (x0 := (.int .u64 (h))) (x1 := (.int .u64 (l))) (by first | omega | (simp <;> omega)) (by first | assumption | go_simp) (by first | assumption | go_simp)
    have k4x2_s : w2.heap.size < w3'.heap.size := by omega
    obtain ⟨k4x3_0, k4x3_1⟩ := keepr2 B3' (b := w3.heap.size) (x0 := (.int .u64 (a))) (x1 := (.int .u64 (b))) (by first | omega | (simp <;> omega)) (by first | assumption | go_simp) (by first | assumption | go_simp)
    have k4x3_s : w3.heap.size < w3'.heap.size := by omega
    clear zq k3x0_0 k3x0_1 k3x0_s k3x1_0 k3x1_1 k3x1_s k3x2_0 k3x2_1 k3x2_s
    have BS : Hid (Below w.heap.size w w3') := by
      show Below _ _ _
      have zz0 := B1.size; try simp at zz0
      have zz1 := B2.size; try simp at zz1
      have zz2 := B3.size; try simp at zz2
      have zz3 := B3'.size; try simp at zz3
      repeat' (first | exact Below.refl _ _ | with_reducible refine Below.alloc ?_ ?_ _ | with_reducible refine Below.setCell ?_ ?_ _ | with_reducible refine Below.drew ?_ | with_reducible refine below_drewN ?_ _ | refine Below.trans ?_ (Below.mono (by assumption) ?_))
      all_goals (first | omega | (simp <;> omega))
    clear B1 B2 B3 B3'
    go_wp2_with fail
    by_cases hy0 : y = 0
    · have hyb : (y == 0) = true := by simpa using hy0
      subst hy0
      go_wp2_with fail
      ((with_reducible refine (div_none a b _).mono ?_); rintro e w4 ⟨rfl, B4⟩)
      go_wp2_with fail
      go_ret
      refine ⟨rfl, ?_⟩
      exact (BS.out.trans (B4.mono BS.out.size)).alloc (by have := BS.out.size; have := B4.size; omega) _
    · have hy1 : 0 < y := by have := hy.1; omega
      have hyb : (y == 0) = false := by simpa using hy0
      clear hy0
      go_wp2_with fail
      (refine (div_some a b y _ ha hb hy hy1).mono ?_; rintro e w4 ⟨B4, p, q, r, rfl, up, uq, ur, hdiv, hr⟩)
      have HD := hid hdiv; clear hdiv
      have zq := B4.size; try simp at zq
      obtain ⟨k5x0_0, k5x0_1⟩ := keepr2 B4 (b := w.heap.size) (x0 := (.int .u64 (a))) (x1 := (.int .u64 (b))) (by first | omega | (simp <;> omega)) (by first | assumption | go_simp) (by first | assumption | go_simp)
      have k5x0_s : w.heap.size < w4.heap.size := by omega
      obtain ⟨k5x1_0, k5x1_1⟩ := keepr2 B4 (b := (w.heap.size + 1)) (x0 := (.int .u64 (c))) (x1 := (.int .u64 (d))) (by first | omega | (simp <;> omega)) (by first | assumption | go_simp) (by first | assumption | go_simp)
      have k5x1_s : (w.heap.size + 1) < w4.heap.size := by omega
      obtain ⟨k5x2_0, k5x2_1⟩ := keepr2 B4 (b := w2.heap.size) (x0 := (.int .u64 (h))) (x1 := (.int .u64 (l))) (by first | omega | (simp <;> omega)) (by first | assumption | go_simp) (by first | assumption | go_simp)
      have k5x2_s : w2.heap.size < w4.heap.size := by omega
      obtain ⟨k5x3_0, k5x3_1⟩ := keepr2 B4 (b := w3.heap.size) (x0 := (.int .u64 (a))) (x1 := (.int .u64 (b))) (by first | omega | (simp <;> omega)) (by first | assumption | go_simp) (by first | assumption | go_simp)
      have k5x3_s : w3.heap.size < w4.heap.size := by omega
      clear zq k4x0_0 k4x0_1 k4x0_s k4x1_0 k4x1_1 k4x1_s k4x2_0 k4x2_1 k4x2_s k4x3_0 k4x3_1 k4x3_s
      have hmul : Hid (∃ h l, U64 h ∧ U64 l ∧ W128 p q * W128 0 y = W128 h l) := by
        have := W128.lt ha hb
        have hl : W128 p q * y < M * M := by have := HD.out; have := ur.1; omega
        have hn : 0 ≤ W128 p q * y := Int.mul_nonneg (W128.lt up uq).1 hy.1
        refine ⟨W128 p q * y / M, W128 p q * y % M, U64.div hn hl, U64.mod _, ?_⟩
        rw [W128.divmod]; unfold W128; simp
      obtain ⟨m, n, um, un, hmn⟩ := hmul.out
      have HM := hid hmn; clear hmn hmul
      have BT : Hid (Below w.heap.size w w4) := BS.out.trans (B4.mono BS.out.size)
      have BT' := BT.out
      have z4 : w.heap.size ≤ w4.heap.size := BT.out.size
      have e1 : w.heap.size < w4.heap.size + 1 := by omega
      have e2 : w.heap.size < w4.heap.size + 1 + 1 := by omega
      go_upto_region 14 with fail
      go_cut [15, 16] (fun s15 s16 wc => ∃ g : Nat, s15 = (.int .i64 (0)) ∧ s16 = .pointer (some ⟨g, 0, none⟩) ∧ Hid (S22 w g (.int .u64 (a)) (.int .u64 (b)) (.int .u64 (m)) (.int .u64 (n)) wc))
      case first =>
        go_region_with (first | (go_at_call 13; refine (of_any _ _).mono ?_; rintro e wo ⟨rfl, Bo⟩; (try simp only [World.size_drew, World.size_alloc] at Bo); obtain ⟨ca, fa, sa, na, na'⟩ := later Bo _ (Nat.le_refl _) (by simp)) | (go_at_call 22; refine (mul_is p q 0 y m n _ up uq U64.zero hy um un HM.out).mono ?_; rintro e wm ⟨rfl, Bm⟩; (try simp only [World.size_drew, World.size_alloc] at Bm); obtain ⟨ca, fa, sa, na, na'⟩ := later Bm _ (Nat.le_refl _) (by simp)))
        all_goals
          go_wp2_with fail
          go_meet
          have zo := Bo.size; try simp at zo
          have zm := Bm.size; try simp at zm
          refine ⟨_, rfl, rfl, S22.of_below BT' k5x0_0 k5x0_1 k5x0_s ?_ ?_ ?_ ?_⟩
          · repeat' (first | exact Below.refl _ _ | with_reducible refine Below.alloc ?_ ?_ _ | with_reducible refine Below.setCell ?_ ?_ _ | with_reducible refine Below.drew ?_ | with_reducible refine below_drewN ?_ _ | refine Below.trans ?_ (Below.mono (by assumption) ?_))
            all_goals (first | omega | (simp <;> omega))
          · first | (go_simp; done) | (go_simp; exact World.cell?_setCell_same' _ _ _ (cell_some_below Bm (by first | omega | (simp <;> omega)) (by first | (go_simp; done) | exact cell_some_below Bo (by first | omega | (simp <;> omega)) (by go_simp))))
          · first | (go_simp; done) | (go_simp; exact World.cell?_setCell_same' _ _ _ (by rw [isSome_setCell]; exact (cell_some_below Bm (by first | omega | (simp <;> omega)) (by first | (go_simp; done) | exact cell_some_below Bo (by first | omega | (simp <;> omega)) (by go_simp)))))
          · first | omega | (simp <;> omega)
      case rest =>
        obtain ⟨g, rfl, rfl, hS⟩ := hcut
        clear k5x0_0 k5x0_1 k5x0_s k5x1_0 k5x1_1 k5x1_s k5x2_0 k5x2_1 k5x2_s k5x3_0 k5x3_1 k5x3_s e1 e2 BT BT' BS z4 B4
        obtain ⟨t0, t1, t2, t3, t4, t5, t6⟩ := hS.out
        have HA : Hid (W128 m n + W128 0 r = W128 a b) := by
          show _ = _
          rw [← HM.out, ← HD.out]; unfold W128; simp
        have e1 : w.heap.size < wc.heap.size + 1 := by omega
        have e2 : w.heap.size < wc.heap.size + 1 + 1 := by omega
        have e3 : g < wc.heap.size + 1 := by omega
        have e4 : g < wc.heap.size + 1 + 1 := by omega
        go_upto_region 15 with fail
        go_cut [17, 18] (fun s17 s18 wc => ∃ g : Nat, s18 = (.int .i64 (0)) ∧ s17 = .pointer (some ⟨g, 0, none⟩) ∧ Hid (S22 w g (.int .u64 (a)) (.int .u64 (b)) (.int .u64 (a)) (.int .u64 (b)) wc))
        case first =>
          go_region_with (first | (go_at_call 13; refine (of_any _ _).mono ?_; rintro e wo ⟨rfl, Bo⟩; (try simp only [World.size_drew, World.size_alloc] at Bo); obtain ⟨ca, fa, sa, na, na'⟩ := later Bo _ (Nat.le_refl _) (by simp)) | (go_at_call 20; refine (add_is m n 0 r a b _ um un U64.zero ur ha hb HA.out).mono ?_; rintro e wm ⟨rfl, Bm⟩; (try simp only [World.size_drew, World.size_alloc] at Bm); obtain ⟨ca, fa, sa, na, na'⟩ := later Bm _ (Nat.le_refl _) (by simp)))
          all_goals
            go_wp2_with fail
            go_meet
            have zo := Bo.size; try simp at zo
            have zm := Bm.size; try simp at zm
            refine ⟨_, rfl, rfl, S22.of_below t0 t1 t2 t3 ?_ ?_ ?_ ?_⟩
            · repeat' (first | exact Below.refl _ _ | with_reducible refine Below.alloc ?_ ?_ _ | with_reducible refine Below.setCell ?_ ?_ _ | with_reducible refine Below.drew ?_ | with_reducible refine below_drewN ?_ _ | refine Below.trans ?_ (Below.mono (by assumption) ?_))
              all_goals (first | omega | (simp <;> omega))
            · first | (go_simp; done) | (go_simp; exact World.cell?_setCell_same' _ _ _ (cell_some_below Bm (by first | omega | (simp <;> omega)) (by first | (go_simp; done) | exact cell_some_below Bo (by first | omega | (simp <;> omega)) (by go_simp))))
            · first | (go_simp; done) | (go_simp; exact World.cell?_setCell_same' _ _ _ (by rw [isSome_setCell]; exact (cell_some_below Bm (by first | omega | (simp <;> omega)) (by first | (go_simp; done) | exact cell_some_below Bo (by first | omega | (simp <;> omega)) (by go_simp)))))
            · first | omega | (simp <;> omega)
        case rest =>
          obtain ⟨g2, rfl, rfl, hS2⟩ := hcut
          clear t0 t1 t2 t3 t4 t5 t6 e1 e2 e3 e4
          obtain ⟨t0, t1, t2, t3, t4, t5, t6⟩ := hS2.out
          go_wp2_with fail
          go_ret
          exact ⟨rfl, hS2.out.1⟩
  · have hov' : M * M ≤ W128 a b + W128 c d := Int.not_lt.1 hov
    have hmax : W128 18446744073709551615 18446744073709551615 = M * M - 1 := by unfold W128; rw [M_lit]; omega
    obtain ⟨h, l, hh, hl, hs⟩ : ∃ h l, U64 h ∧ U64 l ∧ W128 h l = W128 18446744073709551615 18446744073709551615 - W128 a b := ⟨(M * M - 1 - W128 a b) / M, (M * M - 1 - W128 a b) % M, U64.div (by have := W128.lt ha hb; omega) (by have := W128.lt ha hb; omega), U64.mod _, by rw [W128.divmod, hmax]⟩
    have hcmp : Hid (W128 h l < W128 c d) := by
      show _ < _
      rw [hs, hmax]; omega
    have HO := hid hov'
    have HS := hid hs
    clear hs hov hov' hmax
    go_wp2_with fail
    ((with_reducible refine (add_over a b c d _ ha hb hc hd HO.out).mono ?_); rintro e w2 ⟨rfl, B2⟩)
    have zq := B2.size; try simp at zq
    obtain ⟨k2x0_0, k2x0_1⟩ := keepr2 B2 (b := w.heap.size) (x0 := (.int .u64 (a))) (x1 := (.int .u64 (b))) (by first | omega | (simp <;> omega)) (by first | assumption | go_simp) (by first | assumption | go_simp)
    have k2x0_s : w.heap.size < w2.heap.size := by omega
    obtain ⟨k2x1_0, k2x1_1⟩ := keepr2 B2 (b := (w.heap.size + 1)) (x0 := (.int .u64 (c))) (x1 := (.int .u64 (d))) (by first | omega | (simp <;> omega)) (by first | assumption | go_simp) (by first | assumption | go_simp)
    have k2x1_s : (w.heap.size + 1) < w2.heap.size := by omega
    clear zq k1x0_0 k1x0_1 k1x0_s k1x1_0 k1x1_1 k1x1_s
    go_wp2_with fail
    ((with_reducible refine (sub_is 18446744073709551615 18446744073709551615 a b h l _ z0_u z0_u ha hb hh hl HS.out.symm).mono ?_); rintro e w3 ⟨rfl, B3⟩)
    have zq := B3.size; try simp at zq
    obtain ⟨k3x0_0, k3x0_1⟩ := keepr2 B3 (b := w.heap.size) (x0 := (.int .u64 (a))) (x1 := (.int .u64 (b))) (by first | omega | (simp <;> omega)) (by first | assumption | go_simp) (by first | assumption | go_simp)
    have k3x0_s : w.heap.size < w3.heap.size := by omega
    obtain ⟨k3x1_0, k3x1_1⟩ := keepr2 B3 (b := (w.heap.size + 1)) (x0 := (.int .u64 (c))) (x1 := (.int .u64 (d))) (by first | omega | (simp <;> omega)) (by first | assumption | go_simp) (by first | assumption | go_simp)
    have k3x1_s : (w.heap.size + 1) < w3.heap.size := by omega
    clear zq k2x0_0 k2x0_1 k2x0_s k2x1_0 k2x1_1 k2x1_s
    go_wp2_with fail
    ((with_reducible refine (compare_lt h l c d _ hh hl hc hd hcmp.out).mono ?_); rintro e w3' ⟨rfl, B3'⟩)
    have zq := B3'.size; try simp at zq
    obtain ⟨k4x0_0, k4x0_1⟩ := keepr2 B3' (b := w.heap.size) (x0 := (.int .u64 (a))) (x1 := (.int .u64 (b))) (by first | omega | (simp <;> omega)) (by first | assumption | go_simp) (by first | assumption | go_simp)
    have k4x0_s : w.heap.size < w3'.heap.size := by omega
    obtain ⟨k4x1_0, k4x1_1⟩ := keepr2 B3' (b := (w.heap.size + 1)) (x0 := (.int .u64 (c))) (x1 := (.int .u64 (d))) (by first | omega | (simp <;> omega)) (by first | assumption | go_simp) (by first | assumption | go_simp)
    have k4x1_s : (w.heap.size + 1) < w3'.heap.size := by omega
    obtain ⟨k4x2_0, k4x2_1⟩ := keepr2 B3' (b := w3.heap.size) (x0 := (.int .u64 (h))) (x1 := (.int .u64 (l))) (by first | omega | (simp <;> omega)) (by first | assumption | go_simp) (by first | assumption | go_simp)
    have k4x2_s : w3.heap.size < w3'.heap.size := by omega
    clear zq k3x0_0 k3x0_1 k3x0_s k3x1_0 k3x1_1 k3x1_s
    have BS : Hid (Below w.heap.size w w3') := by
      show Below _ _ _
      have zz0 := B1.size; try simp at zz0
      have zz1 := B2.size; try simp at zz1
      have zz2 := B3.size; try simp at zz2
      have zz3 := B3'.size; try simp at zz3
      repeat' (first | exact Below.refl _ _ | with_reducible refine Below.alloc ?_ ?_ _ | with_reducible refine Below.setCell ?_ ?_ _ | with_reducible refine Below.drew ?_ | with_reducible refine below_drewN ?_ _ | refine Below.trans ?_ (Below.mono (by assumption) ?_))
      all_goals (first | omega | (simp <;> omega))
    clear B1 B2 B3 B3'
    go_wp2_with fail
    by_cases hy0 : y = 0
    · have hyb : (y == 0) = true := by simpa using hy0
      subst hy0
      go_wp2_with fail
      ((with_reducible refine (div_none a b _).mono ?_); rintro e w4 ⟨rfl, B4⟩)
      go_wp2_with fail
      go_ret
      refine ⟨rfl, ?_⟩
      exact (BS.out.trans (B4.mono BS.out.size)).alloc (by have := BS.out.size; have := B4.size; omega) _
    · have hy1 : 0 < y := by have := hy.1; omega
      have hyb : (y == 0) = false := by simpa using hy0
      clear hy0
      go_wp2_with fail
      (refine (div_some a b y _ ha hb hy hy1).mono ?_; rintro e w4 ⟨B4, p, q, r, rfl, up, uq, ur, hdiv, hr⟩)
      have HD := hid hdiv; clear hdiv
      have zq := B4.size; try simp at zq
      obtain ⟨k5x0_0, k5x0_1⟩ := keepr2 B4 (b := w.heap.size) (x0 := (.int .u64 (a))) (x1 := (.int .u64 (b))) (by first | omega | (simp <;> omega)) (by first | assumption | go_simp) (by first | assumption | go_simp)
      have k5x0_s : w.heap.size < w4.heap.size := by omega
      obtain ⟨k5x1_0, k5x1_1⟩ := keepr2 B4 (b := (w.heap.size + 1)) (x0 := (.int .u64 (c))) (x1 := (.int .u64 (d))) (by first | omega | (simp <;> omega)) (by first | assumption | go_simp) (by first | assumption | go_simp)
      have k5x1_s : (w.heap.size + 1) < w4.heap.size := by omega
      obtain ⟨k5x2_0, k5x2_1⟩ := keepr2 B4 (b := w3.heap.size) (x0 := (.int .u64 (h))) (x1 := (.int .u64 (l))) (by first | omega | (simp <;> omega)) (by first | assumption | go_simp) (by first | assumption | go_simp)
      have k5x2_s : w3.heap.size < w4.heap.size := by omega
      clear zq k4x0_0 k4x0_1 k4x0_s k4x1_0 k4x1_1 k4x1_s k4x2_0 k4x2_1 k4x2_s
      have hmul : Hid (∃ h l, U64 h ∧ U64 l ∧ W128 p q * W128 0 y = W128 h l) := by
        have := W128.lt ha hb
        have hl : W128 p q * y < M * M := by have := HD.out; have := ur.1; omega
        have hn : 0 ≤ W128 p q * y := Int.mul_nonneg (W128.lt up uq).1 hy.1
        refine ⟨W128 p q * y / M, W128 p q * y % M, U64.div hn hl, U64.mod _, ?_⟩
        rw [W128.divmod]; unfold W128; simp
      obtain ⟨m, n, um, un, hmn⟩ := hmul.out
      have HM := hid hmn; clear hmn hmul
      have BT : Hid (Below w.heap.size w w4) := BS.out.trans (B4.mono BS.out.size)
      have BT' := BT.out
      have z4 : w.heap.size ≤ w4.heap.size := BT.out.size
      have e1 : w.heap.size < w4.heap.size + 1 := by omega
      have e2 : w.heap.size < w4.heap.size + 1 + 1 := by omega
      go_upto_region 14 with fail
      go_cut [15, 16] (fun s15 s16 wc => ∃ g : Nat, s15 = (.int .i64 (0)) ∧ s16 = .pointer (some ⟨g, 0, none⟩) ∧ Hid (S22 w g (.int .u64 (a)) (.int .u64 (b)) (.int .u64 (m)) (.int .u64 (n)) wc))
      case first =>
        go_region_with (first | (go_at_call 13; refine (of_any _ _).mono ?_; rintro e wo ⟨rfl, Bo⟩; (try simp only [World.size_drew, World.size_alloc] at Bo); obtain ⟨ca, fa, sa, na, na'⟩ := later Bo _ (Nat.le_refl _) (by simp)) | (go_at_call 22; refine (mul_is p q 0 y m n _ up uq U64.zero hy um un HM.out).mono ?_; rintro e wm ⟨rfl, Bm⟩; (try simp only [World.size_drew, World.size_alloc] at Bm); obtain ⟨ca, fa, sa, na, na'⟩ := later Bm _ (Nat.le_refl _) (by simp)))
        all_goals
          go_wp2_with fail
          go_meet
          have zo := Bo.size; try simp at zo
          have zm := Bm.size; try simp at zm
          refine ⟨_, rfl, rfl, S22.of_below BT' k5x0_0 k5x0_1 k5x0_s ?_ ?_ ?_ ?_⟩
          · repeat' (first | exact Below.refl _ _ | with_reducible refine Below.alloc ?_ ?_ _ | with_reducible refine Below.setCell ?_ ?_ _ | with_reducible refine Below.drew ?_ | with_reducible refine below_drewN ?_ _ | refine Below.trans ?_ (Below.mono (by assumption) ?_))
            all_goals (first | omega | (simp <;> omega))
          · first | (go_simp; done) | (go_simp; exact World.cell?_setCell_same' _ _ _ (cell_some_below Bm (by first | omega | (simp <;> omega)) (by first | (go_simp; done) | exact cell_some_below Bo (by first | omega | (simp <;> omega)) (by go_simp))))
          · first | (go_simp; done) | (go_simp; exact World.cell?_setCell_same' _ _ _ (by rw [isSome_setCell]; exact (cell_some_below Bm (by first | omega | (simp <;> omega)) (by first | (go_simp; done) | exact cell_some_below Bo (by first | omega | (simp <;> omega)) (by go_simp)))))
          · first | omega | (simp <;> omega)
      case rest =>
        obtain ⟨g, rfl, rfl, hS⟩ := hcut
        clear k5x0_0 k5x0_1 k5x0_s k5x1_0 k5x1_1 k5x1_s k5x2_0 k5x2_1 k5x2_s e1 e2 BT BT' BS z4 B4
        obtain ⟨t0, t1, t2, t3, t4, t5, t6⟩ := hS.out
        have HA : Hid (W128 m n + W128 0 r = W128 a b) := by
          show _ = _
          rw [← HM.out, ← HD.out]; unfold W128; simp
        have e1 : w.heap.size < wc.heap.size + 1 := by omega
        have e2 : w.heap.size < wc.heap.size + 1 + 1 := by omega
        have e3 : g < wc.heap.size + 1 := by omega
        have e4 : g < wc.heap.size + 1 + 1 := by omega
        go_upto_region 15 with fail
        go_cut [17, 18] (fun s17 s18 wc => ∃ g : Nat, s18 = (.int .i64 (0)) ∧ s17 = .pointer (some ⟨g, 0, none⟩) ∧ Hid (S22 w g (.int .u64 (a)) (.int .u64 (b)) (.int .u64 (a)) (.int .u64 (b)) wc))
        case first =>
          go_region_with (first | (go_at_call 13; refine (of_any _ _).mono ?_; rintro e wo ⟨rfl, Bo⟩; (try simp only [World.size_drew, World.size_alloc] at Bo); obtain ⟨ca, fa, sa, na, na'⟩ := later Bo _ (Nat.le_refl _) (by simp)) | (go_at_call 20; refine (add_is m n 0 r a b _ um un U64.zero ur ha hb HA.out).mono ?_; rintro e wm ⟨rfl, Bm⟩; (try simp only [World.size_drew, World.size_alloc] at Bm); obtain ⟨ca, fa, sa, na, na'⟩ := later Bm _ (Nat.le_refl _) (by simp)))
          all_goals
            go_wp2_with fail
            go_meet
            have zo := Bo.size; try simp at zo
            have zm := Bm.size; try simp at zm
            refine ⟨_, rfl, rfl, S22.of_below t0 t1 t2 t3 ?_ ?_ ?_ ?_⟩
            · repeat' (first | exact Below.refl _ _ | with_reducible refine Below.alloc ?_ ?_ _ | with_reducible refine Below.setCell ?_ ?_ _ | with_reducible refine Below.drew ?_ | with_reducible refine below_drewN ?_ _ | refine Below.trans ?_ (Below.mono (by assumption) ?_))
              all_goals (first | omega | (simp <;> omega))
            · first | (go_simp; done) | (go_simp; exact World.cell?_setCell_same' _ _ _ (cell_some_below Bm (by first | omega | (simp <;> omega)) (by first | (go_simp; done) | exact cell_some_below Bo (by first | omega | (simp <;> omega)) (by go_simp))))
            · first | (go_simp; done) | (go_simp; exact World.cell?_setCell_same' _ _ _ (by rw [isSome_setCell]; exact (cell_some_below Bm (by first | omega | (simp <;> omega)) (by first | (go_simp; done) | exact cell_some_below Bo (by first | omega | (simp <;> omega)) (by go_simp)))))
            · first | omega | (simp <;> omega)
        case rest =>
          obtain ⟨g2, rfl, rfl, hS2⟩ := hcut
          clear t0 t1 t2 t3 t4 t5 t6 e1 e2 e3 e4
          obtain ⟨t0, t1, t2, t3, t4, t5, t6⟩ := hS2.out
          go_wp2_with fail
          go_ret
          exact ⟨rfl, hS2.out.1⟩
end Go.Proofs.YtdpcfpmlkhdmkaaDoor
