/- the law WideMore: its walk. -/
import Derived.Test.YtdpcfpmlkhdmkaaDoorL1
import Derived.Test.YtdpcfpmlkhdmkaaDoorR8
import Derived.Test.YtdpcfpmlkhdmkaaDoorS1
namespace Go.Proofs.YtdpcfpmlkhdmkaaDoor
open Go.RowKit

theorem power_any (a b n : Int) (w : World) (g : One w) (ha : U64 a) (hb : U64 b) (h0 : 0 ≤ n) (hn : n ≤ 9223372036854775807) :
    Calls Tryd.prog 16 #[.agg #[(.int .u64 (a)), (.int .u64 (b))], (.int .i64 (n))] w (Checked (W128 a b ^ n.toNat) w) := by
  obtain ⟨n, rfl⟩ := Int.eq_ofNat_of_zero_le h0
  by_cases h : W128 a b ≤ 1
  · exact power_small a b n w g ha hb h hn
  · exact power_big a b n w g ha hb (by omega) hn
theorem Got.pow {X Z x y c : Int} {n : Nat} (h : Got (X ^ n) x y c) (hp : Pow X n Z) : Got Z x y c := by
  rcases hp with ⟨h1, rfl⟩ | ⟨h1, h2⟩
  · exact h
  · rcases h with ⟨h3, _⟩ | ⟨_, h4, h5, h6⟩
    · exact absurd h3 h1
    · exact .inr ⟨h2, h4, h5, h6⟩
theorem plus_np (va vb : Value) (X Y : Int) (w : World) (ha : Num w va X) (hb : Num w vb Y) (hX : X < P16 10000) (hY : Y < P16 10000) : Calls Tryd.prog 10 #[va, vb] w fun e w' => (∃ v', e = .returned v' ∧ Num w' v' (X + Y)) ∧ Below w.heap.size w w' := by
  obtain ⟨l, h1, h2, h3, rfl, h5⟩ := ha.row hX
  obtain ⟨m, k1, k2, k3, rfl, k5⟩ := hb.row hY
  exact plus_num va vb l m w h1 k1 h2 k2 (by omega) (by omega)
theorem MM12 : 12 * (M * M) < P16 10000 := by
  have h : P16 9 ≤ P16 10000 := P16_le (by omega)
  have h9 : 12 * (M * M) < P16 9 := by rw [P16_succ, P16_8]; have := P16_pos 8; rw [P16_8] at this; omega
  omega

theorem bel_step {w W W' : World} (h : Below w.heap.size w W) (B : Below W.heap.size W W') : Below w.heap.size w W' := h.trans (B.mono h.size)
theorem blift {W W' : World} {o : Obj} (B : Below (W.alloc o).heap.size (W.alloc o) W') : Below W.heap.size W W' := (below_alloc W o).trans (B.mono (by simp))
abbrev A1 (w : World) (T : Nat) (x y : Int) (W : World) : Prop := Below w.heap.size w W ∧ W.cell? ⟨T, 0, none⟩ = some (.int .u64 (x)) ∧ W.cell? ⟨T, 1, none⟩ = some (.int .u64 (y)) ∧ T < W.heap.size
theorem A1.keep {w : World} {T : Nat} {x y : Int} {W W' : World} (h : A1 w T x y W) (B : Below W.heap.size W W') : A1 w T x y W' :=
  ⟨bel_step h.1 B, cellB B h.2.1, cellB B h.2.2.1, by have := B.size; have := h.2.2.2; omega⟩
abbrev A2 (w : World) (T : Nat) (x y : Int) (R : Nat) (p q : Int) (W : World) : Prop := Below w.heap.size w W ∧ W.cell? ⟨T, 0, none⟩ = some (.int .u64 (x)) ∧ W.cell? ⟨T, 1, none⟩ = some (.int .u64 (y)) ∧ T < W.heap.size ∧ W.cell? ⟨R, 0, none⟩ = some (.int .u64 (p)) ∧ W.cell? ⟨R, 1, none⟩ = some (.int .u64 (q)) ∧ R < W.heap.size
theorem A2.keep {w : World} {T : Nat} {x y : Int} {R : Nat} {p q : Int} {W W' : World} (h : A2 w T x y R p q W) (B : Below W.heap.size W W') : A2 w T x y R p q W' :=
  ⟨bel_step h.1 B, cellB B h.2.1, cellB B h.2.2.1, by have := B.size; have := h.2.2.2.1; omega, cellB B h.2.2.2.2.1, cellB B h.2.2.2.2.2.1, by have := B.size; have := h.2.2.2.2.2.2; omega⟩

set_option maxRecDepth 100000 in
set_option maxHeartbeats 4000000 in
theorem more_any (v : Value) (l0 : List (Int × Int)) (y n : Int) (w : World) (hr : WRow w v l0) (hu : WU l0) (hy : U64 y) (hn : n ≤ 9223372036854775807) (hn' : -9223372036854775808 ≤ n) (g : One w) (hlen : (l0.length : Int) ≤ 9223372036854775807) : Calls Tryd.prog 3 #[v, (.int .u64 (y)), (.int .i64 (n))] w fun e w' => e = .returned (.bool true) ∧ Below w.heap.size w w' := by
  obtain ⟨pa, ca, rfl⟩ := hr.form
  obtain ⟨hca, hpn⟩ : l0.length ≤ ca ∧ (pa = none → ca = 0) := by
    obtain ⟨p', cap', e, h1, h2, h3⟩ := id hr
    simp only [Value.slice.injEq, true_and] at e
    obtain ⟨rfl, rfl⟩ := e
    exact ⟨h1, h2⟩
  obtain ⟨K, hK⟩ : ∃ K, min l0.length 12 = K := ⟨_, rfl⟩
  have HR := hid (hr.take K (by omega)); have HU : Hid (WU (l0.take K)) := fun x hx => hu x (List.mem_of_mem_take hx)
  have HLEN : Hid ((l0.take K).length = K) := by show _ = _; rw [List.length_take]; omega
  have HG := hid g
  have hmin : min (l0.length : Int) 12 = (K : Int) := by omega
  have hK12 : K ≤ 12 := by omega
  have hKl : K ≤ l0.length := by omega
  clear hr hu g hK
  generalize l0.take K = l at *
  go_enter Tryd.func3, Tryd.ntmps3
  go_wp2_with fail
  ((with_reducible refine (wakes_any _ HG.out).mono ?_); rintro e w1 ⟨rfl, B1⟩)
  have BB1 := hid B1; clear B1
  go_wp2_with fail
  have PB : Hid (∀ k, sumW (l.take k) < P16 10000) := fun k => by
    have h : WU (l.take k) := fun x hx => HU.out x (List.mem_of_mem_take hx)
    have a := sumW_le h
    have b := MM12
    have c : (l.take k).length ≤ 12 := by have := HLEN.out; rw [List.length_take]; omega
    have d : ((l.take k).length : Int) * (M * M) ≤ 12 * (M * M) := Int.mul_le_mul_of_nonneg_right (by omega) (by rw [M_lit]; omega)
    omega
  go_loopw [7, 27] (fun v7 v27 wr => ∃ k : Nat, v27 = (.int .i64 (k)) ∧ k ≤ K ∧ Hid (Num wr v7 (sumW (l.take k))) ∧ Hid (Below w.heap.size w wr)) (fun _ v27 _ => K - (intOf v27).toNat)
  case atStart => exact ⟨0, rfl, Nat.zero_le _, ⟨[], Row.nil _, Digs.nil, Trim.nil, by simp [sumW, numD]⟩, BB1⟩
  case round =>
    clear BB1
    obtain ⟨k, rfl, hk, N7, BEL⟩ := hrel
    by_cases hgo : k < K
    · have hgo' : (k : Int) < (K : Int) := by omega
      have hkl : k < l.length := by have := HLEN.out; omega
      obtain ⟨g, o, cap, hv, hcell⟩ := (HR.out.below BEL.out).cell (by omega)
      simp only [Value.slice.injEq] at hv
      obtain ⟨rfl, -, -⟩ := hv
      obtain ⟨d0, d1⟩ := hcell k hkl
      have SU := hid (sumW_take_succ l k hkl)
      obtain ⟨ua, ub⟩ := HU.out l[k] (List.getElem_mem hkl)
      generalize l[k] = x at *
      obtain ⟨a, b⟩ := x
      simp only at d0 d1 ua ub
      clear hcell
      have HW := hid (W128.lt ua ub)
      go_wp2_with fail
      refine (rdigits_any a b _ ua ub).mono ?_
      rintro e w2 ⟨⟨v1, rfl, n1⟩, B⟩
      have N1 := hid n1
      have b9 := hid ((Bx.new _ _ _ _).keep B)
      replace B := blift B
      clear n1 d0 d1
      generalize wr.heap.size = E9 at b9 ⊢
      replace BEL := hid (bel_step BEL.out B)
      replace N7 := hid (N7.out.below B)
      clear B
      go_wp2_with fail
      refine (plus_np _ _ _ _ _ N7.out N1.out (PB.out k) (Int.lt_trans HW.out.2 MM_lt)).mono ?_
      rintro e w3 ⟨⟨v7, rfl, n7⟩, B⟩
      rw [← SU.out] at n7
      replace BEL := hid (bel_step BEL.out B)
      replace N7 := hid (N7.out.below B)
      replace b9 := hid (b9.out.keep B)
      clear B
      have N7 := hid n7; clear n7 SU
      obtain ⟨b9_0, b9_1, b9_s⟩ := b9.out
      go_wp2_with fail
      by_cases hy0 : y = 0
      · subst hy0
        refine (div_none a b _).mono ?_
        rintro e w4 ⟨rfl, B⟩
        have b10 := hid ((Bx.new w4 0 0 27))
        replace BEL := hid (bel_step BEL.out B)
        replace N7 := hid (N7.out.below B)
        replace b9 := hid (b9.out.keep B)
        clear B
        have B : Below w4.heap.size w4 (w4.alloc (.cells #[(.int .u64 (0)), (.int .u64 (0))] 27)) := below_alloc _ _
        replace BEL := hid (bel_step BEL.out B)
        replace N7 := hid (N7.out.below B)
        replace b9 := hid (b9.out.keep B)
        clear B
        go_wp2_with fail
        generalize (w4.alloc (.cells #[(.int .u64 (0)), (.int .u64 (0))] 27)) = W5 at *
        generalize w4.heap.size = E10 at *
        have st : A2 w E9 a b E10 0 0 W5.drew := ⟨BEL.out.drew, b9.out.1, b9.out.2.1, b9.out.2.2, b10.out.1, b10.out.2.1, b10.out.2.2⟩
        have N7 : Hid (Num W5.drew v7 (sumW (l.take (k + 1)))) := N7
        clear b9 b10 BEL
        go_region_held3 (fun w' => Below w.heap.size w w' ∧ w'.cell? ⟨E9, 0, none⟩ = some (.int .u64 (a)) ∧ w'.cell? ⟨E9, 1, none⟩ = some (.int .u64 (b)) ∧ E9 < w'.heap.size ∧ w'.cell? ⟨E10, 0, none⟩ = some (.int .u64 (0)) ∧ w'.cell? ⟨E10, 1, none⟩ = some (.int .u64 (0)) ∧ E10 < w'.heap.size) (first | assumption | go_keep)
          (first | (go_at_call 13; refine (of_any _ _).mono ?_; rintro e w6 ⟨rfl, B⟩; have hx := A2.keep (by assumption) B; have N7 := hid (N7.out.below B); clear B))
        have hz := (by assumption : A2 w E9 a b E10 0 0 w6)
        have BEL := hid hz.1
        have b9 := hid (show Bx E9 a b w6 from ⟨hz.2.1, hz.2.2.1, hz.2.2.2.1⟩)
        clear hz st b9_0 b9_1 b9_s
        obtain ⟨b9_0, b9_1, b9_s⟩ := b9.out
        go_wp2_with fail
        by_cases hn0 : n < 0
        · refine (power_neg a b n _ hn0).mono ?_
          rintro e wp ⟨rfl, B⟩
          have b14 := hid ((Bx.new wp 0 0 27))
          replace BEL := hid (bel_step BEL.out B)
          replace N7 := hid (N7.out.below B)
          clear B
          have B : Below wp.heap.size wp (wp.alloc (.cells #[(.int .u64 (0)), (.int .u64 (0))] 27)) := below_alloc _ _
          replace BEL := hid (bel_step BEL.out B)
          replace N7 := hid (N7.out.below B)
          clear B
          go_wp2_with fail
          generalize (wp.alloc (.cells #[(.int .u64 (0)), (.int .u64 (0))] 27)) = W8 at *
          generalize wp.heap.size = E14 at *
          have st : A1 w E14 0 0 W8.drew := ⟨BEL.out.drew, b14.out.1, b14.out.2.1, b14.out.2.2⟩
          have N7 : Hid (Num W8.drew v7 (sumW (l.take (k + 1)))) := N7
          clear b14 BEL
          go_region_held3 (fun w' => Below w.heap.size w w' ∧ w'.cell? ⟨E14, 0, none⟩ = some (.int .u64 (0)) ∧ w'.cell? ⟨E14, 1, none⟩ = some (.int .u64 (0)) ∧ E14 < w'.heap.size) (first | assumption | go_keep)
            (first | (go_at_call 13; refine (of_any _ _).mono ?_; rintro e w9 ⟨rfl, B⟩; have hx := A1.keep (by assumption) B; have N7 := hid (N7.out.below B); clear B))
          have hz := hid (by assumption : A1 w E14 0 0 w9)
          go_wp2_with fail
          exact ⟨⟨k + 1, by simp, hgo, N7, hz.out.1⟩, by simp [intOf]; omega⟩
        · refine (power_any a b n _ (HG.out.below HG.out.1 BEL.out) ua ub (by omega) hn).mono ?_
          rintro e wp hq
          obtain ⟨B, x, z, r', rfl, q'⟩ := hq.got
          have GP := hid q'
          clear hq q'
          have b14 := hid ((Bx.new wp x z 27))
          replace BEL := hid (bel_step BEL.out B)
          replace N7 := hid (N7.out.below B)
          replace b9 := hid (b9.out.keep B)
          clear B
          have B : Below wp.heap.size wp (wp.alloc (.cells #[(.int .u64 (x)), (.int .u64 (z))] 27)) := below_alloc _ _
          replace BEL := hid (bel_step BEL.out B)
          replace N7 := hid (N7.out.below B)
          replace b9 := hid (b9.out.keep B)
          clear B
          go_wp2_with fail
          generalize (wp.alloc (.cells #[(.int .u64 (x)), (.int .u64 (z))] 27)) = W8 at *
          generalize wp.heap.size = E14 at *
          have st : A2 w E9 a b E14 x z W8.drew := ⟨BEL.out.drew, b9.out.1, b9.out.2.1, b9.out.2.2, b14.out.1, b14.out.2.1, b14.out.2.2⟩
          have N7 : Hid (Num W8.drew v7 (sumW (l.take (k + 1)))) := N7
          clear b14 BEL b9
          go_region_held3 (fun w' => Below w.heap.size w w' ∧ w'.cell? ⟨E9, 0, none⟩ = some (.int .u64 (a)) ∧ w'.cell? ⟨E9, 1, none⟩ = some (.int .u64 (b)) ∧ E9 < w'.heap.size ∧ w'.cell? ⟨E14, 0, none⟩ = some (.int .u64 (x)) ∧ w'.cell? ⟨E14, 1, none⟩ = some (.int .u64 (z)) ∧ E14 < w'.heap.size) (first | assumption | go_keep)
            (first | (go_at_call 11; refine (rdigits_any a b _ ua ub).mono ?_; rintro e w9 ⟨⟨v8, rfl, n8⟩, B⟩; have N8 := hid n8; clear n8; have hx := A2.keep (by assumption) B; have N7 := hid (N7.out.below B); clear B) | (go_at_call 17; refine (power_num v8 _ n _ N8.out HW.out.2 (by omega) hn).mono ?_; rintro e wa ⟨⟨v9, Z, rfl, n9, p9⟩, B⟩; have N9 := hid n9; have P9 := hid p9; clear n9 p9; have hx := A2.keep (by assumption) B; have N7 := hid (N7.out.below B); clear B) | (go_at_call 15; refine (like_any x z r' Z v9 _ (GP.out.pow P9.out) N9.out).mono ?_; rintro e wb ⟨rfl, B⟩; have hx := A2.keep (by assumption) B; have N7 := hid (N7.out.below B); clear B))
          have hz := hid (by assumption : A2 w E9 a b E14 x z wb)
          go_wp2_with fail
          exact ⟨⟨k + 1, by simp, hgo, N7, hz.out.1⟩, by simp [intOf]; omega⟩
      · have hyb : (y == 0) = false := by simpa using hy0
        have hy1 : 0 < y := by have := hy.1; omega
        clear hy0
        refine (div_some a b y _ ua ub hy hy1).mono ?_
        rintro e w4 ⟨B, p, q, r, rfl, up, uq, ur, hdiv, hr⟩
        have HD := hid hdiv; have HQ := hid (W128.lt up uq)
        have hr' : ¬ y ≤ r := by omega
        clear hdiv
        have b10 := hid ((Bx.new w4 p q 27))
        replace BEL := hid (bel_step BEL.out B)
        replace N7 := hid (N7.out.below B)
        replace b9 := hid (b9.out.keep B)
        clear B
        have B : Below w4.heap.size w4 (w4.alloc (.cells #[(.int .u64 (p)), (.int .u64 (q))] 27)) := below_alloc _ _
        replace BEL := hid (bel_step BEL.out B)
        replace N7 := hid (N7.out.below B)
        replace b9 := hid (b9.out.keep B)
        clear B
        go_wp2_with fail
        generalize (w4.alloc (.cells #[(.int .u64 (p)), (.int .u64 (q))] 27)) = W5 at *
        clear b9_0 b9_1 b9_s
        refine (rdigits_any p q _ up uq).mono ?_
        rintro e w5 ⟨⟨va, rfl, na⟩, B⟩
        have NA := hid na; clear na
        replace BEL := hid (bel_step BEL.out B)
        replace N7 := hid (N7.out.below B)
        replace b9 := hid (b9.out.keep B)
        clear B
        go_wp2_with fail
        refine (of_any y _).mono ?_
        rintro e w6 ⟨rfl, B⟩
        replace BEL := hid (bel_step BEL.out B)
        replace N7 := hid (N7.out.below B)
        replace NA := hid (NA.out.below B)
        replace b9 := hid (b9.out.keep B)
        clear B
        go_wp2_with fail
        refine (rdigits_any 0 y _ U64.zero hy).mono ?_
        rintro e w7 ⟨⟨vb, rfl, nb⟩, B⟩
        replace BEL := hid (bel_step BEL.out B)
        replace N7 := hid (N7.out.below B)
        replace NA := hid (NA.out.below B)
        replace b9 := hid (b9.out.keep B)
        clear B
        have NB := hid nb; clear nb
        go_wp2_with fail
        refine (times_nn _ _ _ _ _ NA.out NB.out HQ.out.2 (W128.lt U64.zero hy).2).mono ?_
        rintro e w8 ⟨⟨vc, rfl, nc⟩, B⟩
        replace BEL := hid (bel_step BEL.out B)
        replace N7 := hid (N7.out.below B)
        replace b9 := hid (b9.out.keep B)
        clear B
        have NC := hid nc; clear nc
        go_wp2_with fail
        refine (of_any r _).mono ?_
        rintro e w9 ⟨rfl, B⟩
        replace BEL := hid (bel_step BEL.out B)
        replace N7 := hid (N7.out.below B)
        replace NC := hid (NC.out.below B)
        replace b9 := hid (b9.out.keep B)
        clear B
        go_wp2_with fail
        refine (rdigits_any 0 r _ U64.zero ur).mono ?_
        rintro e w10 ⟨⟨vd, rfl, nd⟩, B⟩
        replace BEL := hid (bel_step BEL.out B)
        replace N7 := hid (N7.out.below B)
        replace NC := hid (NC.out.below B)
        replace b9 := hid (b9.out.keep B)
        clear B
        have ND := hid nd; clear nd
        have ES : Hid (W128 p q * W128 0 y + W128 0 r = W128 a b) := by
          show _ = _
          rw [← HD.out]; unfold W128; simp
        have hlt : W128 p q * W128 0 y < P16 10000 := by
          have := ES.out; have := HW.out.2; have := MM_lt; have := (W128.lt U64.zero ur).1; omega
        go_wp2_with fail
        refine (plus_np _ _ _ _ _ NC.out ND.out hlt (Int.lt_trans (W128.lt U64.zero ur).2 MM_lt)).mono ?_
        rintro e w11 ⟨⟨ve, rfl, ne⟩, B⟩
        rw [ES.out] at ne
        replace BEL := hid (bel_step BEL.out B)
        replace N7 := hid (N7.out.below B)
        replace b9 := hid (b9.out.keep B)
        clear B
        have NE := hid ne; clear ne
        have GL : Hid (Got (W128 a b) a b 0) := .inl ⟨HW.out.2, rfl, ua, ub, rfl⟩
        obtain ⟨b9_0, b9_1, b9_s⟩ := b9.out
        go_wp2_with fail
        refine (like_any a b 0 _ _ _ GL.out NE.out).mono ?_
        rintro e w12 ⟨rfl, B⟩
        replace BEL := hid (bel_step BEL.out B)
        replace N7 := hid (N7.out.below B)
        replace b9 := hid (b9.out.keep B)
        clear B
        clear b9_0 b9_1 b9_s
        obtain ⟨b9_0, b9_1, b9_s⟩ := b9.out
        go_wp2_with fail
        by_cases hn0 : n < 0
        · refine (power_neg a b n _ hn0).mono ?_
          rintro e wp ⟨rfl, B⟩
          have b14 := hid ((Bx.new wp 0 0 27))
          replace BEL := hid (bel_step BEL.out B)
          replace N7 := hid (N7.out.below B)
          clear B
          have B : Below wp.heap.size wp (wp.alloc (.cells #[(.int .u64 (0)), (.int .u64 (0))] 27)) := below_alloc _ _
          replace BEL := hid (bel_step BEL.out B)
          replace N7 := hid (N7.out.below B)
          clear B
          go_wp2_with fail
          generalize (wp.alloc (.cells #[(.int .u64 (0)), (.int .u64 (0))] 27)) = W8 at *
          generalize wp.heap.size = E14 at *
          have st : A1 w E14 0 0 W8.drew := ⟨BEL.out.drew, b14.out.1, b14.out.2.1, b14.out.2.2⟩
          have N7 : Hid (Num W8.drew v7 (sumW (l.take (k + 1)))) := N7
          clear b14 BEL
          go_region_held3 (fun w' => Below w.heap.size w w' ∧ w'.cell? ⟨E14, 0, none⟩ = some (.int .u64 (0)) ∧ w'.cell? ⟨E14, 1, none⟩ = some (.int .u64 (0)) ∧ E14 < w'.heap.size) (first | assumption | go_keep)
            (first | (go_at_call 13; refine (of_any _ _).mono ?_; rintro e w9 ⟨rfl, B⟩; have hx := A1.keep (by assumption) B; have N7 := hid (N7.out.below B); clear B))
          have hz := hid (by assumption : A1 w E14 0 0 w9)
          go_wp2_with fail
          exact ⟨⟨k + 1, by simp, hgo, N7, hz.out.1⟩, by simp [intOf]; omega⟩
        · refine (power_any a b n _ (HG.out.below HG.out.1 BEL.out) ua ub (by omega) hn).mono ?_
          rintro e wp hq
          obtain ⟨B, x, z, r', rfl, q'⟩ := hq.got
          have GP := hid q'
          clear hq q'
          have b14 := hid ((Bx.new wp x z 27))
          replace BEL := hid (bel_step BEL.out B)
          replace N7 := hid (N7.out.below B)
          replace b9 := hid (b9.out.keep B)
          clear B
          have B : Below wp.heap.size wp (wp.alloc (.cells #[(.int .u64 (x)), (.int .u64 (z))] 27)) := below_alloc _ _
          replace BEL := hid (bel_step BEL.out B)
          replace N7 := hid (N7.out.below B)
          replace b9 := hid (b9.out.keep B)
          clear B
          go_wp2_with fail
          generalize (wp.alloc (.cells #[(.int .u64 (x)), (.int .u64 (z))] 27)) = W8 at *
          generalize wp.heap.size = E14 at *
          have st : A2 w E9 a b E14 x z W8.drew := ⟨BEL.out.drew, b9.out.1, b9.out.2.1, b9.out.2.2, b14.out.1, b14.out.2.1, b14.out.2.2⟩
          have N7 : Hid (Num W8.drew v7 (sumW (l.take (k + 1)))) := N7
          clear b14 BEL b9
          go_region_held3 (fun w' => Below w.heap.size w w' ∧ w'.cell? ⟨E9, 0, none⟩ = some (.int .u64 (a)) ∧ w'.cell? ⟨E9, 1, none⟩ = some (.int .u64 (b)) ∧ E9 < w'.heap.size ∧ w'.cell? ⟨E14, 0, none⟩ = some (.int .u64 (x)) ∧ w'.cell? ⟨E14, 1, none⟩ = some (.int .u64 (z)) ∧ E14 < w'.heap.size) (first | assumption | go_keep)
            (first | (go_at_call 11; refine (rdigits_any a b _ ua ub).mono ?_; rintro e w9 ⟨⟨v8, rfl, n8⟩, B⟩; have N8 := hid n8; clear n8; have hx := A2.keep (by assumption) B; have N7 := hid (N7.out.below B); clear B) | (go_at_call 17; refine (power_num v8 _ n _ N8.out HW.out.2 (by omega) hn).mono ?_; rintro e wa ⟨⟨v9, Z, rfl, n9, p9⟩, B⟩; have N9 := hid n9; have P9 := hid p9; clear n9 p9; have hx := A2.keep (by assumption) B; have N7 := hid (N7.out.below B); clear B) | (go_at_call 15; refine (like_any x z r' Z v9 _ (GP.out.pow P9.out) N9.out).mono ?_; rintro e wb ⟨rfl, B⟩; have hx := A2.keep (by assumption) B; have N7 := hid (N7.out.below B); clear B))
          have hz := hid (by assumption : A2 w E9 a b E14 x z wb)
          go_wp2_with fail
          exact ⟨⟨k + 1, by simp, hgo, N7, hz.out.1⟩, by simp [intOf]; omega⟩
    · have h1' : ¬ (k : Int) < (K : Int) := by omega
      have hkk : l.take k = l := by rw [List.take_of_length_le]; have := HLEN.out; omega
      rw [hkk] at N7
      clear hgo
      go_wp2_with fail
      refine (sum_any _ l _ (HR.out.below BEL.out) HU.out (by have := HLEN.out; omega)).mono ?_
      rintro e w2 hq
      obtain ⟨B, x, z, r, rfl, q⟩ := hq.got
      have GS := hid q
      have b16 := hid (Bx.new w2 x z 27)
      clear hq q
      replace BEL := hid (bel_step BEL.out B)
      replace N7 := hid (N7.out.below B)
      clear B
      have B := below_alloc w2 (.cells #[(.int .u64 (x)), (.int .u64 (z))] 27)
      replace BEL := hid (bel_step BEL.out B)
      replace N7 := hid (N7.out.below B)
      clear B
      go_wp2_with fail
      refine (like_any x z r _ _ _ GS.out N7.out).mono ?_
      rintro e w3 ⟨rfl, B⟩
      replace BEL := hid (bel_step BEL.out B)
      replace N7 := hid (N7.out.below B)
      clear B
      go_wp2_with fail
      go_ret
      exact ⟨rfl, BEL.out⟩
end Go.Proofs.YtdpcfpmlkhdmkaaDoor
