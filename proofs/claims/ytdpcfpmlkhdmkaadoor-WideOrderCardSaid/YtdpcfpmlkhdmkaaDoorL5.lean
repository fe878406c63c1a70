/- the law WideOrder: its walk. -/
import Derived.Test.YtdpcfpmlkhdmkaaDoorO2
namespace Go.Proofs.YtdpcfpmlkhdmkaaDoor
open Go.RowKit

theorem Got.uniq {N x y c x' y' c' : Int} (h : Got N x y c) (h' : Got N x' y' c') : x' = x ∧ y' = y ∧ c' = c := by
  rcases h with ⟨h1, h2, h3, h4, h5⟩ | ⟨h1, h2, h3, h4⟩
  · rcases h' with ⟨_, k2, k3, k4, k5⟩ | ⟨k1, _⟩
    · obtain ⟨e1, e2⟩ := W128.inj' k3 k4 h3 h4 (k5.trans h5.symm)
      exact ⟨e1, e2, by rw [h2, k2]⟩
    · exact absurd h1 k1
  · rcases h' with ⟨k1, _⟩ | ⟨_, k2, k3, k4⟩
    · exact absurd k1 h1
    · exact ⟨by rw [h3, k3], by rw [h4, k4], by rw [h2, k2]⟩
theorem Got.c {N x y c : Int} (h : Got N x y c) : (c = 0 ∧ N < M * M ∧ U64 x ∧ U64 y ∧ W128 x y = N) ∨ c = 110 := by
  rcases h with ⟨h1, h2, h3, h4, h5⟩ | ⟨_, h2, _⟩
  · exact .inl ⟨h2, h1, h3, h4, h5⟩
  · exact .inr h2
theorem Got.u {N x y c : Int} (h : Got N x y c) : U64 x ∧ U64 y := by
  rcases h with ⟨_, _, h3, h4, _⟩ | ⟨_, _, rfl, rfl⟩
  · exact ⟨h3, h4⟩
  · exact ⟨U64.zero, U64.zero⟩
theorem sumW_perm {l m : List (Int × Int)} (h : l.Perm m) : sumW l = sumW m := by
  induction h with
  | nil => rfl
  | cons x _ ih => simp only [sumW, ih]
  | swap x y l => simp only [sumW]; omega
  | trans _ _ ih1 ih2 => exact ih1.trans ih2
theorem Bx.keepK {K : Nat → Prop} {T : Nat} {x y : Int} {W W' : World} (h : Bx T x y W) (hk : Keeps K W W') (hK : K T) : Bx T x y W' :=
  ⟨(hk.cell h.2.2 hK).trans h.1, (hk.cell h.2.2 hK).trans h.2.1, by have := hk.size; have := h.2.2; omega⟩
theorem bel_keep {K : Nat → Prop} {w W W' : World} (h : Below w.heap.size w W) (hk : Keeps K W W') (hK : ∀ k, k < w.heap.size → K k) : Below w.heap.size w W' :=
  ⟨hk.os.trans h.os, hk.tape.trans h.tape, hk.output.trans h.output, Nat.le_trans h.size hk.size, fun k hk' => (hk.block k (by have := h.size; omega) (hK k hk')).trans (h.block k hk')⟩
theorem cmpI_neg (x y : Int) : cmpI y x = - cmpI x y := by
  unfold cmpI
  repeat' split
  all_goals omega
theorem cmpI_small (x y : Int) : -1 ≤ cmpI x y ∧ cmpI x y ≤ 1 := by
  unfold cmpI
  repeat' split
  all_goals omega
/-- the plain law: a product spreads over a sum. -/
theorem spread {a b c x11 y11 c12 x17 y17 c18 x19 y19 c20 x21 y21 c22 x23 y23 c24 : Int} (ha : 0 ≤ a) (hb : 0 ≤ b) (hc : 0 ≤ c)
    (g11 : Got (a * b) x11 y11 c12) (g17 : Got (b + c) x17 y17 c18) (g19 : Got (a * W128 x17 y17) x19 y19 c20) (g21 : Got (a * c) x21 y21 c22) (g23 : Got (W128 x11 y11 + W128 x21 y21) x23 y23 c24)
    (h18 : c18 = 0) (h20 : c20 = 0) : c12 = 0 ∧ c22 = 0 ∧ c24 = 0 ∧ x23 = x19 ∧ y23 = y19 := by
  obtain ⟨-, h1, -, -, e17⟩ | h := g17.c
  · rw [e17] at g19
    obtain ⟨-, h2, -, -, e19⟩ | h := g19.c
    · have hab : a * (b + c) = a * b + a * c := Int.mul_add _ _ _
      have p1 : 0 ≤ a * b := Int.mul_nonneg ha hb
      have p2 : 0 ≤ a * c := Int.mul_nonneg ha hc
      have q1 : a * b < M * M := by omega
      have q2 : a * c < M * M := by omega
      rcases g11 with ⟨_, k1, _, _, e11⟩ | ⟨k, _⟩
      · rcases g21 with ⟨_, k2, _, _, e21⟩ | ⟨k, _⟩
        · rw [e11, e21, ← hab] at g23
          obtain ⟨u1, u2, u3⟩ := g19.uniq g23
          exact ⟨k1, k2, by rw [u3, h20], u1, u2⟩
        · exact absurd q2 k
      · exact absurd q1 k
    · omega
  · omega

abbrev A6 (w : World) (T7 T9 T11 T13 : Nat) (a b c d x7 y7 x11 y11 : Int) (W : World) : Prop :=
  Below w.heap.size w W ∧ W.cell? ⟨w.heap.size, 0, none⟩ = some (.int .u64 (a)) ∧ W.cell? ⟨w.heap.size, 1, none⟩ = some (.int .u64 (b)) ∧ w.heap.size < W.heap.size ∧ W.cell? ⟨(w.heap.size + 1), 0, none⟩ = some (.int .u64 (c)) ∧ W.cell? ⟨(w.heap.size + 1), 1, none⟩ = some (.int .u64 (d)) ∧ (w.heap.size + 1) < W.heap.size ∧ W.cell? ⟨T7, 0, none⟩ = some (.int .u64 (x7)) ∧ W.cell? ⟨T7, 1, none⟩ = some (.int .u64 (y7)) ∧ T7 < W.heap.size ∧ W.cell? ⟨T9, 0, none⟩ = some (.int .u64 (x7)) ∧ W.cell? ⟨T9, 1, none⟩ = some (.int .u64 (y7)) ∧ T9 < W.heap.size ∧ W.cell? ⟨T11, 0, none⟩ = some (.int .u64 (x11)) ∧ W.cell? ⟨T11, 1, none⟩ = some (.int .u64 (y11)) ∧ T11 < W.heap.size ∧ W.cell? ⟨T13, 0, none⟩ = some (.int .u64 (x11)) ∧ W.cell? ⟨T13, 1, none⟩ = some (.int .u64 (y11)) ∧ T13 < W.heap.size
theorem A6.keep {w : World} {T7 T9 T11 T13 : Nat} {a b c d x7 y7 x11 y11 : Int} {W W' : World} (h : A6 w T7 T9 T11 T13 a b c d x7 y7 x11 y11 W) (B : Below W.heap.size W W') : A6 w T7 T9 T11 T13 a b c d x7 y7 x11 y11 W' := by
  obtain ⟨h0, h1, h2, h3, h4, h5, h6, h7, h8, h9, h10, h11, h12, h13, h14, h15, h16, h17, h18⟩ := h
  have := B.size
  exact ⟨bel_step h0 B, cellB B h1, cellB B h2, by omega, cellB B h4, cellB B h5, by omega, cellB B h7, cellB B h8, by omega, cellB B h10, cellB B h11, by omega, cellB B h13, cellB B h14, by omega, cellB B h16, cellB B h17, by omega⟩

set_option maxRecDepth 100000 in
set_option maxHeartbeats 4000000 in
theorem order_any (v : Value) (l0 : List (Int × Int)) (a b c d : Int) (w : World) (hr : WRow w v l0) (hu : WU l0) (ua : U64 a) (ub : U64 b) (uc : U64 c) (ud : U64 d) (g : One w) (hlen : (l0.length : Int) ≤ 9223372036854775807) :
    Calls Tryd.prog 8 #[v, .agg #[(.int .u64 (a)), (.int .u64 (b))], .agg #[(.int .u64 (c)), (.int .u64 (d))]] w fun e w' => e = .returned (.bool true) ∧ Below w.heap.size w w' := by
  obtain ⟨pa, ca, rfl⟩ := hr.form
  obtain ⟨hca, hpn⟩ : l0.length ≤ ca ∧ (pa = none → ca = 0) := by
    obtain ⟨p', cap', e, h1, h2, h3⟩ := id hr
    simp only [Value.slice.injEq, true_and] at e
    obtain ⟨rfl, rfl⟩ := e
    exact ⟨h1, h2⟩
  obtain ⟨K, hK⟩ : ∃ K, min l0.length 12 = K := ⟨_, rfl⟩
  have BEL := hid ((below_alloc w (.cells #[(.int .u64 (a)), (.int .u64 (b))] 27)).trans ((below_alloc (w.alloc (.cells #[(.int .u64 (a)), (.int .u64 (b))] 27)) (.cells #[(.int .u64 (c)), (.int .u64 (d))] 27)).mono (by simp)))
  have HR := hid ((hr.take K (by omega)).below BEL.out); have HU : Hid (WU (l0.take K)) := fun x hx => hu x (List.mem_of_mem_take hx)
  have HLEN : Hid ((l0.take K).length = K) := by show _ = _; rw [List.length_take]; omega
  have HG := hid (g.below g.1 BEL.out)
  have b4 := hid ((Bx.new w a b 27).keep (below_alloc (w.alloc (.cells #[(.int .u64 (a)), (.int .u64 (b))] 27)) (.cells #[(.int .u64 (c)), (.int .u64 (d))] 27)))
  have b5 := hid (Bx.new (w.alloc (.cells #[(.int .u64 (a)), (.int .u64 (b))] 27)) c d 27)
  have hmin : min (l0.length : Int) 12 = (K : Int) := by omega
  have hK12 : K ≤ 12 := by omega
  have hKl : K ≤ l0.length := by omega
  clear hr hu g hK
  generalize l0.take K = l at *
  go_enter Tryd.func8, Tryd.ntmps8
  go_wp2_with fail
  simp only [World.size_alloc] at b5
  refine (wakes_any _ HG.out).mono ?_
  rintro e w1 ⟨rfl, B⟩
  replace HR := hid (HR.out.below B)
  replace BEL := hid (bel_step BEL.out B)
  replace b4 := hid (b4.out.keep B)
  replace b5 := hid (b5.out.keep B)
  clear B
  go_wp2_with fail
  refine (clone_any _ l _ HR.out (by have := HLEN.out; omega)).mono ?_
  rintro e w2 ⟨⟨v2, rfl, hsv, hown⟩, B⟩
  have sz1 := BEL.out.size
  have sz4 := b4.out.2.2
  have sz5 := b5.out.2.2
  have OWN : Hid (∀ k, v2.ownBlock = some k → w.heap.size + 1 < k ∧ k < w2.heap.size) := fun k hk => by
    have := hown k hk
    omega
  have SVV := hid hsv
  clear hsv hown sz1 sz4 sz5 HR
  replace BEL := hid (bel_step BEL.out B)
  replace b4 := hid (b4.out.keep B)
  replace b5 := hid (b5.out.keep B)
  clear B
  go_wp2_with fail
  refine (sum_any _ l _ SVV.out.wrow HU.out (by have := HLEN.out; omega)).mono ?_
  rintro e w3 hq
  obtain ⟨B, x7, y7, c8, rfl, q⟩ := hq.got
  have G7 := hid q
  have b7 := hid (Bx.new w3 x7 y7 27)
  have OWN3 : Hid (∀ k, v2.ownBlock = some k → w.heap.size + 1 < k ∧ k < w3.heap.size) := fun k hk => by
    have := OWN.out k hk
    have := B.size
    omega
  replace SVV := hid (SVV.out.below B)
  clear hq q
  replace BEL := hid (bel_step BEL.out B)
  replace b4 := hid (b4.out.keep B)
  replace b5 := hid (b5.out.keep B)
  clear B
  have B := below_alloc w3 (.cells #[(.int .u64 (x7)), (.int .u64 (y7))] 27)
  replace SVV := hid (SVV.out.below B)
  replace BEL := hid (bel_step BEL.out B)
  replace b4 := hid (b4.out.keep B)
  replace b5 := hid (b5.out.keep B)
  clear B
  go_wp2_with fail
  generalize (w3.alloc (.cells #[(.int .u64 (x7)), (.int .u64 (y7))] 27)) = W3 at *
  have hT7 : ∃ T7, T7 = w3.heap.size := ⟨_, rfl⟩
  obtain ⟨T7, hT7⟩ := hT7
  rw [← hT7] at b7 OWN3 ⊢
  clear hT7 OWN
  refine (sortfunc_any v2 l _ SVV.out HU.out (by have := HLEN.out; omega)).mono ?_
  rintro e w4 ⟨rfl, l', hperm, hsv', hk⟩
  have PERM := hid hperm
  replace SVV := hid hsv'
  replace b4 := hid (b4.out.keepK hk (fun e => by have := OWN3.out _ e.symm; omega))
  replace b5 := hid (b5.out.keepK hk (fun e => by have := OWN3.out _ e.symm; omega))
  replace b7 := hid (b7.out.keepK hk (fun e => by have := OWN3.out _ e.symm; omega))
  replace BEL := hid (bel_keep BEL.out hk (fun k hk' e => by have := OWN3.out _ e.symm; omega))
  have HU' := hid (HU.out.perm hperm)
  have SUM := hid (sumW_perm hperm)
  have HLEN' : Hid (l'.length = K) := by show _ = _; rw [hperm.length_eq]; exact HLEN.out
  clear hperm hsv' hk OWN3
  go_wp2_with fail
  refine (sum_any _ l' _ SVV.out.wrow HU'.out (by have := HLEN'.out; omega)).mono ?_
  rintro e w5 hq
  obtain ⟨B, x9, y9, c10, rfl, q⟩ := hq.got
  rw [SUM.out] at q
  obtain ⟨rfl, rfl, rfl⟩ := G7.out.uniq q
  clear hq q
  replace SVV := hid (SVV.out.below B)
  have b9 := hid (Bx.new w5 x9 y9 27)
  replace BEL := hid (bel_step BEL.out B)
  replace b4 := hid (b4.out.keep B)
  replace b5 := hid (b5.out.keep B)
  replace b7 := hid (b7.out.keep B)
  clear B
  have B := below_alloc w5 (.cells #[(.int .u64 (x9)), (.int .u64 (y9))] 27)
  replace SVV := hid (SVV.out.below B)
  replace BEL := hid (bel_step BEL.out B)
  replace b4 := hid (b4.out.keep B)
  replace b5 := hid (b5.out.keep B)
  replace b7 := hid (b7.out.keep B)
  clear B
  obtain ⟨b4_0, b4_1, b4_s⟩ := b4.out
  obtain ⟨b5_0, b5_1, b5_s⟩ := b5.out
  go_wp2_with fail
  generalize (w5.alloc (.cells #[(.int .u64 (x9)), (.int .u64 (y9))] 27)) = W5 at *
  obtain ⟨T9, hT9⟩ : ∃ T9, T9 = w5.heap.size := ⟨_, rfl⟩
  rw [← hT9] at b9 ⊢
  clear hT9
  refine (mul_any a b c d _ ua ub uc ud).mono ?_
  rintro e w6 hq
  obtain ⟨B, x11, y11, c12, rfl, q⟩ := hq.got
  have G11 := hid q
  clear hq q
  replace SVV := hid (SVV.out.below B)
  have b11 := hid (Bx.new w6 x11 y11 27)
  clear b4_0 b4_1 b4_s b5_0 b5_1 b5_s
  replace BEL := hid (bel_step BEL.out B)
  replace b4 := hid (b4.out.keep B)
  replace b5 := hid (b5.out.keep B)
  replace b7 := hid (b7.out.keep B)
  replace b9 := hid (b9.out.keep B)
  clear B
  obtain ⟨b4_0, b4_1, b4_s⟩ := b4.out
  obtain ⟨b5_0, b5_1, b5_s⟩ := b5.out
  have B := below_alloc w6 (.cells #[(.int .u64 (x11)), (.int .u64 (y11))] 27)
  replace SVV := hid (SVV.out.below B)
  replace BEL := hid (bel_step BEL.out B)
  replace b4 := hid (b4.out.keep B)
  replace b5 := hid (b5.out.keep B)
  replace b7 := hid (b7.out.keep B)
  replace b9 := hid (b9.out.keep B)
  clear B
  go_wp2_with fail
  generalize (w6.alloc (.cells #[(.int .u64 (x11)), (.int .u64 (y11))] 27)) = W6 at *
  obtain ⟨T11, hT11⟩ : ∃ T11, T11 = w6.heap.size := ⟨_, rfl⟩
  rw [← hT11] at b11 ⊢
  clear hT11 b4_0 b4_1 b4_s b5_0 b5_1 b5_s
  refine (mul_any c d a b _ uc ud ua ub).mono ?_
  rintro e w7 hq
  obtain ⟨B, x13, y13, c14, rfl, q⟩ := hq.got
  rw [Int.mul_comm] at q
  obtain ⟨rfl, rfl, rfl⟩ := G11.out.uniq q
  clear hq q
  replace SVV := hid (SVV.out.below B)
  have b13 := hid (Bx.new w7 x13 y13 27)
  replace BEL := hid (bel_step BEL.out B)
  replace b4 := hid (b4.out.keep B)
  replace b5 := hid (b5.out.keep B)
  replace b7 := hid (b7.out.keep B)
  replace b9 := hid (b9.out.keep B)
  replace b11 := hid (b11.out.keep B)
  clear B
  have B := below_alloc w7 (.cells #[(.int .u64 (x13)), (.int .u64 (y13))] 27)
  replace SVV := hid (SVV.out.below B)
  replace BEL := hid (bel_step BEL.out B)
  replace b4 := hid (b4.out.keep B)
  replace b5 := hid (b5.out.keep B)
  replace b7 := hid (b7.out.keep B)
  replace b9 := hid (b9.out.keep B)
  replace b11 := hid (b11.out.keep B)
  clear B
  go_wp2_with fail
  generalize (w7.alloc (.cells #[(.int .u64 (x13)), (.int .u64 (y13))] 27)) = W7 at *
  obtain ⟨T13, hT13⟩ : ∃ T13, T13 = w7.heap.size := ⟨_, rfl⟩
  rw [← hT13] at b13 ⊢
  clear hT13
  have C1 := hid (fun W => compare_any a b c d W ua ub uc ud)
  have C2 := hid (fun W => compare_any c d a b W uc ud ua ub)
  rw [cmpI_neg (W128 a b) (W128 c d)] at C2
  obtain ⟨q0, q1⟩ := cmpI_small (W128 a b) (W128 c d)
  generalize cmpI (W128 a b) (W128 c d) = q at *
  have hq1 : IntKind.i64.wrap (-(-q)) = q := by rw [IntWalk.i64_in _ ⟨by omega, by omega⟩]; omega
  have hq2 : IntKind.i64.wrap q = q := IntWalk.i64_in _ ⟨by omega, by omega⟩
  have st : A6 w T7 T9 T11 T13 a b c d x9 y9 x13 y13 W7.drew := ⟨BEL.out.drew, b4.out.1, b4.out.2.1, b4.out.2.2, b5.out.1, b5.out.2.1, b5.out.2.2, b7.out.1, b7.out.2.1, b7.out.2.2, b9.out.1, b9.out.2.1, b9.out.2.2, b11.out.1, b11.out.2.1, b11.out.2.2, b13.out.1, b13.out.2.1, b13.out.2.2⟩
  clear b4 b5 b7 b9 b11 b13 BEL
  have SVV : Hid (SV W7.drew v2 l') := SVV
  go_region_held3 (fun w' => Below w.heap.size w w' ∧ w'.cell? ⟨w.heap.size, 0, none⟩ = some (.int .u64 (a)) ∧ w'.cell? ⟨w.heap.size, 1, none⟩ = some (.int .u64 (b)) ∧ w.heap.size < w'.heap.size ∧ w'.cell? ⟨(w.heap.size + 1), 0, none⟩ = some (.int .u64 (c)) ∧ w'.cell? ⟨(w.heap.size + 1), 1, none⟩ = some (.int .u64 (d)) ∧ (w.heap.size + 1) < w'.heap.size ∧ w'.cell? ⟨T7, 0, none⟩ = some (.int .u64 (x9)) ∧ w'.cell? ⟨T7, 1, none⟩ = some (.int .u64 (y9)) ∧ T7 < w'.heap.size ∧ w'.cell? ⟨T9, 0, none⟩ = some (.int .u64 (x9)) ∧ w'.cell? ⟨T9, 1, none⟩ = some (.int .u64 (y9)) ∧ T9 < w'.heap.size ∧ w'.cell? ⟨T11, 0, none⟩ = some (.int .u64 (x13)) ∧ w'.cell? ⟨T11, 1, none⟩ = some (.int .u64 (y13)) ∧ T11 < w'.heap.size ∧ w'.cell? ⟨T13, 0, none⟩ = some (.int .u64 (x13)) ∧ w'.cell? ⟨T13, 1, none⟩ = some (.int .u64 (y13)) ∧ T13 < w'.heap.size) (first | assumption | go_keep)
    (first | (go_at_call 23; refine (C1.out _).mono ?_; clear C1; rintro e wa ⟨rfl, B⟩; have hx := A6.keep (by assumption) B; have SVV := hid (SVV.out.below B); clear B) | (go_at_call 23; refine (C2.out _).mono ?_; rintro e wb ⟨rfl, B⟩; have hx := A6.keep (by assumption) B; have SVV := hid (SVV.out.below B); clear B))
  have hz := (by assumption : A6 w T7 T9 T11 T13 a b c d x9 y9 x13 y13 wb)
  have BEL := hid hz.1
  have b4 := hid (show Bx w.heap.size a b wb from ⟨hz.2.1, hz.2.2.1, hz.2.2.2.1⟩)
  have b5 := hid (show Bx (w.heap.size + 1) c d wb from ⟨hz.2.2.2.2.1, hz.2.2.2.2.2.1, hz.2.2.2.2.2.2.1⟩)
  have b11 := hid (show Bx T11 x13 y13 wb from ⟨hz.2.2.2.2.2.2.2.2.2.2.2.2.2.1, hz.2.2.2.2.2.2.2.2.2.2.2.2.2.2.1, hz.2.2.2.2.2.2.2.2.2.2.2.2.2.2.2.1⟩)
  clear hz st C2
  obtain ⟨p2, cap2, hv2, -⟩ := id SVV.out
  subst hv2
  have hl12 : l'.length ≤ 12 := by have := HLEN'.out; omega
  clear HLEN' HLEN hmin hK12 hKl hca hpn hlen
  have WA := hid (W128.lt ua ub); have WC := hid (W128.lt uc ud)
  go_wp2_with fail
  go_loopw [87] (fun v87 wr => ∃ k : Nat, v87 = (.int .i64 (k)) ∧ k ≤ l'.length ∧ Hid (SV wr (.slice p2 l'.length cap2) l') ∧ Hid (Bx w.heap.size a b wr) ∧ Hid (Bx (w.heap.size + 1) c d wr) ∧ Hid (Bx T11 x13 y13 wr) ∧ Hid (Below w.heap.size w wr)) (fun v87 _ => l'.length - (intOf v87).toNat)
  case atStart => exact ⟨0, rfl, Nat.zero_le _, SVV, b4, b5, b11, BEL⟩
  case round =>
    clear SVV b4 b5 b11 BEL
    obtain ⟨k, rfl, hk, SVV, b4, b5, b11, BEL⟩ := hrel
    by_cases hgo : k < l'.length
    · have hgo' : (k : Int) < (l'.length : Int) := by omega
      have hwk : IntKind.i64.wrap ((k : Int) + 1) = ((k + 1 : Nat) : Int) := by rw [IntWalk.i64_in _ ⟨by omega, by omega⟩]; omega
      obtain ⟨g, o, cap, hv, hcell⟩ := SVV.out.wrow.cell (by omega)
      simp only [Value.slice.injEq] at hv
      obtain ⟨rfl, -, -⟩ := hv
      obtain ⟨d0, d1⟩ := hcell k hgo
      obtain ⟨ux, uy⟩ := HU'.out l'[k] (List.getElem_mem hgo)
      generalize l'[k] = x at *
      obtain ⟨x0, x1⟩ := x
      simp only at d0 d1 ux uy
      clear hcell
      have WX := hid (W128.lt ux uy)
      obtain ⟨b4_0, b4_1, b4_s⟩ := b4.out
      obtain ⟨b5_0, b5_1, b5_s⟩ := b5.out
      go_wp2_with fail
      have b16 := hid (Bx.new wr x0 x1 27)
      have B := below_alloc wr (.cells #[(.int .u64 (x0)), (.int .u64 (x1))] 27)
      clear b4_0 b4_1 b4_s b5_0 b5_1 b5_s d0 d1
      replace SVV := hid (SVV.out.below B)
      replace BEL := hid (bel_step BEL.out B)
      replace b4 := hid (b4.out.keep B)
      replace b5 := hid (b5.out.keep B)
      replace b11 := hid (b11.out.keep B)
      clear B
      generalize (wr.alloc (.cells #[(.int .u64 (x0)), (.int .u64 (x1))] 27)) = V0 at *
      obtain ⟨T16, hT16⟩ : ∃ T16, T16 = wr.heap.size := ⟨_, rfl⟩
      rw [← hT16] at b16 ⊢
      clear hT16
      refine (add_any c d x0 x1 _ uc ud ux uy).mono ?_
      rintro e wk1 hq
      obtain ⟨B, x17, y17, c18, rfl, q⟩ := hq.got
      have G17 := hid q
      clear hq q
      have b17 := hid (Bx.new wk1 x17 y17 27)
      replace SVV := hid (SVV.out.below B)
      replace BEL := hid (bel_step BEL.out B)
      replace b4 := hid (b4.out.keep B)
      replace b5 := hid (b5.out.keep B)
      replace b11 := hid (b11.out.keep B)
      replace b16 := hid (b16.out.keep B)
      clear B
      obtain ⟨b4_0, b4_1, b4_s⟩ := b4.out
      have B := below_alloc wk1 (.cells #[(.int .u64 (x17)), (.int .u64 (y17))] 27)
      replace SVV := hid (SVV.out.below B)
      replace BEL := hid (bel_step BEL.out B)
      replace b4 := hid (b4.out.keep B)
      replace b5 := hid (b5.out.keep B)
      replace b11 := hid (b11.out.keep B)
      replace b16 := hid (b16.out.keep B)
      clear B
      obtain ⟨u17, v17⟩ := G17.out.u
      go_wp2_with fail
      clear b4_0 b4_1 b4_s
      generalize (wk1.alloc (.cells #[(.int .u64 (x17)), (.int .u64 (y17))] 27)) = Vwk1 at *
      obtain ⟨T17, hT17⟩ : ∃ T17, T17 = wk1.heap.size := ⟨_, rfl⟩
      rw [← hT17] at b17 ⊢
      clear hT17
      refine (mul_any a b x17 y17 _ ua ub u17 v17).mono ?_
      rintro e wk2 hq
      obtain ⟨B, x19, y19, c20, rfl, q⟩ := hq.got
      have G19 := hid q
      clear hq q
      have b19 := hid (Bx.new wk2 x19 y19 27)
      replace SVV := hid (SVV.out.below B)
      replace BEL := hid (bel_step BEL.out B)
      replace b4 := hid (b4.out.keep B)
      replace b5 := hid (b5.out.keep B)
      replace b11 := hid (b11.out.keep B)
      replace b16 := hid (b16.out.keep B)
      clear B
      obtain ⟨b4_0, b4_1, b4_s⟩ := b4.out
      obtain ⟨b16_0, b16_1, b16_s⟩ := b16.out
      have B := below_alloc wk2 (.cells #[(.int .u64 (x19)), (.int .u64 (y19))] 27)
      replace SVV := hid (SVV.out.below B)
      replace BEL := hid (bel_step BEL.out B)
      replace b4 := hid (b4.out.keep B)
      replace b5 := hid (b5.out.keep B)
      replace b11 := hid (b11.out.keep B)
      replace b16 := hid (b16.out.keep B)
      clear B
      go_wp2_with fail
      clear b4_0 b4_1 b4_s b16_0 b16_1 b16_s
      generalize (wk2.alloc (.cells #[(.int .u64 (x19)), (.int .u64 (y19))] 27)) = Vwk2 at *
      obtain ⟨T19, hT19⟩ : ∃ T19, T19 = wk2.heap.size := ⟨_, rfl⟩
      rw [← hT19] at b19 ⊢
      clear hT19
      refine (mul_any a b x0 x1 _ ua ub ux uy).mono ?_
      rintro e wk3 hq
      obtain ⟨B, x21, y21, c22, rfl, q⟩ := hq.got
      have G21 := hid q
      clear hq q
      have b21 := hid (Bx.new wk3 x21 y21 27)
      replace SVV := hid (SVV.out.below B)
      replace BEL := hid (bel_step BEL.out B)
      replace b4 := hid (b4.out.keep B)
      replace b5 := hid (b5.out.keep B)
      replace b11 := hid (b11.out.keep B)
      replace b19 := hid (b19.out.keep B)
      clear B
      obtain ⟨b11_0, b11_1, b11_s⟩ := b11.out
      have B := below_alloc wk3 (.cells #[(.int .u64 (x21)), (.int .u64 (y21))] 27)
      replace SVV := hid (SVV.out.below B)
      replace BEL := hid (bel_step BEL.out B)
      replace b4 := hid (b4.out.keep B)
      replace b5 := hid (b5.out.keep B)
      replace b11 := hid (b11.out.keep B)
      replace b19 := hid (b19.out.keep B)
      clear B
      obtain ⟨u11, v11⟩ := G11.out.u
      obtain ⟨u21, v21⟩ := G21.out.u
      go_wp2_with fail
      clear b11_0 b11_1 b11_s
      generalize (wk3.alloc (.cells #[(.int .u64 (x21)), (.int .u64 (y21))] 27)) = Vwk3 at *
      obtain ⟨T21, hT21⟩ : ∃ T21, T21 = wk3.heap.size := ⟨_, rfl⟩
      rw [← hT21] at b21 ⊢
      clear hT21
      refine (add_any x13 y13 x21 y21 _ u11 v11 u21 v21).mono ?_
      rintro e wk4 hq
      obtain ⟨B, x23, y23, c24, rfl, q⟩ := hq.got
      have G23 := hid q
      clear hq q
      replace SVV := hid (SVV.out.below B)
      replace BEL := hid (bel_step BEL.out B)
      replace b4 := hid (b4.out.keep B)
      replace b5 := hid (b5.out.keep B)
      replace b11 := hid (b11.out.keep B)
      replace b19 := hid (b19.out.keep B)
      clear B
      obtain ⟨b19_0, b19_1, b19_s⟩ := b19.out
      have B := below_alloc wk4 (.cells #[(.int .u64 (x23)), (.int .u64 (y23))] 27)
      replace SVV := hid (SVV.out.below B)
      replace BEL := hid (bel_step BEL.out B)
      replace b4 := hid (b4.out.keep B)
      replace b5 := hid (b5.out.keep B)
      replace b11 := hid (b11.out.keep B)
      replace b19 := hid (b19.out.keep B)
      clear B
      have fin : ∀ W, Hid (SV W (.slice (some ⟨g, o, none⟩) l'.length cap2) l') → Hid (Bx w.heap.size a b W) → Hid (Bx (w.heap.size + 1) c d W) → Hid (Bx T11 x13 y13 W) → Hid (Below w.heap.size w W) →
          ∃ k_1 : Nat, (Value.int IntKind.i64 ((k : Int) + 1)) = Value.int IntKind.i64 (k_1 : Int) ∧ k_1 ≤ l'.length ∧ Hid (SV W (.slice (some ⟨g, o, none⟩) l'.length cap2) l') ∧ Hid (Bx w.heap.size a b W) ∧ Hid (Bx (w.heap.size + 1) c d W) ∧ Hid (Bx T11 x13 y13 W) ∧ Hid (Below w.heap.size w W) :=
        fun W h1 h2 h3 h4 h5 => ⟨k + 1, by simp, hgo, h1, h2, h3, h4, h5⟩
      have FIN := hid fin; clear fin
      have hc18 := G17.out.c
      have hc20 := G19.out.c
      have SP := hid (spread WA.out.1 WC.out.1 WX.out.1 G11.out G17.out G19.out G21.out G23.out)
      by_cases h18 : c18 = 0
      · by_cases h20 : c20 = 0
        · obtain ⟨e1, e2, e3, e4, e5⟩ := SP.out h18 h20
          subst h18; subst h20; subst e1; subst e2; subst e3; subst e4; subst e5
          clear hc18 hc20 SP
          go_wp2_with fail
          exact ⟨FIN.out _ SVV b4 b5 b11 BEL, by simp [intOf]; omega⟩
        · obtain rfl : c20 = 110 := by
            rcases hc20 with h | h
            · exact absurd h.1 h20
            · exact h
          subst h18
          clear hc18 hc20 SP h20
          go_wp2_with fail
          exact ⟨FIN.out _ SVV b4 b5 b11 BEL, by simp [intOf]; omega⟩
      · obtain rfl : c18 = 110 := by
          rcases hc18 with h | h
          · exact absurd h.1 h18
          · exact h
        clear hc18 hc20 SP h18
        go_wp2_with fail
        exact ⟨FIN.out _ SVV b4 b5 b11 BEL, by simp [intOf]; omega⟩
    · have h1' : ¬ (k : Int) < (l'.length : Int) := by omega
      clear hgo
      go_wp2_with fail
      go_ret
      exact ⟨rfl, BEL.out⟩
end Go.Proofs.YtdpcfpmlkhdmkaaDoor
