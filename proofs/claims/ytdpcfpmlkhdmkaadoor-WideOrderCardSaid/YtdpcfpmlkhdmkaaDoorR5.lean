/- rows of digits: Number, like. -/
import Derived.Test.YtdpcfpmlkhdmkaaDoorR4
import Derived.Test.YtdpcfpmlkhdmkaaDoorW11
namespace Go.Proofs.YtdpcfpmlkhdmkaaDoor
open Go.RowKit

/-- n rounds of Number: the digits b + 3, b + 2, .. -/
def hornD (l : List Int) (b : Nat) : Nat → Int
  | 0 => 0
  | n + 1 => hornD l b n * 65536 + l.getD (3 - n + b) 0
theorem hornD_lt {l : List Int} (h : Digs l) (b : Nat) : ∀ n, 0 ≤ hornD l b n ∧ hornD l b n < P16 n
  | 0 => by simp [hornD, P16]
  | n + 1 => by
    have := hornD_lt h b n
    have := h.at (3 - n + b)
    rw [hornD, P16_succ]
    omega
theorem hornD_num {l : List Int} (h : l.length ≤ 8) : W128 (hornD l 4 4) (hornD l 0 4) = numD l := by
  have e : numD l = numD (l.take 8) := by rw [List.take_of_length_le h]
  rw [e]
  simp only [numD_take_succ, List.take_zero, numD_nil, P16_succ, P16_zero, hornD, W128, M_lit, Nat.reduceSub, Nat.reduceAdd, Nat.sub_self, Nat.sub_zero]
  omega
theorem hornD_u64 {l : List Int} (h : Digs l) (b : Nat) : U64 (hornD l b 4) := by
  have := hornD_lt h b 4
  rw [P16_4] at this
  exact this

structure NumI (w : World) (l : List Int) (v5 : Value) (n : Nat) (wr : World) : Prop where
  e5 : v5 = (.int .i64 (3 - (n : Int)))
  hn : n ≤ 4
  bel : Below (w.heap.size + 1) (w.alloc (.cells #[(.int .u64 (0)), (.int .u64 (0))] 27)) wr
  size : (w.heap.size + 1 + 1) ≤ wr.heap.size
  c0 : wr.cell? ⟨(w.heap.size + 1), 0, none⟩ = some (.int .u64 (hornD l 4 n))
  c1 : wr.cell? ⟨(w.heap.size + 1), 1, none⟩ = some (.int .u64 (hornD l 0 n))
  f0 : wr.frozen? ⟨(w.heap.size + 1), 0, none⟩ = false
  f1 : wr.frozen? ⟨(w.heap.size + 1), 1, none⟩ = false
  r0 : wr.cell? ⟨w.heap.size, 0, none⟩ = some (.int .u64 (0))
  r1 : wr.cell? ⟨w.heap.size, 1, none⟩ = some (.int .u64 (0))
  rf0 : wr.frozen? ⟨w.heap.size, 0, none⟩ = false
  rf1 : wr.frozen? ⟨w.heap.size, 1, none⟩ = false

/-- what Number comes to. -/
def NumPost (N : Int) (w : World) (e : Ending) (w' : World) : Prop :=
  Below w.heap.size w w' ∧ ((N < M * M ∧ ∃ h l, e = .returned (.tuple #[.agg #[.int .u64 h, .int .u64 l], .bool true]) ∧ U64 h ∧ U64 l ∧ W128 h l = N) ∨
    (¬ N < M * M ∧ e = .returned (.tuple #[.agg #[.int .u64 0, .int .u64 0], .bool false])))

theorem at_int (v : Value) (l : List Int) (k : Int) (j : Nat) (w : World) (h : Row w v l) (hk : k = j) : Calls Tryd.prog 32 #[v, (.int .i64 (k))] w fun e w' => e = .returned (.int .u64 (l.getD j 0)) ∧ w = w' := by
  rw [hk]
  exact at_any v l j w h

set_option maxRecDepth 100000 in
set_option maxHeartbeats 1000000 in
theorem number_any (v : Value) (N : Int) (w : World) (hn : Num w v N) : Calls Tryd.prog 35 #[v] w (NumPost N w) := by
  obtain ⟨l0, hr0, hd0, ht0, rfl⟩ := hn
  have B2 := hid (Below.alloc (Below.refl (w.heap.size + 1) (w.alloc (.cells #[(.int .u64 (0)), (.int .u64 (0))] 27))) (by simp) (.cells #[(.int .u64 (0)), (.int .u64 (0))] 27))
  have B1 := hid (Below.alloc (Below.refl w.heap.size w) (Nat.le_refl _) (.cells #[(.int .u64 (0)), (.int .u64 (0))] 27))
  go_enter Tryd.func35, Tryd.ntmps35
  go_wp2_with fail
  ((with_reducible refine (trim_any _ l0 _ (hr0.below B1.out) hd0).mono ?_); rintro e w' ⟨⟨v', rfl, l, hr, hd, ht, hn⟩, rfl⟩)
  obtain ⟨p, cap, rfl⟩ := hr.form
  have HR := hid hr; have HD := hid hd
  have HL := (ht.len hd 8)
  rw [hn, P16_8] at HL
  have HN := hid hn
  clear hr hd ht hn hr0 hd0 ht0
  by_cases h8 : l.length ≤ 8
  · have h8' : ¬ (8 : Int) < (l.length : Int) := by omega
    have HL := hid (HL.1 h8)
    have H8 := hid h8
    clear h8
    go_wp2_with fail
    go_loopw [5] (fun v5 wr => ∃ n, NumI w l v5 n wr) (fun v5 _ => (intOf v5 + 1).toNat)
    case atStart =>
      refine ⟨0, rfl, by omega, B2.out, by simp, ?_, ?_, ?_, ?_, ?_, ?_, ?_, ?_⟩
      all_goals go_simp
      all_goals rfl
    case round =>
      obtain ⟨n, I⟩ := hrel
      obtain ⟨rfl, hn, bel, size, c0, c1, f0, f1, r0, r1, rf0, rf1⟩ := I
      have BEL := hid bel; clear bel
      by_cases h4 : n = 4
      · subst h4
        have hneg : ¬ (0 : Int) ≤ 3 - ((4 : Nat) : Int) := by omega
        clear hn
        go_wp2_with fail
        refine bodyPost_ret (v := .tuple #[.agg #[(.int .u64 (hornD l 4 4)), (.int .u64 (hornD l 0 4))], .bool true]) (by simp [results, Tryd.results35, go_sem, r0, r1]) rfl ⟨?_, Or.inl ⟨HL.out, _, _, rfl, hornD_u64 HD.out _, hornD_u64 HD.out _, ?_⟩⟩
        · exact (((B1.out.trans (BEL.out.mono (by omega))).setCell (Nat.le_refl _) _).setCell (Nat.le_refl _) _)
        · rw [hornD_num H8.out, HN.out]
      · have hpos : (0 : Int) ≤ 3 - (n : Int) := by omega
        have hn4 : n < 4 := by omega
        clear h4 hn
        have b0 := hornD_lt HD.out 0 n
        have b4 := hornD_lt HD.out 4 n
        have hp := P16_le (show n ≤ 3 by omega)
        rw [show P16 3 = 281474976710656 from rfl] at hp
        have d0 := HD.out.at (3 - n + 0)
        have d4 := HD.out.at (3 - n + 4)
        have E0 : Hid (hornD l 0 (n + 1) = hornD l 0 n * 65536 + l.getD (3 - n + 0) 0) := rfl
        have E4 : Hid (hornD l 4 (n + 1) = hornD l 4 n * 65536 + l.getD (3 - n + 4) 0) := rfl
        have C0 := hid (fun W (h : Row W (.slice p l.length cap) l) => at_int (.slice p l.length cap) l (3 - (n : Int)) (3 - n + 0) W h (by omega))
        have C4 := hid (fun W (h : Row W (.slice p l.length cap) l) => at_int (.slice p l.length cap) l (IntKind.i64.wrap (3 - (n : Int) + 4)) (3 - n + 4) W h (by rw [IntWalk.i64_in _ ⟨by omega, by omega⟩]; omega))
        have RW := hid (HR.out.below (BEL.out.mono (by simp)))
        generalize hornD l 0 n = x0 at *
        generalize hornD l 4 n = x4 at *
        generalize l.getD (3 - n + 0) 0 = y0 at *
        generalize l.getD (3 - n + 4) 0 = y4 at *
        obtain ⟨b00, b01⟩ := b0
        obtain ⟨b40, b41⟩ := b4
        obtain ⟨d00, d01⟩ := d0
        obtain ⟨d40, d41⟩ := d4
        have w1 : IntKind.u64.wrap (x0 * 65536) = x0 * 65536 := IntWalk.u64_in _ ⟨by omega, by omega⟩
        have w2 : IntKind.u64.wrap (x0 * 65536 + y0) = x0 * 65536 + y0 := IntWalk.u64_in _ ⟨by omega, by omega⟩
        have w3 : IntKind.u64.wrap (x4 * 65536) = x4 * 65536 := IntWalk.u64_in _ ⟨by omega, by omega⟩
        have w4 : IntKind.u64.wrap (x4 * 65536 + y4) = x4 * 65536 + y4 := IntWalk.u64_in _ ⟨by omega, by omega⟩
        have RS : ∀ u, Hid (Row (wr.setCell ⟨(w.heap.size + 1), 1, none⟩ u) (.slice p l.length cap) l) := fun u =>
          HR.out.below (Below.mono (BEL.out.setCell (p := ⟨(w.heap.size + 1), 1, none⟩) (Nat.le_refl _) u) (by simp))
        have RS := hid RS
        go_wp2_with fail
        go_region_with (go_at_call 32; refine (C0.out _ RW.out.drew).mono ?_; rintro e w' ⟨rfl, rfl⟩)
        all_goals
          go_wp2_with fail
          go_region_with (go_at_call 32; refine (C4.out _ (by exact (RS.out _).out)).mono ?_; rintro e w' ⟨rfl, rfl⟩)
        all_goals
          go_wp2_with fail
          refine ⟨⟨n + 1, by rw [show (3 : Int) - ((n + 1 : Nat) : Int) = 3 - (n : Int) - 1 by omega], by omega, ?_, ?_, ?_, ?_, ?_, ?_, ?_, ?_, ?_, ?_⟩, ?_⟩
          · exact Below.setCell (Below.drew (Below.setCell (Below.drew BEL.out) (Nat.le_refl _) _)) (Nat.le_refl _) _
          · simp; exact size
          · rw [E4.out]; go_simp
          · rw [E0.out]; go_simp
          · go_simp
          · go_simp
          · go_simp
          · go_simp
          · go_simp
          · go_simp
          · simp [intOf]; omega
  · have h8' : (8 : Int) < (l.length : Int) := by omega
    have HL : Hid (¬ numD l0 < M * M) := by
      show ¬ _
      rw [← HL]; exact h8
    clear h8
    go_wp2_with fail
    refine bodyPost_ret (v := .tuple #[.agg #[(.int .u64 (0)), (.int .u64 (0))], .bool false]) (by simp [results, Tryd.results35, go_sem]) rfl ⟨?_, Or.inr ⟨Int.not_lt.2 HL.out, rfl⟩⟩
    repeat' (first | exact Below.refl _ _ | with_reducible refine Below.alloc ?_ ?_ _ | with_reducible refine Below.setCell ?_ ?_ _ | with_reducible refine Below.drew ?_ | with_reducible refine below_drewN ?_ _ | refine Below.trans ?_ (Below.mono (by assumption) ?_))
    all_goals (first | omega | (simp <;> omega))

theorem NumPost.of {N : Int} {w : World} {e : Ending} {w' : World} (h : NumPost N w e w') : Below w.heap.size w w' ∧ ∃ h l ok, e = .returned (.tuple #[.agg #[.int .u64 h, .int .u64 l], .bool ok]) ∧ ((ok = true ∧ N < M * M ∧ U64 h ∧ U64 l ∧ W128 h l = N) ∨ (ok = false ∧ ¬ N < M * M ∧ h = 0 ∧ l = 0)) := by
  obtain ⟨b, ⟨h1, x, y, rfl, h2, h3, h4⟩ | ⟨h1, rfl⟩⟩ := h
  · exact ⟨b, _, _, _, rfl, .inl ⟨rfl, h1, h2, h3, h4⟩⟩
  · exact ⟨b, _, _, _, rfl, .inr ⟨rfl, h1, rfl, rfl⟩⟩
theorem W128.inj' {a b c d : Int} (ha : U64 a) (hb : U64 b) (hc : U64 c) (hd : U64 d) (h : W128 a b = W128 c d) : a = c ∧ b = d := by
  unfold U64 W128 at *
  rw [M_eq] at *
  omega
/-- what the operation that is asked came to. -/
def Got (N h l c : Int) : Prop := (N < M * M ∧ c = 0 ∧ U64 h ∧ U64 l ∧ W128 h l = N) ∨ (¬ N < M * M ∧ c = 110 ∧ h = 0 ∧ l = 0)

set_option maxRecDepth 100000 in
set_option maxHeartbeats 1000000 in
theorem like_any (h l c N : Int) (v : Value) (w : World) (hg : Got N h l c) (hn : Num w v N) : Calls Tryd.prog 15 #[.agg #[(.int .u64 (h)), (.int .u64 (l))], (.int .i64 (c)), v] w fun e w' => e = .returned (.bool true) ∧ Below w.heap.size w w' := by
  have B1 := Below.alloc (Below.refl w.heap.size w) (Nat.le_refl _) (.cells #[(.int .u64 (h)), (.int .u64 (l))] 27)
  have HN := hid (hn.below B1)
  rcases hg with ⟨h1, rfl, h3, h4, h5⟩ | ⟨h1, rfl, rfl, rfl⟩
  · have H1 := hid h1; have H5 := hid h5
    clear hn B1 h1 h5
    go_enter Tryd.func15, Tryd.ntmps15
    go_wp2_with fail
    refine (number_any _ N _ HN.out).mono ?_
    rintro e w1 hp
    obtain ⟨B, x, y, ok, rfl, ⟨rfl, q1, q2, q3, q4⟩ | ⟨rfl, q1, rfl, rfl⟩⟩ := hp.of
    · obtain ⟨rfl, rfl⟩ := W128.inj' q2 q3 h3 h4 (q4.trans H5.out.symm)
      obtain ⟨k_0, k_1⟩ := keepr2 B (b := w.heap.size) (x0 := (.int .u64 (x))) (x1 := (.int .u64 (y))) (by first | omega | (simp <;> omega)) (by first | assumption | go_simp) (by first | assumption | go_simp)
      have zz := B.size; try simp at zz
      obtain ⟨z1, z2, z3⟩ := sizes B (w.heap.size + 1) (by simp)
      clear q1 q2 q3 q4 hp
      go_wp2_with fail
      go_ret
      refine ⟨rfl, ?_⟩
      have zz0 := B.size; try simp at zz0
      repeat' (first | exact Below.refl _ _ | with_reducible refine Below.alloc ?_ ?_ _ | with_reducible refine Below.setCell ?_ ?_ _ | with_reducible refine Below.drew ?_ | with_reducible refine below_drewN ?_ _ | refine Below.trans ?_ (Below.mono (by assumption) ?_))
      all_goals (first | omega | (simp <;> omega))
    · exact absurd H1.out q1
  · have H1 := hid h1
    clear hn B1 h1
    go_enter Tryd.func15, Tryd.ntmps15
    go_wp2_with fail
    refine (number_any _ N _ HN.out).mono ?_
    rintro e w1 hp
    obtain ⟨B, x, y, ok, rfl, ⟨rfl, q1, q2, q3, q4⟩ | ⟨rfl, q1, rfl, rfl⟩⟩ := hp.of
    · exact absurd q1 (Int.not_lt.2 H1.out)
    · obtain ⟨k_0, k_1⟩ := keepr2 B (b := w.heap.size) (x0 := (.int .u64 (0))) (x1 := (.int .u64 (0))) (by first | omega | (simp <;> omega)) (by first | assumption | go_simp) (by first | assumption | go_simp)
      have zz := B.size; try simp at zz
      obtain ⟨z1, z2, z3⟩ := sizes B (w.heap.size + 1) (by simp)
      clear q1 hp
      go_wp2_with fail
      go_ret
      refine ⟨rfl, ?_⟩
      have zz0 := B.size; try simp at zz0
      repeat' (first | exact Below.refl _ _ | with_reducible refine Below.alloc ?_ ?_ _ | with_reducible refine Below.setCell ?_ ?_ _ | with_reducible refine Below.drew ?_ | with_reducible refine below_drewN ?_ _ | refine Below.trans ?_ (Below.mono (by assumption) ?_))
      all_goals (first | omega | (simp <;> omega))
end Go.Proofs.YtdpcfpmlkhdmkaaDoor
