/- rows of digits: Times. -/
import Derived.Test.YtdpcfpmlkhdmkaaDoorR5
import Derived.Laws.AppendOwnNone
namespace Go.Proofs.YtdpcfpmlkhdmkaaDoor
open Go.RowKit

structure PartI (w : World) (l xs : List Int) (b c : Int) (v v7 v9 : Value) (k : Nat) (wr : World) : Prop where
  e9 : v9 = (.int .i64 (k))
  e7 : v7 = (.int .u64 (c))
  c0 : 0 ≤ c
  c1 : c < 65536
  own : Own w.heap.size wr v xs
  xl : xs.length = k
  dg : Digs xs
  sum : numD xs + P16 k * c = numD (l.take k) * b
  bel : Below w.heap.size w wr
  hk : k ≤ l.length + 1

theorem PartI.end_ {w wr : World} {l xs : List Int} {b c : Int} {v v6 v7 : Value} {k : Nat} (h : PartI w l xs b c v v6 v7 k wr) (h1 : ¬ k < l.length) (h3 : ¬ 0 < c) :
    numD xs = numD l * b := by
  have := h.sum
  have h4 := h.c0
  rw [List.take_of_length_le (by omega), show c = 0 by omega] at this
  omega
theorem tim_arith (A B b : Int) : 65536 * (A * B) + A * b = A * (b + 65536 * B) := by grind
theorem prod_small {x b : Int} (hx : 0 ≤ x ∧ x < 65536) (hb : 0 ≤ b ∧ b < 65536) : 0 ≤ x * b ∧ x * b ≤ 4294836225 := by
  refine ⟨Int.mul_nonneg hx.1 hb.1, ?_⟩
  have h1 : x * b ≤ 65535 * b := Int.mul_le_mul_of_nonneg_right (by omega) hb.1
  omega
theorem PartI.next {w wr w1 : World} {l xs : List Int} {b c : Int} {v v6 v7 v' : Value} {k : Nat} (h : PartI w l xs b c v v6 v7 k wr) (hl : Digs l) (hb0 : 0 ≤ b ∧ b < 65536) (hg : k < l.length ∨ 0 < c)
    (hown : Own w.heap.size w1 v' (xs ++ [(l.getD k 0 * b + c) % 65536])) (hb : Below w.heap.size wr w1) :
    PartI w l (xs ++ [(l.getD k 0 * b + c) % 65536]) b ((l.getD k 0 * b + c) / 65536) v' (.int .u64 ((l.getD k 0 * b + c) / 65536)) (.int .i64 ((k + 1 : Nat))) (k + 1) w1 := by
  have a1 := prod_small (hl.at k) hb0
  have a3 := h.c0
  have a4 := h.c1
  refine ⟨rfl, rfl, by omega, by omega, hown, by simp [h.xl], h.dg.snoc (by omega) (by omega), ?_, h.bel.trans hb, ?_⟩
  · rw [numD_snoc, numD_take_succ, h.xl, P16_succ]
    have := h.sum
    generalize l.getD k 0 = x at *
    have e := Int.mul_ediv_add_emod (x * b + c) 65536
    have e2 : P16 k * (x * b + c) = P16 k * (65536 * ((x * b + c) / 65536) + (x * b + c) % 65536) := by rw [e]
    grind
  · have := h.hk
    rcases hg with hg | hg
    · omega
    · false_or_by_contra
      have hk : l.length + 1 ≤ k := by omega
      have e := h.sum
      rw [List.take_of_length_le (by omega)] at e
      have b1 := hl.lt
      have b3 := h.dg.lt
      have q2 := P16_le (show l.length ≤ k - 1 by omega)
      have q4 : P16 k = 65536 * P16 (k - 1) := by rw [← P16_succ, show k - 1 + 1 = k by omega]
      have q5 := P16_pos (k - 1)
      have q6 : numD l * b ≤ numD l * 65535 := Int.mul_le_mul_of_nonneg_left (by omega) b1.1
      have q7 : P16 k * 1 ≤ P16 k * c := Int.mul_le_mul_of_nonneg_left (by omega) (by omega)
      omega

/-- the rounds over the second number: from its end on down to k. -/
structure TimI (w : World) (l m out : List Int) (v v6 : Value) (k : Nat) (wr : World) : Prop where
  e6 : v6 = (.int .i64 ((k : Int) - 1))
  row : Row wr v out
  dg : Digs out
  tr : Trim out
  sum : numD out = numD l * numD (m.drop k)
  bel : Below w.heap.size w wr
  hk : k ≤ m.length

theorem numD_drop (m : List Int) (k : Nat) (h : k < m.length) : numD (m.drop k) = m.getD k 0 + 65536 * numD (m.drop (k + 1)) := by
  rw [List.drop_eq_getElem_cons h, numD, getD_in m k h]
theorem numD_drop_lt {m : List Int} (h : Digs m) (k : Nat) : 0 ≤ numD (m.drop k) ∧ numD (m.drop k) < P16 (m.length - k) := by
  have : Digs (m.drop k) := fun x hx => h x (List.mem_of_mem_drop hx)
  have := this.lt
  simpa using this

/-- a row ahead of which a digit is laid: append([]uint64{0}, out...). -/
theorem app_front {ops : Array Oper} {rest : List Oper} {o : Oper} {a : Act} {Q : Exit → Act → World → Prop} (hgd : o.guard = none) (s x : Operand)
    (ho : o.op = .call { callee := .builtin .append, args := #[s, x], argTypes := #[25, 25] }) {w : World} (B : Nat) (v : Value) (l : List Int) (W : World)
    (hs : a.eval s = .slice (some ⟨W.heap.size, 0, none⟩) 1 1) (hx : a.eval x = v) (hw : w = W.alloc (.cells #[.int .u64 0] 23)) (hr : Row W v l) (hB : B ≤ W.heap.size) (hlen : l.length ≤ 1000000)
    (h : ∀ v' w1, Row w1 v' (0 :: l) → Below B W w1 → wpList Tryd.prog ops Q rest (a.put o.dst v') w1) : wpList Tryd.prog ops Q (o :: rest) a w := by
  obtain ⟨i, hi, hz0, hz1, hz2⟩ := info23'
  subst hw
  have own : (W.alloc (.cells #[.int .u64 0] 23)).ownsRow B 23 1 (.slice (some ⟨W.heap.size, 0, none⟩) 1 1) 1 [.int .u64 0] :=
    ⟨rfl, .inr ⟨W.heap.size, 1, #[.int .u64 0], rfl, hB, heap_alloc_new W _, by omega, by unfold maxLen; omega, rfl, rfl⟩⟩
  have hb : Below B W (W.alloc (.cells #[.int .u64 0] 23)) := (Below.refl _ _).alloc hB _
  rcases hr with ⟨rfl, rfl⟩ | ⟨g, cap, rfl, h1, h2, h3⟩
  · refine wpList_append_own_none hgd s x 25 ho B 23 i 1 Tryd.underlying25 hi _ 1 _ hs own hx ?_
    exact h _ _ (Row.of_owns own) hb
  · refine wpList_append_own _ hgd s x 25 ho B 23 i (.int .u64 0) 1 8 Tryd.underlying25 hi hz0 hz1 hz2 rfl (by decide) _ 1 _ hs own ⟨g, 0, none⟩ l.length cap (l.map (Value.int .u64)) hx (by simp) ?_ ?_ ?_ ?_ ?_ ?_
    · intro j u hj
      have hadd : (⟨g, 0, none⟩ : Addr).add j = ⟨g, j, none⟩ := by unfold Addr.add; split <;> simp_all
      rw [hadd]
      rw [List.getElem?_map, Option.map_eq_some_iff] at hj
      obtain ⟨y, hy, rfl⟩ := hj
      have := h3 j y hy
      have hlt : g < W.heap.size := World.block_lt_of_cell? _ _ this
      have hb' : Below W.heap.size W (W.alloc (.cells #[.int .u64 0] 23)) := (Below.refl _ _).alloc (Nat.le_refl _) _
      exact (hb'.cell (p := ⟨g, j, none⟩) hlt).trans this
    · intro u hu
      rw [List.mem_map] at hu
      obtain ⟨y, _, rfl⟩ := hu
      rfl
    · unfold maxLen; omega
    · omega
    · simp; omega
    · intro v' w1 h4 h5 _
      refine h v' w1 (Row.of_owns (n := 1 + l.length) (B := B) (by simpa using h4)) ?_
      refine hb.trans ?_
      have hs := h5.size
      refine ⟨h5.os, h5.tape, h5.output, hs, fun k hk => h5.block k (by simp; omega) ?_⟩
      simp [Value.ownBlock]; omega

set_option maxRecDepth 100000 in
set_option maxHeartbeats 2000000 in
theorem times_num (va vb : Value) (l m : List Int) (w : World) (hra : Row w va l) (hrb : Row w vb m) (hl : Digs l) (hm : Digs m) (hll : l.length ≤ 10000) (hml : m.length ≤ 10000) :
    Calls Tryd.prog 14 #[va, vb] w fun e w' => (∃ v', e = .returned v' ∧ Num w' v' (numD l * numD m)) ∧ Below w.heap.size w w' := by
  obtain ⟨pa, ca, rfl⟩ := hra.form
  obtain ⟨pb, cb, rfl⟩ := hrb.form
  have hwl : IntKind.i64.wrap ((m.length : Int) - 1) = (m.length : Int) - 1 := IntWalk.i64_in _ ⟨by omega, by omega⟩
  have HRA := hid hra; have HRB := hid hrb; have HL := hid hl; have HM := hid hm
  clear hra hrb hl hm
  go_enter Tryd.func14, Tryd.ntmps14
  go_wp2_with fail
  go_loopw [5, 6] (fun v v6 wr => ∃ out k, TimI w l m out v v6 k wr) (fun _ v6 _ => (intOf v6 + 1).toNat)
  case atStart => exact ⟨[], m.length, rfl, Row.nil _, Digs.nil, Trim.nil, by simp [numD], Below.refl _ _, Nat.le_refl _⟩
  case round =>
    obtain ⟨out, k, I⟩ := hrel
    obtain ⟨rfl, row, dg, tr, sum, bel, hk⟩ := I
    have size := bel.size
    have ROW := hid row; clear row
    have BEL := hid bel; clear bel
    have DG := hid dg; have TR := hid tr; have SUM := hid sum; clear dg tr sum
    by_cases hk0 : k = 0
    · subst hk0
      have h1 : ¬ (0 : Int) ≤ ((0 : Nat) : Int) - 1 := by omega
      go_wp2_with fail
      refine (trim_any _ out _ ROW.out DG.out).mono ?_
      rintro e w' ⟨⟨v', rfl, hv⟩, rfl⟩
      have HV := hid hv; clear hv
      go_wp2_with fail
      go_ret
      refine ⟨⟨_, rfl, ?_⟩, BEL.out⟩
      have := HV.out
      rw [SUM.out] at this
      simpa using this
    · obtain ⟨j, rfl⟩ : ∃ j, k = j + 1 := ⟨k - 1, by omega⟩
      clear hk0
      have hj : (((j + 1 : Nat) : Int)) - 1 = (j : Int) := by omega
      rw [hj]
      have hjm : j < m.length := by omega
      have h1 : (0 : Int) ≤ (j : Int) := by omega
      have OL : Hid (out.length ≤ l.length + m.length) := by
        show _ ≤ _
        refine (TR.out.len DG.out _).2 ?_
        rw [SUM.out, P16_add]
        have b1 := HL.out.lt
        have b2 := numD_drop_lt HM.out (j + 1)
        have b3 := P16_le (show m.length - (j + 1) ≤ m.length by omega)
        have b4 : numD l * numD (m.drop (j + 1)) ≤ numD l * P16 m.length := Int.mul_le_mul_of_nonneg_left (by omega) b1.1
        have b5 : numD l * P16 m.length < P16 l.length * P16 m.length := Int.mul_lt_mul_of_pos_right b1.2 (P16_pos _)
        omega
      have hb0 := HM.out.at j
      go_wp2_with (first | (at_builtin; refine app_front rfl _ _ rfl (w.heap.size) u5 out wr rfl rfl rfl ROW.out size ?_ ?_))
      · have := OL.out; omega
      · intro v1 W1 hrow hbel
        have ROW1 := hid hrow; clear hrow
        have BEL1 := hid (BEL.out.trans hbel); clear hbel
        have RA1 := hid (HRA.out.below BEL1.out)
        have RB1 := hid (HRB.out.below BEL1.out)
        obtain ⟨g, cap, hv, hcell⟩ := RB1.out.cell (by omega)
        simp only [Value.slice.injEq, true_and] at hv
        obtain ⟨rfl, rfl⟩ := hv
        have hc0 := hcell j hjm
        clear hcell
        have hdrop : Hid (numD (m.drop j) = m.getD j 0 + 65536 * numD (m.drop (j + 1))) := numD_drop m j hjm
        obtain ⟨b, hb⟩ : ∃ b, m.getD j 0 = b := ⟨_, rfl⟩
        rw [hb] at hb0 hc0 hdrop
        clear hb
        go_wp2_with fail
        go_loopw [7, 8, 9] (fun v7 v v9 WR => ∃ xs c k, PartI W1 l xs b c v v7 v9 k WR) (fun _ _ v9 _ => l.length + 2 - (intOf v9).toNat)
        case atStart => exact ⟨[], 0, 0, rfl, rfl, by omega, by omega, Own.nil _ _, rfl, Digs.nil, by simp [numD], Below.refl _ _, by omega⟩
        case round =>
          obtain ⟨xs, c, k, I⟩ := hrel
          obtain ⟨rfl, rfl, c0, c1, own, xl, dg, sum, bel, hk⟩ := id I
          have size2 := bel.size
          have I := hid I
          have OWN2 := hid own; clear own
          have BEL2 := hid bel; clear bel
          have DG2 := hid dg; clear dg sum
          have RA := hid (RA1.out.below BEL2.out)
          have RB := hid (RB1.out.below BEL2.out)
          have hc := (BEL2.out.cell (p := ⟨g, j, none⟩) (World.block_lt_of_cell? _ _ hc0)).trans hc0
          by_cases hgo : k < l.length ∨ 0 < c
          · have G := hid hgo
            have key : (k : Int) < (l.length : Int) ∨ (¬ (k : Int) < (l.length : Int) ∧ 0 < c) := by omega
            clear hgo
            have a1 := HL.out.at k
            have CA' := at_any _ l k wr.drew RA.out.drew
            obtain ⟨x, hx⟩ : ∃ x, l.getD k 0 = x := ⟨_, rfl⟩
            rw [hx] at CA' a1
            have HX := hid hx; clear hx
            have CA := hid CA'; clear CA'
            obtain ⟨pr0, pr1⟩ := prod_small a1 hb0
            clear a1
            have w1 : IntKind.u64.wrap (x * b) = x * b := wrap_small _ (by omega) (by omega)
            have w2 : IntKind.u64.wrap (x * b + c) = x * b + c := wrap_small _ (by omega) (by omega)
            have hn0 : 0 ≤ x * b + c := by omega
            have w3 : (x * b + c).tdiv 65536 = (x * b + c) / 65536 := Int.tdiv_eq_ediv_of_nonneg hn0
            have w4 : IntKind.u64.wrap ((x * b + c) / 65536) = (x * b + c) / 65536 := wrap_small _ (by omega) (by omega)
            rcases key with g1 | ⟨g1, g2⟩
            all_goals
              clear hc0
              go_wp2_with fail
              go_region_with (go_at_call 32; refine CA.out.mono ?_; rintro e w' ⟨rfl, rfl⟩)
            all_goals
              go_wp2_with (first | (at_builtin; refine app1 rfl _ _ rfl (W1.heap.size) _ _ ((x * b + c) % 65536) wr.drew rfl rfl rfl (Own.keeps OWN2.out ((Below.refl _ wr).drew) (Nat.le_refl _)) size2 ?_ ?_))
              · omega
              · intro v' w1 hown hbel
                have HO := hid hown; clear hown
                have HB' := hid hbel; clear hbel
                go_wp2_with fail
                refine ⟨⟨xs ++ [(x * b + c) % 65536], (x * b + c) / 65536, k + 1, ?_⟩, ?_⟩
                · have := I.out.next HL.out hb0 G.out (by rw [HX.out]; exact HO.out) ((Below.refl W1.heap.size wr).drew.trans HB'.out)
                  rw [HX.out] at this
                  exact this
                · simp [intOf]; omega
          · have h2 : ¬ (k : Int) < (l.length : Int) := by omega
            have h3 : ¬ 0 < c := by omega
            have E := hid (I.out.end_ (by omega) h3)
            have hwj : IntKind.i64.wrap ((j : Int) - 1) = (j : Int) - 1 := IntWalk.i64_in _ ⟨by omega, by omega⟩
            clear hgo
            have ROW2 := hid (ROW1.out.below BEL2.out)
            go_wp2_with fail
            refine (plus_num _ _ (0 :: out) xs _ ROW2.out OWN2.out.row (DG.out.cons (by omega) (by omega)) DG2.out (by have := OL.out; simp; omega) (by omega)).mono ?_
            rintro e w3 ⟨⟨v3, rfl, l3, hr3, hd3, ht3, hn3⟩, hb3⟩
            have R3 := hid hr3; have D3 := hid hd3; have T3 := hid ht3; have N3 := hid hn3; have B3 := hid hb3
            clear hr3 hd3 ht3 hn3 hb3 hc hc0
            go_wp2_with fail
            refine ⟨⟨l3, j, rfl, R3.out, D3.out, T3.out, ?_, ?_, by omega⟩, ?_⟩
            · rw [N3.out, E.out, numD_zero_cons, SUM.out, hdrop.out]
              exact tim_arith _ _ _
            · exact BEL1.out.trans ((BEL2.out.mono (BEL1.out.size)).trans (B3.out.mono (by have := BEL1.out.size; omega)))
            · simp [intOf]
end Go.Proofs.YtdpcfpmlkhdmkaaDoor
