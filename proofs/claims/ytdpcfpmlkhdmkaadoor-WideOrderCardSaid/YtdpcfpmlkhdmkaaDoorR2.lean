/- rows of digits: append, Digits. -/
import Derived.Test.YtdpcfpmlkhdmkaaDoorR1
namespace Go.Proofs.YtdpcfpmlkhdmkaaDoor
open Go.RowKit

theorem info23 : (Tryd.prog.info? 23).map (fun i => (i.zero, i.size, i.bytes)) = some (some (.int .u64 0), 1, 8) := by kernel_rfl
theorem info23' : ∃ i, Tryd.prog.info? 23 = some i ∧ i.zero = some (.int .u64 0) ∧ i.size = 1 ∧ i.bytes = 8 := by
  have h := info23
  cases hi : Tryd.prog.info? 23 with
  | none => rw [hi] at h; cases h
  | some i =>
    rw [hi] at h
    simp only [Option.map_some, Option.some.injEq, Prod.mk.injEq] at h
    exact ⟨i, rfl, h.1, h.2.1, h.2.2⟩

/-- a slice that the call owns reads as these digits. -/
def Own (B : Nat) (w : World) (v : Value) (l : List Int) : Prop := w.ownsRow B 23 1 v l.length (l.map (Value.int .u64))
theorem Own.row {B : Nat} {w : World} {v : Value} {l : List Int} (h : Own B w v l) : Row w v l := Row.of_owns h
theorem Own.nil (B : Nat) (w : World) : Own B w (.slice none 0 0) [] := World.ownsRow_nil _ _ _ _
theorem Own.keeps {B B' : Nat} {w w' : World} {v : Value} {l : List Int} (h : Own B w v l) (hb : Below B' w w') (hB : w.heap.size ≤ B') : Own B w' v l := by
  refine World.ownsRow.kept (row := none) h ⟨hb.os, hb.tape, hb.output, hb.size, fun k hk _ => hb.block k (by omega)⟩ ?_
  cases v.ownBlock <;> simp
theorem Below.of_grown {B : Nat} {W w1 : World} {o : Obj} {v : Value} {n e s : Nat} {xs : List Value} (h : W.ownsRow B e s v n xs) (hg : (W.alloc o).grownBy w1 v.ownBlock) (hB : B ≤ W.heap.size) : Below B W w1 := by
  have hs := hg.size
  simp only [World.size_alloc] at hs
  refine ⟨hg.os, hg.tape, hg.output, by omega, fun k hk => ?_⟩
  refine (hg.block k (by simp; omega) ?_).trans (Below.heap_alloc _ _ _ (by omega))
  intro e
  have := h.lt k e.symm
  omega

theorem app1 {ops : Array Oper} {rest : List Oper} {o : Oper} {a : Act} {Q : Exit → Act → World → Prop} (hgd : o.guard = none) (s x : Operand)
    (ho : o.op = .call { callee := .builtin .append, args := #[s, x], argTypes := #[25, 25] }) {w : World} (B : Nat) (v : Value) (l : List Int) (d : Int) (W : World)
    (hs : a.eval s = v) (hx : a.eval x = .slice (some ⟨W.heap.size, 0, none⟩) 1 1) (hw : w = W.alloc (.cells #[.int .u64 d] 23)) (own : Own B W v l) (hB : B ≤ W.heap.size) (hlen : l.length ≤ 1000000)
    (h : ∀ v' w1, Own B w1 v' (l ++ [d]) → Below B W w1 → wpList Tryd.prog ops Q rest (a.put o.dst v') w1) : wpList Tryd.prog ops Q (o :: rest) a w := by
  obtain ⟨i, hi, hz0, hz1, hz2⟩ := info23'
  subst hw
  refine wpList_append_own _ hgd s x 25 ho B 23 i (.int .u64 0) 1 8 Tryd.underlying25 hi hz0 hz1 hz2 rfl (by decide) v l.length _ hs (World.ownsRow.alloc own _) ⟨W.heap.size, 0, none⟩ 1 1 [.int .u64 d] hx rfl ?_ ?_ ?_ ?_ ?_ ?_
  · intro j u hj
    match j, hj with
    | 0, hj => simp at hj; subst hj; simp [Addr.add]
    | j + 1, hj => simp at hj
  · intro u hu; simp at hu; subst hu; rfl
  · unfold maxLen; omega
  · omega
  · simp; omega
  · intro v' w1 h1 h2 _
    refine h v' w1 ?_ (Below.of_grown own h2 hB)
    unfold Own
    simpa using h1

/-- the first k digits of a word. -/
def dig4 (x : Int) : Nat → List Int
  | 0 => []
  | k + 1 => dig4 x k ++ [x / P16 k % 65536]
theorem dig4_len (x : Int) : ∀ k, (dig4 x k).length = k
  | 0 => rfl
  | k + 1 => by simp [dig4, dig4_len x k]
theorem dig4_digs (x : Int) : ∀ k, Digs (dig4 x k)
  | 0 => Digs.nil
  | k + 1 => (dig4_digs x k).snoc (by omega) (by omega)
theorem dig4_num (x : Int) : ∀ k, numD (dig4 x k) = x % P16 k
  | 0 => by simp [dig4, numD, P16_zero]
  | k + 1 => by
    rw [dig4, numD_snoc, dig4_num x k, dig4_len, P16_succ]
    have h := P16_pos k
    have := Int.mul_ediv_add_emod x (P16 k)
    have h2 := Int.mul_ediv_add_emod (x / P16 k) 65536
    have h3 : x / P16 k / 65536 = x / (65536 * P16 k) := by rw [Int.ediv_ediv_of_nonneg (by omega), Int.mul_comm]
    have h4 := Int.mul_ediv_add_emod x (65536 * P16 k)
    rw [h3] at h2
    have h5 : P16 k * (x / P16 k) = P16 k * (65536 * (x / (65536 * P16 k)) + x / P16 k % 65536) := by rw [h2]
    rw [Int.mul_add] at h5
    have h6 : P16 k * (65536 * (x / (65536 * P16 k))) = 65536 * P16 k * (x / (65536 * P16 k)) := by grind
    omega

theorem Row.of_block {w : World} {g : Nat} {x y : Int} (h0 : w.cell? ⟨g, 0, none⟩ = some (.int .u64 (x))) (h1 : w.cell? ⟨g, 1, none⟩ = some (.int .u64 (y))) : Row w (.slice (some ⟨g, 0, none⟩) 2 2) [x, y] := by
  refine .inr ⟨g, 2, rfl, by simp, by omega, fun j x hj => ?_⟩
  match j, hj with
  | 0, hj => simp at hj; subst hj; exact h0
  | 1, hj => simp at hj; subst hj; exact h1
  | j + 2, hj => simp at hj

/-- the rounds over one word: k digits are laid. -/
structure DigI (w : World) (base : List Int) (x : Int) (v5 v16 v : Value) (k : Nat) (wr : World) : Prop where
  hk : k ≤ 4
  e16 : v16 = (.int .i64 (k))
  e5 : v5 = (.int .u64 (x / P16 k))
  own : Own w.heap.size wr v (base ++ dig4 x k)
  bel : Below w.heap.size w wr

theorem DigI.next {w wr w1 : World} {base : List Int} {x : Int} {v5 v16 v v' : Value} {k : Nat} (h : DigI w base x v5 v16 v k wr) (hk : k < 4)
    (hown : Own w.heap.size w1 v' ((base ++ dig4 x k) ++ [x / P16 k % 65536])) (hb : Below w.heap.size wr w1) : DigI w base x (.int .u64 (x / P16 k / 65536)) (.int .i64 ((k + 1 : Nat))) v' (k + 1) w1 := by
  refine ⟨by omega, rfl, ?_, ?_, h.bel.trans hb⟩
  · rw [Int.ediv_ediv_of_nonneg (Int.le_of_lt (P16_pos k)), Int.mul_comm, ← P16_succ]
  · rw [dig4, ← List.append_assoc]; exact hown

set_option maxRecDepth 100000 in
set_option maxHeartbeats 1000000 in
theorem rdigits_any (a b : Int) (w : World) (ha : U64 a) (hb : U64 b) : Calls Tryd.prog 11 #[.agg #[(.int .u64 (a)), (.int .u64 (b))]] w fun e w' => (∃ v', e = .returned v' ∧ Num w' v' (W128 a b)) ∧ Below w.heap.size w w' := by
  have a0 := ha.1
  have b0 := hb.1
  have HA := hid ha; have HB := hid hb; clear ha hb
  go_enter Tryd.func11, Tryd.ntmps11
  go_wp2_with fail
  have hz : ((w.alloc (.cells #[(.int .u64 (a)), (.int .u64 (b))] 27)).alloc (.cells #[(.int .u64 (b)), (.int .u64 (a))] 23)).heap.size = (w.heap.size + 1 + 1) := by simp
  have hB0 : Below w.heap.size w ((w.alloc (.cells #[(.int .u64 (a)), (.int .u64 (b))] 27)).alloc (.cells #[(.int .u64 (b)), (.int .u64 (a))] 23)) := by
    repeat' (first | exact Below.refl _ _ | with_reducible refine Below.alloc ?_ ?_ _ | with_reducible refine Below.setCell ?_ ?_ _ | with_reducible refine Below.drew ?_ | with_reducible refine below_drewN ?_ _ | refine Below.trans ?_ (Below.mono (by assumption) ?_))
    all_goals (first | omega | (simp <;> omega))
  have hc0 : ((w.alloc (.cells #[(.int .u64 (a)), (.int .u64 (b))] 27)).alloc (.cells #[(.int .u64 (b)), (.int .u64 (a))] 23)).cell? ⟨(w.heap.size + 1), 0, none⟩ = some (.int .u64 (b)) := by go_simp
  have hc1 : ((w.alloc (.cells #[(.int .u64 (a)), (.int .u64 (b))] 27)).alloc (.cells #[(.int .u64 (b)), (.int .u64 (a))] 23)).cell? ⟨(w.heap.size + 1), 1, none⟩ = some (.int .u64 (a)) := by go_simp
  generalize ((w.alloc (.cells #[(.int .u64 (a)), (.int .u64 (b))] 27)).alloc (.cells #[(.int .u64 (b)), (.int .u64 (a))] 23)) = W0 at *
  have HB0 := hid hB0; clear hB0
  have HZ := hid hz; clear hz
  refine wp_loop_rounds 3 ?_
  rw [rounds_succ]
  go_wp2_with fail
  go_loopw [3, 5, 16] (fun v v5 v16 wr => ∃ k, DigI W0 [] b v5 v16 v k wr) (fun _ _ v16 _ => 4 - (intOf v16).toNat)
  case atStart => exact ⟨0, by omega, rfl, by simp [P16_zero], Own.nil _ _, Below.refl _ _⟩
  case round =>
    obtain ⟨k, I⟩ := hrel
    obtain ⟨hk, rfl, rfl, own, bel⟩ := id I
    have size := bel.size
    have I := hid I
    have OWN := hid own; clear own
    have BEL := hid bel; clear bel
    have hq : 0 ≤ b / P16 k := Int.ediv_nonneg b0 (Int.le_of_lt (P16_pos k))
    generalize hx : b / P16 k = x at *
    have hxr := hid hx; clear hx
    by_cases h4 : k < 4
    · have h4' : (k : Int) < 4 := by omega
      have e1 : x.tdiv 65536 = x / 65536 := Int.tdiv_eq_ediv_of_nonneg hq
      have hxm : x < M := by rw [← hxr.out]; have := Int.ediv_le_self (b := P16 k) b0; have := HB.out.2; omega
      have e2 : IntKind.u64.wrap (x / 65536) = x / 65536 := IntWalk.u64_in _ ⟨by omega, by rw [M_eq] at hxm; omega⟩
      have HM := hid hxm; clear hxm
      go_wp2_with (first | (at_builtin; refine app1 rfl _ _ rfl (W0.heap.size) _ _ (x % 65536) wr rfl rfl rfl OWN.out size ?_ ?_))
      · simp [dig4_len]; omega
      · intro v' w1 hown hbel
        have HO := hid hown; clear hown
        have HB' := hid hbel; clear hbel
        go_wp2_with fail
        refine ⟨⟨k + 1, ?_⟩, ?_⟩
        · rw [← hxr.out]
          exact I.out.next h4 (by rw [hxr.out]; exact HO.out) HB'.out
        · simp [intOf]; omega
    · obtain rfl : k = 4 := by omega
      have hc1' : wr.cell? ⟨(w.heap.size + 1), 1, none⟩ = some (.int .u64 (a)) := (BEL.out.cell (by rw [HZ.out]; simp)).trans hc1
      clear hc0 hc1
      go_wp2_with fail
      rw [rounds_succ]
      go_wp2_with fail
      go_loopw [3, 5, 16] (fun v v5 v16 wr => ∃ k, DigI W0 (dig4 b 4) a v5 v16 v k wr) (fun _ _ v16 _ => 4 - (intOf v16).toNat)
      case atStart => exact ⟨0, by omega, rfl, by simp [P16_zero], by have := OWN.out; simpa [dig4] using this, BEL.out⟩
      case round =>
        clear I OWN BEL size hc1' hxr hq hk h4
        obtain ⟨k, I⟩ := hrel
        obtain ⟨hk, rfl, rfl, own, bel⟩ := id I
        have size := bel.size
        have I := hid I
        have OWN := hid own; clear own
        have BEL := hid bel; clear bel
        have hq : 0 ≤ a / P16 k := Int.ediv_nonneg a0 (Int.le_of_lt (P16_pos k))
        generalize hx : a / P16 k = x at *
        have hxr := hid hx; clear hx
        by_cases h4 : k < 4
        · have h4' : (k : Int) < 4 := by omega
          have e1 : x.tdiv 65536 = x / 65536 := Int.tdiv_eq_ediv_of_nonneg hq
          have hxm : x < M := by rw [← hxr.out]; have := Int.ediv_le_self (b := P16 k) a0; have := HA.out.2; omega
          have e2 : IntKind.u64.wrap (x / 65536) = x / 65536 := IntWalk.u64_in _ ⟨by omega, by rw [M_eq] at hxm; omega⟩
          have HM := hid hxm; clear hxm
          go_wp2_with (first | (at_builtin; refine app1 rfl _ _ rfl (W0.heap.size) _ _ (x % 65536) wr rfl rfl rfl OWN.out size ?_ ?_))
          · simp [dig4_len]; omega
          · intro v' w1 hown hbel
            have HO := hid hown; clear hown
            have HB' := hid hbel; clear hbel
            go_wp2_with fail
            refine ⟨⟨k + 1, ?_⟩, ?_⟩
            · rw [← hxr.out]
              exact I.out.next h4 (by rw [hxr.out]; exact HO.out) HB'.out
            · simp [intOf]; omega
        · obtain rfl : k = 4 := by omega
          go_wp2_with fail
          rw [rounds_succ]
          go_wp2_with fail
          refine (trim_any _ (dig4 b 4 ++ dig4 a 4) _ OWN.out.row ?_).mono ?_
          · intro x hx
            rcases List.mem_append.1 hx with h | h
            · exact dig4_digs _ _ x h
            · exact dig4_digs _ _ x h
          rintro e w' ⟨⟨v', rfl, hv⟩, rfl⟩
          have HV := hid hv; clear hv
          go_wp2_with fail
          go_ret
          refine ⟨⟨_, rfl, ?_⟩, ?_⟩
          · have := HV.out
            rw [numD_append, dig4_num, dig4_num, dig4_len, P16_4, Int.emod_eq_of_lt b0 HB.out.2, Int.emod_eq_of_lt a0 HA.out.2] at this
            unfold W128
            rw [show a * M + b = b + M * a by grind]
            exact this
          · exact HB0.out.trans (BEL.out.mono (by rw [HZ.out]; omega))
end Go.Proofs.YtdpcfpmlkhdmkaaDoor
