/- the document's Right and Read. -/
import Derived.Test.YtdpcfpmlkhdmkaaDoorW19
import Derived.Test.YtdpcfpmlkhdmkaaDoorL2
namespace Go.Proofs.YtdpcfpmlkhdmkaaDoor
open Go.RowKit

def RightPost (s : ByteArray) (w : World) (e : Ending) (w' : World) : Prop := (∃ r, e = .returned (.bool r) ∧ (r = true ↔ GoodS s)) ∧ w = w'
set_option maxRecDepth 100000 in
set_option maxHeartbeats 2000000 in
theorem right_any (s : ByteArray) (w : World) (hs : s.size ≤ 1000) : Calls Tryd.prog 28 #[.string s] w (RightPost s w) := by
  go_enter Tryd.func28, Tryd.ntmps28
  go_wp2_with fail
  go_loop [6] (fun v6 => ∃ k : Nat, v6 = (.int .i64 (k)) ∧ k ≤ s.size ∧ Hid (∀ i (h : i < s.size), i < k → 48 ≤ s[i].toNat ∧ s[i].toNat ≤ 57)) (fun v6 => s.size - (intOf v6).toNat)
  case atStart => exact ⟨0, rfl, Nat.zero_le _, fun i h h' => by omega⟩
  case round =>
    obtain ⟨k, rfl, hk, HD⟩ := hrel
    by_cases hgo : k < s.size
    · have hgo' : (k : Int) < (s.size : Int) := by omega
      by_cases hdig : 48 ≤ s[k].toNat ∧ s[k].toNat ≤ 57
      · have HN := hid hdig
        obtain ⟨i0, i1⟩ := hdig
        have q1 : ¬ (s[k].toNat : Int) < 48 := by omega
        have q2 : ¬ (57 : Int) < (s[k].toNat : Int) := by omega
        go_wp2_with fail
        refine ⟨⟨k + 1, by simp, hgo, ?_⟩, ?_⟩
        · intro i h h'
          by_cases e : i = k
          · subst e; exact HN.out
          · exact HD.out i h (by omega)
        · simp [intOf]; omega
      · have NG : Hid (¬ GoodS s) := fun ⟨_, _, h⟩ => hdig (h k hgo)
        have key : (s[k].toNat : Int) < 48 ∨ (¬ (s[k].toNat : Int) < 48 ∧ (57 : Int) < (s[k].toNat : Int)) := by omega
        clear hdig
        rcases key with q1 | ⟨q1, q2⟩
        all_goals
          go_wp2_with fail
          go_ret
          exact ⟨⟨false, rfl, by simp [NG.out]⟩, rfl⟩
    · have h1' : ¬ (k : Int) < (s.size : Int) := by omega
      have DS : Hid (DigS s) := fun i h => HD.out i h (by omega)
      by_cases h0 : s.size = 0
      · have hl : s.toList = [] := by rw [ByteArray.toList_eq]; exact List.length_eq_zero_iff.1 (by simpa using h0)
        have NG : Hid (¬ GoodS s) := fun ⟨h, _⟩ => by omega
        clear hgo
        go_wp2_with fail
        go_ret
        exact ⟨⟨false, rfl, by simp [NG.out]⟩, rfl⟩
      · have hp : 0 < s.size := by omega
        have hl : ¬ s.toList = [] := by
          rw [ByteArray.toList_eq]; intro e
          have := congrArg List.length e
          simp at this
          exact h0 (by rw [this]; rfl)
        have hl' : s.toList.isEmpty = false := by simpa using hl
        have GI : Hid (GoodS s ↔ (s[0].toNat = 48 → s.toList = [48])) := ⟨fun ⟨_, h, _⟩ => h, fun h => ⟨hp, h, DS.out⟩⟩
        clear hgo h0
        by_cases b1 : (s[0].toNat : Int) = 48
        · by_cases b2 : s.toList = [48]
          · have b2' : (s.toList == [48]) = true := by rw [beq_iff_eq]; exact b2
            have R : Hid (GoodS s) := GI.out.2 (fun _ => b2)
            clear b2
            go_wp2_with fail
            go_ret
            exact ⟨⟨true, rfl, by simp [R.out]⟩, rfl⟩
          · have b2' : (s.toList == [48]) = false := by rw [beq_eq_false_iff_ne]; exact b2
            have R : Hid (¬ GoodS s) := fun h => b2 (GI.out.1 h (by omega))
            clear b2
            go_wp2_with fail
            go_ret
            exact ⟨⟨false, rfl, by simp [R.out]⟩, rfl⟩
        · have R : Hid (GoodS s) := GI.out.2 (fun h => absurd (by omega) b1)
          go_wp2_with fail
          go_ret
          exact ⟨⟨true, rfl, by simp [R.out]⟩, rfl⟩

theorem numOf_lt (l : List UInt8) (h : ∀ c ∈ l, 48 ≤ c.toNat ∧ c.toNat ≤ 57) : numOf l < 10 ^ l.length := by
  induction hn : l.length generalizing l with
  | zero => rw [List.length_eq_zero_iff.1 hn]; simp [numOf]
  | succ n ih =>
    have hl : l ≠ [] := by intro e; rw [e] at hn; simp at hn
    obtain ⟨l', c, rfl⟩ : ∃ l' c, l = l' ++ [c] := ⟨l.dropLast, l.getLast hl, (List.dropLast_concat_getLast hl).symm⟩
    have hc := h c (by simp)
    have := ih l' (fun x hx => h x (by simp [hx])) (by simpa using hn)
    rw [numOf_snoc, Nat.pow_succ]
    omega
theorem ten60 {k : Nat} (h : k ≤ 60) {n : Nat} (hn : n < 10 ^ k) : (n : Int) < P16 10000 := by
  have a : (10 : Nat) ^ k ≤ 10 ^ 60 := Nat.pow_le_pow_right (by omega) h
  have b : P16 20 ≤ P16 10000 := P16_le (by omega)
  have c : ((10 ^ 60 : Nat) : Int) < P16 20 := by unfold P16; decide
  omega

theorem times_np (va vb : Value) (X Y : Int) (w : World) (ha : Num w va X) (hb : Num w vb Y) (hX : X < P16 10000) (hY : Y < P16 10000) : Calls Tryd.prog 14 #[va, vb] w fun e w' => (∃ v', e = .returned v' ∧ Num w' v' (X * Y)) ∧ Below w.heap.size w w' := by
  obtain ⟨l, h1, h2, h3, rfl, h5⟩ := ha.row hX
  obtain ⟨m, k1, k2, k3, rfl, k5⟩ := hb.row hY
  exact times_num va vb l m w h1 k1 h2 k2 (by omega) (by omega)

set_option maxRecDepth 100000 in
set_option maxHeartbeats 2000000 in
theorem refread_any (s : ByteArray) (w : World) (hs : s.size ≤ 60) (hd : DigS s) : Calls Tryd.prog 29 #[.string s] w fun e w' => (∃ v', e = .returned v' ∧ Num w' v' (numOf s.data.toList : Nat)) ∧ Below w.heap.size w w' := by
  have HD := hid hd; clear hd
  go_enter Tryd.func29, Tryd.ntmps29
  go_wp2_with fail
  go_loopw [3, 7] (fun v3 v7 wr => ∃ k : Nat, v7 = (.int .i64 (k)) ∧ k ≤ s.size ∧ Hid (Num wr v3 (numOf (s.data.toList.take k) : Nat)) ∧ Hid (Below w.heap.size w wr)) (fun _ v7 _ => s.size - (intOf v7).toNat)
  case atStart => exact ⟨0, rfl, Nat.zero_le _, ⟨[], Row.nil _, Digs.nil, Trim.nil, rfl⟩, Below.refl _ _⟩
  case round =>
    obtain ⟨k, rfl, hk, N3, BEL⟩ := hrel
    by_cases hgo : k < s.size
    · have hgo' : (k : Int) < (s.size : Int) := by omega
      obtain ⟨i0, i1⟩ := HD.out k hgo
      have SN : Hid ((numOf (s.data.toList.take (k + 1)) : Int) = (numOf (s.data.toList.take k) : Int) * 10 + ((s[k].toNat : Int) - 48)) := by
        show _ = _
        rw [take_snoc s k hgo, numOf_snoc]
        omega
      have LT : Hid ((numOf (s.data.toList.take k) : Int) < P16 10000 ∧ (numOf (s.data.toList.take (k + 1)) : Int) < P16 10000) := by
        have hall : ∀ j, ∀ c ∈ s.data.toList.take j, 48 ≤ c.toNat ∧ c.toNat ≤ 57 := fun j c hc => by
          obtain ⟨i, hi, rfl⟩ := List.getElem_of_mem (List.mem_of_mem_take hc)
          exact HD.out i (by simpa using hi)
        have len : ∀ j, (s.data.toList.take j).length ≤ 60 := fun j => by rw [List.length_take]; simp; omega
        exact ⟨ten60 (len k) (numOf_lt _ (hall k)), ten60 (len (k + 1)) (numOf_lt _ (hall (k + 1)))⟩
      have w1 : IntKind.u8.wrap ((s[k].toNat : Int) - 48) = (s[k].toNat : Int) - 48 := IntWalk.u8_in _ ⟨by omega, by omega⟩
      have w2 : IntKind.u64.wrap ((s[k].toNat : Int) - 48) = (s[k].toNat : Int) - 48 := IntWalk.u64_in _ ⟨by omega, by omega⟩
      have hten : (10 : Int) < P16 10000 := by
        have b : P16 1 ≤ P16 10000 := P16_le (by omega)
        have c : P16 1 = 65536 := rfl
        omega
      have hdl : (s[k].toNat : Int) - 48 < P16 10000 := by omega
      have HT := hid hten; have HDL := hid hdl; clear hten hdl
      go_wp2_with fail
      have hx : Below w.heap.size w wr.drew := BEL.out.drew
      have N3 : Hid (Num wr.drew u3 (numOf (s.data.toList.take k) : Nat)) := N3
      go_region_held3 (fun w' => Below w.heap.size w w') (first | assumption | go_keep)
        (first | (go_at_call_of 39 (Value.int IntKind.u64 10); refine (small_any 10 (by omega) (by omega) _).mono ?_; rintro e wa ⟨⟨va, rfl, na⟩, B⟩; have NA := hid na; clear na; have hx := bel_step (by assumption) B; have N3 := hid (N3.out.below B); clear B) | (go_at_call 14; refine (times_np _ _ _ _ _ N3.out NA.out LT.out.1 HT.out).mono ?_; rintro e wb ⟨⟨vb, rfl, nb⟩, B⟩; have NB := hid nb; clear nb; have hx := bel_step (by assumption) B; clear B) | (go_at_call 39; refine (small_any _ (by omega) (by omega) _).mono ?_; rintro e wc ⟨⟨vc, rfl, nc⟩, B⟩; have NC := hid nc; clear nc; have hx := bel_step (by assumption) B; have NB := hid (NB.out.below B); clear B) | (go_at_call 10; refine (plus_np _ _ _ _ _ NB.out NC.out (by have := LT.out.2; have := SN.out; omega) HDL.out).mono ?_; rintro e wd ⟨⟨vd, rfl, nd⟩, B⟩; have ND := hid nd; clear nd; have hx := bel_step (by assumption) B; clear B))
      all_goals
        have hz := hid (by assumption : Below w.heap.size w wd)
        go_wp2_with fail
        refine ⟨⟨k + 1, by simp, hgo, ?_, hz.out⟩, by simp [intOf]; omega⟩
        show Num _ _ _
        rw [SN.out]
        exact ND.out
    · have h1' : ¬ (k : Int) < (s.size : Int) := by omega
      rw [List.take_of_length_le (by simp; omega)] at N3
      clear hgo
      go_wp2_with fail
      go_ret
      exact ⟨⟨_, rfl, N3.out⟩, BEL.out⟩
end Go.Proofs.YtdpcfpmlkhdmkaaDoor
