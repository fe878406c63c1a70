/- rows of digits in memory: at, trim, Small. -/
import Derived.Test.YtdpcfpmlkhdmkaaDoorD1
namespace Go.Proofs.YtdpcfpmlkhdmkaaDoor
open Go.RowKit

/-- the slice reads as these digits. -/
def Row (w : World) (v : Value) (l : List Int) : Prop :=
  (v = .slice none 0 0 ∧ l = []) ∨ ∃ g cap : Nat, v = .slice (some ⟨g, 0, none⟩) l.length cap ∧ l.length ≤ cap ∧ cap ≤ 9223372036854775807 ∧ ∀ j x, l[j]? = some x → w.cell? ⟨g, j, none⟩ = some (.int .u64 (x))
theorem Row.nil (w : World) : Row w (.slice none 0 0) [] := .inl ⟨rfl, rfl⟩
theorem Row.below {w w' : World} {v : Value} {l : List Int} (h : Row w v l) (hb : Below w.heap.size w w') : Row w' v l := by
  rcases h with h | ⟨g, cap, e, h1, h2, h3⟩
  · exact .inl h
  · exact .inr ⟨g, cap, e, h1, h2, fun j x hj => (hb.cell (p := ⟨g, j, none⟩) (World.block_lt_of_cell? _ _ (h3 j x hj))).trans (h3 j x hj)⟩
theorem Row.of_owns {w : World} {B : Nat} {v : Value} {n : Nat} {l : List Int} (h : w.ownsRow B 23 1 v n (l.map (Value.int .u64))) : Row w v l := by
  have hn : l.length = n := by simpa using h.1
  rcases h.2 with ⟨rfl, rfl⟩ | ⟨g, cap, cur, rfl, hb, hg, h1, h2, h3, h4⟩
  · exact .inl ⟨rfl, List.length_eq_zero_iff.1 hn⟩
  · refine .inr ⟨g, cap, by rw [hn], by omega, by simpa [maxLen] using h2, fun j x hj => ?_⟩
    have := World.ownsRow.cells h (g := g) rfl j (.int .u64 x) (by simp [hj])
    have hadd : (⟨g, 0, none⟩ : Addr).add j = ⟨g, j, none⟩ := by unfold Addr.add; split <;> simp_all
    rwa [hadd] at this
/-- the trimmed row of a number. -/
def Num (w : World) (v : Value) (N : Int) : Prop := ∃ l, Row w v l ∧ Digs l ∧ Trim l ∧ numD l = N
theorem Num.below {w w' : World} {v : Value} {N : Int} (h : Num w v N) (hb : Below w.heap.size w w') : Num w' v N := by
  obtain ⟨l, h1, h2⟩ := h
  exact ⟨l, h1.below hb, h2⟩
theorem Num.nonneg {w : World} {v : Value} {N : Int} (h : Num w v N) : 0 ≤ N := by
  obtain ⟨l, h1, h2, h3, rfl⟩ := h
  exact h2.lt.1

def sliceLen (v : Value) : Nat := match v with | .slice _ n _ => n | _ => 0

set_option maxRecDepth 100000 in
theorem at_any (v : Value) (l : List Int) (k : Nat) (w : World) (h : Row w v l) : Calls Tryd.prog 32 #[v, (.int .i64 (k))] w fun e w' => e = .returned (.int .u64 (l.getD k 0)) ∧ w = w' := by
  rcases h with ⟨rfl, rfl⟩ | ⟨g, cap, rfl, hc, hm, hx⟩
  · have hk : ¬ (k : Int) < 0 := by omega
    go_enter Tryd.func32, Tryd.ntmps32
    go_wp2_with fail
    go_ret
    exact ⟨by simp, rfl⟩
  · by_cases hk : k < l.length
    · have hcell := hx k _ (List.getElem?_eq_getElem hk)
      rw [getD_in l k hk]
      generalize l[k] = d at *
      clear hx
      have hk' : (k : Int) < (l.length : Int) := by omega
      go_enter Tryd.func32, Tryd.ntmps32
      go_wp2_with fail
      go_ret
      exact ⟨rfl, rfl⟩
    · rw [getD_out l k (by omega)]
      have hk' : ¬ (k : Int) < (l.length : Int) := by omega
      clear hx
      go_enter Tryd.func32, Tryd.ntmps32
      go_wp2_with fail
      go_ret
      exact ⟨rfl, rfl⟩

set_option maxRecDepth 100000 in
theorem trim_any (v : Value) (l : List Int) (w : World) (h : Row w v l) (hd : Digs l) : Calls Tryd.prog 33 #[v] w fun e w' => (∃ v', e = .returned v' ∧ Num w v' (numD l)) ∧ w = w' := by
  have HD := hid hd; clear hd
  rcases h with ⟨rfl, rfl⟩ | ⟨g, cap, rfl, hc, hm, hx⟩
  · go_enter Tryd.func33, Tryd.ntmps33
    go_wp2_with fail
    refine wp_loop_rounds 1 ?_
    rw [rounds_succ]
    go_wp2_with fail
    go_ret
    exact ⟨⟨_, rfl, [], Row.nil _, Digs.nil, Trim.nil, rfl⟩, rfl⟩
  · have HX := hid hx; clear hx
    go_enter Tryd.func33, Tryd.ntmps33
    go_wp2_with fail
    go_loop [0] (fun s0 => ∃ k : Nat, k ≤ l.length ∧ s0 = .slice (some ⟨g, 0, none⟩) k cap ∧ Hid (numD (l.take k) = numD l)) (fun s0 => sliceLen s0)
    case atStart => exact ⟨l.length, Nat.le_refl _, rfl, by show _ = _; rw [List.take_length]⟩
    case round =>
      obtain ⟨k, hk, rfl, hn⟩ := hrel
      have row : Hid (Row w (.slice (some ⟨g, 0, none⟩) k cap) (l.take k)) := by
        refine .inr ⟨g, cap, by simp [Nat.min_eq_left hk], by simp; omega, hm, fun j x hj => HX.out j x ?_⟩
        rw [List.getElem?_take] at hj
        split at hj
        · exact hj
        · cases hj
      by_cases hk0 : k = 0
      · subst hk0
        go_wp2_with fail
        go_ret
        exact ⟨⟨_, rfl, _, row.out, HD.out.take _, by simp [Trim.nil], hn.out⟩, rfl⟩
      · obtain ⟨j, rfl⟩ : ∃ j, k = j + 1 := ⟨k - 1, by omega⟩
        clear hk0
        have hjl : j < l.length := by omega
        have hcell := HX.out j _ (List.getElem?_eq_getElem hjl)
        have hw1 : ((j + 1 : Nat) : Int) - 1 = (j : Int) := by omega
        have hpos : (0 : Int) < ((j + 1 : Nat) : Int) := by omega
        have HL : Hid ((l.take (j + 1)).getLast? = some l[j]) := by
          show _ = _
          rw [List.take_succ_eq_append_getElem hjl, List.getLast?_concat]
        have HN : Hid (numD (l.take (j + 1)) = numD (l.take j) + P16 j * l[j]) := by
          show _ = _
          rw [numD_take_succ, getD_in l j hjl]
        generalize hd : l[j] = d at *
        clear hd
        by_cases h0 : d = 0
        · have h0' : (d == 0) = true := by simpa using h0
          have hn' : Hid (numD (l.take j) = numD l) := by
            show _ = _
            have := HN.out; rw [h0] at this; have := hn.out; omega
          clear h0
          go_wp2_with fail
          exact ⟨⟨j, by omega, rfl, hn'⟩, by simp [sliceLen]⟩
        · have h0' : (d == 0) = false := by simpa using h0
          go_wp2_with fail
          go_ret
          refine ⟨⟨_, rfl, _, row.out, HD.out.take _, ?_, hn.out⟩, rfl⟩
          intro hne
          have := HL.out
          rw [List.getLast?_eq_some_getLast hne] at this
          intro hz
          rw [hz] at this
          exact h0 (Option.some.inj this).symm

set_option maxRecDepth 100000 in
theorem small_any (n : Int) (h0 : 0 ≤ n) (h1 : n < 65536) (w : World) : Calls Tryd.prog 39 #[(.int .u64 (n))] w fun e w' => (∃ v', e = .returned v' ∧ Num w' v' n) ∧ Below w.heap.size w w' := by
  go_enter Tryd.func39, Tryd.ntmps39
  go_wp2_with fail
  refine (trim_any _ [n] _ ?_ (Digs.nil.cons h0 h1)).mono ?_
  · refine .inr ⟨w.heap.size, 1, rfl, by simp, by omega, fun j x hj => ?_⟩
    match j, hj with
    | 0, hj =>
      obtain rfl : n = x := by simpa using hj
      go_simp
    | j + 1, hj => simp at hj
  rintro e w' ⟨⟨v', rfl, hv⟩, rfl⟩
  have hb : Hid (Below w.heap.size w (w.alloc (.cells #[(.int .u64 (n))] 23))) := (Below.refl _ _).alloc (Nat.le_refl _) _
  have HV := hid hv; clear hv
  go_wp2_with fail
  go_ret
  refine ⟨⟨_, rfl, ?_⟩, ?_⟩
  · have := HV.out; simpa [numD] using this
  · exact hb.out
end Go.Proofs.YtdpcfpmlkhdmkaaDoor
