/- rows of digits: Power of the document. -/
import Derived.Test.YtdpcfpmlkhdmkaaDoorR6
import Derived.Test.YtdpcfpmlkhdmkaaDoorW11
namespace Go.Proofs.YtdpcfpmlkhdmkaaDoor
open Go.RowKit

/-- what the document's power comes to: the power, or something that is beyond all wide numbers. -/
def Pow (X : Int) (n : Nat) (Z : Int) : Prop := (X ^ n < M * M ∧ Z = X ^ n) ∨ (¬ X ^ n < M * M ∧ ¬ Z < M * M)

theorem pow_nonneg (X : Int) (h : 0 ≤ X) : ∀ n : Nat, 0 ≤ X ^ n
  | 0 => by simp
  | n + 1 => by rw [Int.pow_succ]; exact Int.mul_nonneg (pow_nonneg X h n) h
theorem pow_mono (X : Int) (h : 1 ≤ X) (k : Nat) : ∀ d : Nat, X ^ k ≤ X ^ (k + d)
  | 0 => Int.le_refl _
  | d + 1 => by
    have := pow_mono X h k d
    have h0 := pow_nonneg X (by omega) (k + d)
    rw [← Nat.add_assoc, Int.pow_succ]
    have : X ^ (k + d) * 1 ≤ X ^ (k + d) * X := Int.mul_le_mul_of_nonneg_left h h0
    omega
theorem pow2_le (X : Int) (h : 2 ≤ X) : ∀ n : Nat, 2 ^ n ≤ X ^ n
  | 0 => by simp
  | n + 1 => by
    have := pow2_le X h n
    have h0 := pow_nonneg X (by omega) n
    rw [Int.pow_succ, Int.pow_succ]
    have : X ^ n * 2 ≤ X ^ n * X := Int.mul_le_mul_of_nonneg_left h h0
    omega
theorem Pow.end_ {X : Int} {n k : Nat} (hX : 0 ≤ X) (hk : k ≤ n) (h : k = n ∨ ¬ X ^ k < M * M ∨ 200 ≤ k) : Pow X n (X ^ k) := by
  by_cases e : k = n
  · subst e
    by_cases hl : X ^ k < M * M
    · exact .inl ⟨hl, rfl⟩
    · exact .inr ⟨hl, hl⟩
  · have hn : n = k + (n - k) := by omega
    by_cases h2 : 2 ≤ X
    · have : ¬ X ^ k < M * M := by
        rcases h with h | h | h
        · exact absurd h e
        · exact h
        · have a := pow2_le X h2 k
          have b : (2 : Int) ^ 200 ≤ 2 ^ k := by
            have := pow_mono 2 (by omega) 200 (k - 200)
            rwa [show 200 + (k - 200) = k by omega] at this
          have c : M * M ≤ (2 : Int) ^ 200 := by rw [M_eq]; decide
          omega
      refine .inr ⟨?_, this⟩
      have := pow_mono X (by omega) k (n - k)
      rw [← hn] at this
      omega
    · have h01 : X = 0 ∨ X = 1 := by omega
      have hMM : (1 : Int) < M * M := by rw [M_eq]; omega
      rcases h01 with rfl | rfl
      · have hk0 : k ≠ 0 := by
          rintro rfl
          rcases h with h | h | h
          · exact e h
          · simp at h; omega
          · omega
        obtain ⟨j, rfl⟩ : ∃ j, k = j + 1 := ⟨k - 1, by omega⟩
        obtain ⟨i, rfl⟩ : ∃ i, n = i + 1 := ⟨n - 1, by omega⟩
        refine .inl ⟨?_, ?_⟩ <;> simp [Int.pow_succ] <;> omega
      · refine .inl ⟨?_, ?_⟩ <;> simp [Int.one_pow] <;> omega

structure PowI (w : World) (X : Int) (n : Nat) (v5 v6 : Value) (k : Nat) (wr : World) : Prop where
  e6 : v6 = (.int .i64 (k))
  num : Num wr v5 (X ^ k)
  bel : Below w.heap.size w wr
  hk : k ≤ n
  h200 : k ≤ 200

theorem Num.len {w : World} {v : Value} {N : Int} (h : Num w v N) : ∃ (p : Option Addr) (n cap : Nat), v = .slice p n cap ∧ (n ≤ 8 ↔ N < M * M) := by
  obtain ⟨l, hr, hd, ht, rfl⟩ := h
  obtain ⟨p, cap, e⟩ := hr.form
  exact ⟨p, _, cap, e, by rw [ht.len hd 8, P16_8]⟩

set_option maxRecDepth 100000 in
set_option maxHeartbeats 1000000 in
theorem power_num (v : Value) (X : Int) (n : Int) (w : World) (hx : Num w v X) (hX : X < M * M) (hn0 : 0 ≤ n) (hn : n ≤ 9223372036854775807) :
    Calls Tryd.prog 17 #[v, (.int .i64 (n))] w fun e w' => (∃ v' Z, e = .returned v' ∧ Num w' v' Z ∧ Pow X n.toNat Z) ∧ Below w.heap.size w w' := by
  obtain ⟨n, rfl⟩ := Int.eq_ofNat_of_zero_le hn0
  rw [Int.toNat_natCast]
  have HX := hid hx; have HXM := hid hX; have HX0 := hid hx.nonneg
  clear hx hX hn0
  go_enter Tryd.func17, Tryd.ntmps17
  go_wp2_with fail
  ((with_reducible refine (small_any 1 (by omega) (by omega) _).mono ?_); rintro e w1 ⟨⟨v1, rfl, hn1⟩, b1⟩)
  have N1 := hid hn1; have B1 := hid b1; clear hn1 b1
  go_wp2_with fail
  go_loopw [5, 6] (fun v5 v6 wr => ∃ k, PowI w X n v5 v6 k wr) (fun _ v6 _ => 200 - (intOf v6).toNat)
  case atStart => exact ⟨0, rfl, by simpa using N1.out, B1.out, Nat.zero_le _, by omega⟩
  case round =>
    obtain ⟨k, I⟩ := hrel
    obtain ⟨rfl, num, bel, hk, h200⟩ := I
    obtain ⟨p, len, cap, rfl, hlen⟩ := num.len
    have NUM := hid num; have BEL := hid bel
    clear num bel N1 B1
    by_cases hgo : k < n ∧ len ≤ 8 ∧ k < 200
    · obtain ⟨g1, g2, g3⟩ := hgo
      have q1 : (k : Int) < (n : Int) := by omega
      have q2 : (len : Int) ≤ 8 := by omega
      have q3 : (k : Int) < 200 := by omega
      have LT := hid (hlen.1 g2)
      clear hlen g2
      obtain ⟨l, hl1, hl2, hl3, hl4⟩ := NUM.out
      obtain ⟨m, hm1, hm2, hm3, hm4⟩ := HX.out.below BEL.out
      have ll : l.length ≤ 10000 := by have := (hl3.len hl2 8).2 (by rw [hl4, P16_8]; exact LT.out); omega
      have ml : m.length ≤ 10000 := by have := (hm3.len hm2 8).2 (by rw [hm4, P16_8]; exact HXM.out); omega
      have T := hid (times_num _ _ l m _ hl1 hm1 hl2 hm2 ll ml)
      rw [hl4, hm4] at T
      clear hl1 hl2 hl3 hl4 hm1 hm2 hm3 hm4 ll ml
      go_wp2_with fail
      ((with_reducible refine (T.out).mono ?_); rintro e w2 ⟨⟨v2, rfl, hn2⟩, b2⟩)
      have N2 := hid hn2; have B2 := hid b2; clear hn2 b2
      go_wp2_with fail
      refine ⟨⟨k + 1, rfl, ?_, ?_, by omega, by omega⟩, ?_⟩
      · rw [Int.pow_succ]; exact N2.out
      · exact BEL.out.trans (B2.out.mono BEL.out.size)
      · simp [intOf]; omega
    · have E : Hid (Pow X n (X ^ k)) := by
        refine Pow.end_ HX0.out hk ?_
        by_cases a : k = n
        · exact .inl a
        · by_cases b : len ≤ 8
          · exact .inr (.inr (by omega))
          · exact .inr (.inl (fun h => b (hlen.2 h)))
      have key : ¬ (k : Int) < (n : Int) ∨ ((k : Int) < (n : Int) ∧ ¬ (len : Int) ≤ 8) ∨ ((k : Int) < (n : Int) ∧ (len : Int) ≤ 8 ∧ ¬ (k : Int) < 200) := by omega
      clear hgo hlen
      rcases key with q | ⟨q, q2⟩ | ⟨q, q2, q3⟩
      all_goals
        go_wp2_with fail
        go_ret
        exact ⟨⟨.slice p len cap, rfl, X ^ k, NUM.out, E.out⟩, BEL.out⟩
end Go.Proofs.YtdpcfpmlkhdmkaaDoor
