/- wide: texts of numbers and numbers of texts: plain laws. -/
import Derived.Test.YtdpcfpmlkhdmkaaDoorW18
namespace Go.Proofs.YtdpcfpmlkhdmkaaDoor
open Go.RowKit

theorem strOf_from (l : List Int) : ∀ r : ByteArray, (l.foldl (fun r n => r.push (UInt8.ofNat n.toNat)) r).data.toList = r.data.toList ++ l.map (fun n => UInt8.ofNat n.toNat) := by
  induction l with
  | nil => intro r; simp
  | cons d l ih =>
    intro r
    rw [List.foldl_cons, ih]
    simp [ByteArray.push]
theorem strOf_data (l : List Int) : (strOf l).data.toList = l.map (fun n => UInt8.ofNat n.toNat) := by
  unfold strOf
  rw [strOf_from]
  rw [show ByteArray.empty.data.toList = [] from rfl, List.nil_append]

/-- a number's text. -/
def rdig (f n : Nat) : List UInt8 := ((digs f n).map (48 + ·)).reverse.map (fun n => UInt8.ofNat n.toNat)
theorem rdig_succ (f n : Nat) : rdig (f + 1) n = (if n / 10 = 0 then [] else rdig f (n / 10)) ++ [UInt8.ofNat (48 + n % 10)] := by
  have hx : ((48 : Int) + ((n % 10 : Nat) : Int)).toNat = 48 + n % 10 := by omega
  unfold rdig
  rw [digs, List.map_cons, List.reverse_cons, List.map_append, List.map_cons, List.map_nil, hx]
  split
  · rfl
  · rfl
theorem digit_toNat (n : Nat) : (UInt8.ofNat (48 + n % 10)).toNat = 48 + n % 10 := by
  rw [UInt8.toNat_ofNat']; omega
theorem numOf_rdig : ∀ f n, n < 10 ^ (f + 1) → numOf (rdig (f + 1) n) = n
  | 0, n, h => by
    have e : n / 10 = 0 := by omega
    rw [rdig_succ, if_pos e, numOf_snoc, digit_toNat]; simp [numOf]; omega
  | f + 1, n, h => by
    rw [rdig_succ, numOf_snoc, digit_toNat]
    split
    · simp [numOf]; omega
    · rw [numOf_rdig f (n / 10) (by rw [Nat.pow_succ] at h; omega)]; omega
theorem rdig_dig : ∀ f n, ∀ c ∈ rdig f n, 48 ≤ c.toNat ∧ c.toNat ≤ 57
  | 0, n => by simp [rdig, digs]
  | f + 1, n => by
    rw [rdig_succ]
    intro c hc
    rcases List.mem_append.1 hc with h | h
    · split at h
      · cases h
      · exact rdig_dig f _ c h
    · obtain rfl := List.mem_singleton.1 h
      rw [digit_toNat]; omega
/-- no nought stands ahead, but in '0'. -/
def Plain (l : List UInt8) : Prop := ∃ h : l ≠ [], ((l.head h).toNat = 48 → l = [48]) ∧ ∀ c ∈ l, 48 ≤ c.toNat ∧ c.toNat ≤ 57
theorem rdig_head : ∀ f n, n < 10 ^ (f + 1) → ∃ h : rdig (f + 1) n ≠ [], (n ≠ 0 → (rdig (f + 1) n).head h ≠ 48)
  | 0, n, h => by
    have e : n / 10 = 0 := by omega
    refine ⟨by rw [rdig_succ]; simp, fun hn => ?_⟩
    simp only [rdig_succ, if_pos e, List.nil_append, List.head_cons]
    intro e2
    have := congrArg UInt8.toNat e2
    rw [digit_toNat] at this
    simp at this; omega
  | f + 1, n, h => by
    refine ⟨by rw [rdig_succ]; simp, fun hn => ?_⟩
    by_cases e : n / 10 = 0
    · simp only [rdig_succ, if_pos e, List.nil_append, List.head_cons]
      intro e2
      have := congrArg UInt8.toNat e2
      rw [digit_toNat] at this
      simp at this; omega
    · obtain ⟨h1, h2⟩ := rdig_head f (n / 10) (by rw [Nat.pow_succ] at h; omega)
      have e3 : rdig (f + 1 + 1) n = rdig (f + 1) (n / 10) ++ [UInt8.ofNat (48 + n % 10)] := by rw [rdig_succ (f + 1) n, if_neg e]
      simp only [e3]
      rw [List.head_append_of_ne_nil h1]
      exact h2 e
theorem rdig_zero (f : Nat) : rdig (f + 1) 0 = [48] := by rw [rdig_succ]; simp
theorem rdig_plain (f n : Nat) (h : n < 10 ^ (f + 1)) : Plain (rdig (f + 1) n) := by
  obtain ⟨h1, h2⟩ := rdig_head f n h
  refine ⟨h1, fun h3 => ?_, rdig_dig _ _⟩
  by_cases e : n = 0
  · rw [e, rdig_zero]
  · exact absurd (UInt8.toNat_inj.1 (by rw [h3]; rfl)) (h2 e)
theorem numOf_pos {l : List UInt8} (hl : l ≠ []) (h : 48 < (l.head hl).toNat) : 0 < numOf l := by
  cases l with
  | nil => exact absurd rfl hl
  | cons c l =>
    simp only [List.head_cons] at h
    have := numOf_from l (0 * 10 + (c.toNat - 48))
    show 0 < List.foldl _ (0 * 10 + (c.toNat - 48)) l
    omega
theorem plain_rdig : ∀ (f : Nat) (l : List UInt8), Plain l → numOf l < 10 ^ (f + 1) → rdig (f + 1) (numOf l) = l := by
  intro f
  induction f with
  | zero =>
    intro l ⟨hl, h0, hd⟩ hn
    obtain ⟨l', c, rfl⟩ : ∃ l' c, l = l' ++ [c] := ⟨l.dropLast, l.getLast hl, (List.dropLast_concat_getLast hl).symm⟩
    have hc := hd c (by simp)
    rw [numOf_snoc] at hn ⊢
    have h1 : numOf l' = 0 := by omega
    have h2 : l' = [] := by
      false_or_by_contra
      rename_i hne
      have e : (l' ++ [c]).head hl = l'.head hne := List.head_append_of_ne_nil hne
      rw [e] at h0
      have hh := hd (l'.head hne) (by simp [List.head_mem])
      by_cases q : (l'.head hne).toNat = 48
      · have := congrArg List.length (h0 q)
        simp at this
        exact hne this
      · have := numOf_pos hne (by omega)
        omega
    subst h2
    rw [h1, rdig_succ, if_pos (by omega)]
    simp only [List.nil_append]
    congr 1
    apply UInt8.toNat_inj.1
    rw [digit_toNat]; omega
  | succ f ih =>
    intro l ⟨hl, h0, hd⟩ hn
    obtain ⟨l', c, rfl⟩ : ∃ l' c, l = l' ++ [c] := ⟨l.dropLast, l.getLast hl, (List.dropLast_concat_getLast hl).symm⟩
    have hc := hd c (by simp)
    rw [numOf_snoc] at hn ⊢
    have ec : UInt8.ofNat (48 + (numOf l' * 10 + (c.toNat - 48)) % 10) = c := by
      apply UInt8.toNat_inj.1
      rw [digit_toNat]; omega
    have ed : (numOf l' * 10 + (c.toNat - 48)) / 10 = numOf l' := by omega
    rw [rdig_succ, ec, ed]
    by_cases hne : l' = []
    · subst hne; simp [numOf]
    · have e : (l' ++ [c]).head hl = l'.head hne := List.head_append_of_ne_nil hne
      rw [e] at h0
      have hh := hd (l'.head hne) (by simp [List.head_mem])
      have q : (l'.head hne).toNat ≠ 48 := fun q => by
        have := congrArg List.length (h0 q)
        simp at this
        exact hne this
      have hpos := numOf_pos hne (by omega)
      rw [if_neg (by omega), ih l' ⟨hne, fun h => absurd h q, fun x hx => hd x (by simp [hx])⟩ (by rw [Nat.pow_succ] at hn; omega)]

theorem good_plain {s : ByteArray} : GoodS s ↔ Plain s.data.toList := by
  have hget : ∀ i (h : i < s.size), s[i] = s.data.toList[i]'(by simpa using h) := fun i h => rfl
  constructor
  · rintro ⟨h, h0, hd⟩
    have hne : s.data.toList ≠ [] := by intro e; have := congrArg List.length e; simp at this; have e2 : s.size = 0 := by rw [this]; rfl
                                        omega
    refine ⟨hne, fun h1 => ?_, fun c hc => ?_⟩
    · rw [← ByteArray.toList_eq]
      refine h0 ?_
      rw [hget, ← List.head_eq_getElem hne]
      exact h1
    · obtain ⟨i, hi, rfl⟩ := List.getElem_of_mem hc
      exact hd i (by simpa using hi)
  · rintro ⟨hne, h0, hd⟩
    have h : 0 < s.size := by have := List.length_pos_iff.2 hne; simpa using this
    refine ⟨h, fun h1 => ?_, fun i hi => ?_⟩
    · rw [ByteArray.toList_eq]
      refine h0 ?_
      rw [hget, ← List.head_eq_getElem hne] at h1
      exact h1
    · rw [hget]; exact hd _ (List.getElem_mem _)

/-- a number's text, as a string. -/
def textOf (n : Nat) : ByteArray := strOf ((digs 39 n).map (48 + ·)).reverse
theorem textOf_data (n : Nat) : (textOf n).data.toList = rdig 39 n := strOf_data _
theorem textOf_good (n : Nat) (h : n < 10 ^ 39) : GoodS (textOf n) ∧ numOf (textOf n).data.toList = n := by
  refine ⟨good_plain.2 ?_, ?_⟩
  · rw [textOf_data]; exact rdig_plain 38 n h
  · rw [textOf_data]; exact numOf_rdig 38 n h
theorem good_textOf {s : ByteArray} (h : GoodS s) (hn : numOf s.data.toList < 10 ^ 39) : textOf (numOf s.data.toList) = s := by
  have := plain_rdig 38 _ (good_plain.1 h) hn
  apply Go.WideShapes.bytes_inj
  rw [textOf_data]; exact this
theorem MM_39 {n : Nat} (h : (n : Int) < M * M) : n < 10 ^ 39 := by rw [M_eq] at h; omega
theorem text_of (a b : Int) (n : Nat) (w : World) (ha : U64 a) (hb : U64 b) (hn : W128 a b = n) : Calls Tryd.prog 25 #[.agg #[(.int .u64 (a)), (.int .u64 (b))]] w fun e w' => e = .returned (.string (textOf n)) ∧ Below w.heap.size w w' :=
  text_any a b n _ w ha hb ⟨hn, MM_39 (by rw [← hn]; exact (W128.lt ha hb).2), rfl⟩
end Go.Proofs.YtdpcfpmlkhdmkaaDoor
