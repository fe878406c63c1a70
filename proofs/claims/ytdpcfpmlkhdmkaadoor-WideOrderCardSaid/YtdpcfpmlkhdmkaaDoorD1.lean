/- digits to the base 2^16: plain laws, no program in sight. -/
import Derived.Test.YtdpcfpmlkhdmkaaDoorW1
namespace Go.Proofs.YtdpcfpmlkhdmkaaDoor
open Go.RowKit

def numD : List Int → Int
  | [] => 0
  | d :: l => d + 65536 * numD l
def Digs (l : List Int) : Prop := ∀ d ∈ l, 0 ≤ d ∧ d < 65536
def Trim (l : List Int) : Prop := ∀ h : l ≠ [], l.getLast h ≠ 0
def P16 (k : Nat) : Int := 65536 ^ k
theorem P16_zero : P16 0 = 1 := rfl
theorem P16_succ (k : Nat) : P16 (k + 1) = 65536 * P16 k := by unfold P16; rw [Int.pow_succ]; omega
theorem P16_pos (k : Nat) : 0 < P16 k := Int.pow_pos (by omega)
theorem P16_le {j k : Nat} (h : j ≤ k) : P16 j ≤ P16 k := by
  induction k with
  | zero => obtain rfl : j = 0 := by omega
            exact Int.le_refl _
  | succ k ih =>
    by_cases e : j = k + 1
    · rw [e]; exact Int.le_refl _
    · have := ih (by omega); have := P16_pos k; rw [P16_succ]; omega
theorem P16_add (j k : Nat) : P16 (j + k) = P16 j * P16 k := by unfold P16; exact Int.pow_add _ _ _
theorem P16_8 : P16 8 = M * M := by unfold P16; rw [M_eq]; rfl
theorem P16_4 : P16 4 = M := by unfold P16; rw [M_eq]; rfl

theorem Digs.nil : Digs [] := fun _ h => by cases h
theorem Digs.cons {d : Int} {l : List Int} (h0 : 0 ≤ d) (h1 : d < 65536) (h : Digs l) : Digs (d :: l) := fun x hx => by
  rcases List.mem_cons.1 hx with rfl | hx
  · exact ⟨h0, h1⟩
  · exact h x hx
theorem Digs.tail {d : Int} {l : List Int} (h : Digs (d :: l)) : Digs l := fun x hx => h x (List.mem_cons_of_mem _ hx)
theorem Digs.snoc {d : Int} {l : List Int} (h : Digs l) (h0 : 0 ≤ d) (h1 : d < 65536) : Digs (l ++ [d]) := fun x hx => by
  rcases List.mem_append.1 hx with hx | hx
  · exact h x hx
  · obtain rfl := List.mem_singleton.1 hx
    exact ⟨h0, h1⟩
theorem Digs.take {l : List Int} (h : Digs l) (k : Nat) : Digs (l.take k) := fun x hx => h x (List.mem_of_mem_take hx)
theorem Digs.at {l : List Int} (h : Digs l) (k : Nat) : 0 ≤ l.getD k 0 ∧ l.getD k 0 < 65536 := by
  rw [List.getD_eq_getElem?_getD]
  cases hk : l[k]? with
  | none => simp
  | some x => exact h x (List.mem_of_getElem? hk)
theorem numD_append (l m : List Int) : numD (l ++ m) = numD l + P16 l.length * numD m := by
  induction l with
  | nil => simp [numD, P16]
  | cons d l ih =>
    simp only [List.cons_append, numD, ih, List.length_cons, P16_succ]
    grind
theorem numD_snoc (l : List Int) (d : Int) : numD (l ++ [d]) = numD l + P16 l.length * d := by rw [numD_append]; simp [numD]
theorem Digs.lt {l : List Int} (h : Digs l) : 0 ≤ numD l ∧ numD l < P16 l.length := by
  induction l with
  | nil => simp [numD, P16]
  | cons d l ih =>
    have := ih h.tail
    have := h d (List.mem_cons_self ..)
    simp only [numD, List.length_cons, P16_succ]
    omega
theorem Trim.nil : Trim [] := fun h => absurd rfl h
theorem Trim.tail {d : Int} {l : List Int} (h : Trim (d :: l)) : Trim l := fun hl => by
  have := h (by simp)
  rwa [List.getLast_cons hl] at this
theorem Trim.ge {l : List Int} (h : Digs l) (t : Trim l) (hl : l ≠ []) : P16 (l.length - 1) ≤ numD l := by
  induction l with
  | nil => exact absurd rfl hl
  | cons d l ih =>
    have hd := h d (List.mem_cons_self ..)
    by_cases e : l = []
    · subst e
      have := t (by simp)
      simp at this
      simp [numD, P16]
      omega
    · have q := ih h.tail t.tail e
      have : 0 < l.length := List.length_pos_iff.2 e
      have e2 : (d :: l).length - 1 = (l.length - 1) + 1 := by simp; omega
      rw [e2, P16_succ]
      simp only [numD]
      omega
theorem Trim.len {l : List Int} (h : Digs l) (t : Trim l) (k : Nat) : l.length ≤ k ↔ numD l < P16 k := by
  constructor
  · intro hk; have := h.lt; have := P16_le hk; omega
  · intro hk
    by_cases e : l = []
    · simp [e]
    · have := t.ge h e
      false_or_by_contra
      have := P16_le (show k ≤ l.length - 1 by omega)
      omega
theorem Trim.zero {l : List Int} (h : Digs l) (t : Trim l) (e : numD l = 0) : l = [] := by
  have := (t.len h 0).2 (by rw [e]; simp [P16])
  exact List.length_eq_zero_iff.1 (by omega)
theorem numD_uniq : ∀ {l m : List Int}, Digs l → Digs m → Trim l → Trim m → numD l = numD m → l = m
  | [], m, _, hm, _, tm, e => ((Trim.zero hm tm e.symm)).symm
  | d :: l, [], hl, _, tl, _, e => Trim.zero hl tl e
  | d :: l, c :: m, hl, hm, tl, tm, e => by
    have h1 := hl d (List.mem_cons_self ..)
    have h2 := hm c (List.mem_cons_self ..)
    simp only [numD] at e
    have e1 : d = c := by omega
    have e2 : numD l = numD m := by omega
    rw [e1, numD_uniq hl.tail hm.tail tl.tail tm.tail e2]
theorem getD_in (l : List Int) (k : Nat) (h : k < l.length) : l.getD k 0 = l[k] := by simp [h]
theorem getD_out (l : List Int) (k : Nat) (h : l.length ≤ k) : l.getD k 0 = 0 := by simp [h]
theorem numD_take_succ (l : List Int) (k : Nat) : numD (l.take (k + 1)) = numD (l.take k) + P16 k * l.getD k 0 := by
  by_cases h : k < l.length
  · rw [List.take_succ_eq_append_getElem h, numD_snoc, getD_in l k h]
    simp [Nat.min_eq_left (Nat.le_of_lt h)]
  · have h' : l.length ≤ k := by omega
    rw [getD_out l k h', List.take_of_length_le (by omega), List.take_of_length_le h']
    simp
theorem numD_dropLast0 (l : List Int) (h : l ≠ []) (e : l.getLast h = 0) : numD (l.take (l.length - 1)) = numD l := by
  have hl : 0 < l.length := List.length_pos_iff.2 h
  have := numD_take_succ l (l.length - 1)
  have e1 : l.length - 1 + 1 = l.length := by omega
  rw [e1, List.take_of_length_le (Nat.le_refl _), getD_in l _ (by omega)] at this
  rw [List.getLast_eq_getElem] at e
  rw [e] at this
  omega
theorem numD_nil : numD [] = 0 := rfl
theorem numD_zero_cons (l : List Int) : numD (0 :: l) = 65536 * numD l := by simp [numD]
end Go.Proofs.YtdpcfpmlkhdmkaaDoor
