/- rows of pairs in order, as lists alone: two rows that rise and have the same pairs are the same; unions, what is merged, what is said. -/
import Derived.Test.YtlkdkhmdmgchbaaF11
namespace Go.Proofs.Ytlkdkhmdmgchbaa
set_option linter.unusedSimpArgs false
set_option linter.unusedVariables false
open Go.RowKit

theorem rises_cons {x : Pr} {a : List Pr} : Rises (x :: a) ↔ (∀ y ∈ a, lt x y) ∧ Rises a := by unfold Rises; exact List.pairwise_cons
theorem Rises.nil : Rises [] := List.Pairwise.nil
theorem rises_ext : ∀ {a b : List Pr}, Rises a → Rises b → (∀ p, p ∈ a ↔ p ∈ b) → a = b
  | [], [], _, _, _ => rfl
  | [], y :: b, _, _, h => by have := (h y).2 (by simp); simp at this
  | x :: a, [], _, _, h => by have := (h x).1 (by simp); simp at this
  | x :: a, y :: b, ha, hb, h => by
    obtain ⟨ha1, ha2⟩ := rises_cons.1 ha
    obtain ⟨hb1, hb2⟩ := rises_cons.1 hb
    have e : x = y := by
      have h1 := (h x).1 (by simp)
      have h2 := (h y).2 (by simp)
      simp only [List.mem_cons] at h1 h2
      rcases h1 with h1 | h1
      · exact h1
      · rcases h2 with h2 | h2
        · exact h2.symm
        · exact absurd (ha1 y h2) (lt_asymm (hb1 x h1))
    subst e
    rw [rises_ext ha2 hb2 fun p => ?_]
    have hp := h p
    simp only [List.mem_cons] at hp
    constructor
    · intro hm
      rcases hp.1 (.inr hm) with e | e
      · subst e; exact absurd (ha1 _ hm) (lt_irrefl _)
      · exact e
    · intro hm
      rcases hp.2 (.inr hm) with e | e
      · subst e; exact absurd (hb1 _ hm) (lt_irrefl _)
      · exact e
theorem Rises.sub {a b : List Pr} (h : Rises b) (s : List.Sublist a b) : Rises a := List.Pairwise.sublist s h

theorem withL_mem (l : List Pr) (p q : Pr) : q ∈ withL l p ↔ q ∈ l ∨ q = p := by
  unfold withL
  simp only [List.mem_append, List.mem_filter, List.mem_singleton, decide_eq_true_eq]
  constructor
  · rintro ((h | h) | h)
    · exact .inl h.1
    · exact .inr h
    · exact .inl h.1
  · rintro (h | h)
    · rcases lt_total q p with k | k | k
      · exact .inl (.inl ⟨h, k⟩)
      · exact .inl (.inr k)
      · exact .inr ⟨h, k⟩
    · exact .inl (.inr h)
theorem withL_rises {l : List Pr} (h : Rises l) (p : Pr) : Rises (withL l p) := by
  unfold withL Rises
  rw [List.pairwise_append, List.pairwise_append]
  refine ⟨⟨List.Pairwise.filter _ h, List.pairwise_singleton _ _, ?_⟩, List.Pairwise.filter _ h, ?_⟩
  · intro a ha b hb
    simp at ha hb; subst hb; exact ha.2
  · intro a ha b hb
    simp at ha hb
    rcases ha with ha | rfl
    · exact lt_trans ha.2 hb.2
    · exact hb.2
theorem fold_mem (l : List Pr) : ∀ (s : List Pr) (q : Pr), q ∈ l.foldl withL s ↔ q ∈ s ∨ q ∈ l := by
  induction l with
  | nil => intro s q; simp
  | cons x l ih => intro s q; rw [List.foldl_cons, ih, withL_mem, List.mem_cons, or_assoc]
theorem fold_rises (l : List Pr) : ∀ {s : List Pr}, Rises s → Rises (l.foldl withL s) := by
  induction l with
  | nil => intro s h; exact h
  | cons x l ih => intro s h; exact ih (withL_rises h x)
theorem ofL_mem (l : List Pr) (q : Pr) : q ∈ ofL l ↔ q ∈ l := by unfold ofL; rw [fold_mem]; simp
theorem ofL_rises (l : List Pr) : Rises (ofL l) := fold_rises l Rises.nil
theorem unionL_mem (a b : List Pr) (q : Pr) : q ∈ unionL a b ↔ q ∈ a ∨ q ∈ b := by unfold unionL; rw [fold_mem, ofL_mem]
theorem unionL_rises (a b : List Pr) : Rises (unionL a b) := fold_rises b (ofL_rises a)
theorem pairsL_mem (t u : Tr) (q : Pr) : q ∈ pairsL t u ↔ (q ∈ t.1 ∨ q ∈ t.2) ∨ q ∈ u.1 ∨ q ∈ u.2 := by unfold pairsL; rw [unionL_mem, unionL_mem, unionL_mem]
theorem pairsL_rises (t u : Tr) : Rises (pairsL t u) := unionL_rises _ _

/-- two rows in order, as one, each once: as the program does it. -/
def uniF : Nat → List Pr → List Pr → List Pr
  | 0, _, _ => []
  | _ + 1, [], b => b
  | f + 1, x :: a, [] => x :: uniF f a []
  | f + 1, x :: a, y :: b => if lt x y then x :: uniF f a (y :: b) else if lt y x then y :: uniF f (x :: a) b else uniF f a (y :: b)
theorem uniF_mem : ∀ (f : Nat) (a b : List Pr), a.length + b.length < f → ∀ q, q ∈ uniF f a b ↔ q ∈ a ∨ q ∈ b
  | 0, a, b, h, q => by omega
  | f + 1, [], b, h, q => by simp [uniF]
  | f + 1, x :: a, [], h, q => by
    simp only [uniF, List.mem_cons]
    rw [uniF_mem f a [] (by simp at h ⊢; omega)]
    simp
  | f + 1, x :: a, y :: b, h, q => by
    simp only [List.length_cons] at h
    unfold uniF
    by_cases h1 : lt x y
    · rw [if_pos h1, List.mem_cons, uniF_mem f a (y :: b) (by simp; omega)]
      simp only [List.mem_cons]
      constructor
      · rintro (h | h | h) <;> simp_all
      · rintro ((h | h) | h) <;> simp_all
    · rw [if_neg h1]
      by_cases h2 : lt y x
      · rw [if_pos h2, List.mem_cons, uniF_mem f (x :: a) b (by simp; omega)]
        simp only [List.mem_cons]
        constructor
        · rintro (h | (h | h) | h) <;> simp_all
        · rintro ((h | h) | h | h) <;> simp_all
      · rw [if_neg h2, uniF_mem f a (y :: b) (by simp; omega)]
        have e : x = y := by rcases lt_total x y with k | k | k; exact absurd k h1; exact k; exact absurd k h2
        subst e
        simp only [List.mem_cons]
        constructor
        · rintro (h | h | h) <;> simp_all
        · rintro ((h | h) | h | h) <;> simp_all
theorem uniF_rises : ∀ (f : Nat) (a b : List Pr), a.length + b.length < f → Rises a → Rises b → Rises (uniF f a b)
  | 0, a, b, h, _, _ => by omega
  | f + 1, [], b, h, _, hb => by simpa [uniF] using hb
  | f + 1, x :: a, [], h, ha, hb => by
    simp only [uniF]
    have hl : a.length + ([] : List Pr).length < f := by simp at h ⊢; omega
    obtain ⟨h1, h2⟩ := rises_cons.1 ha
    refine rises_cons.2 ⟨fun q hq => ?_, uniF_rises f a [] hl h2 hb⟩
    rw [uniF_mem f a [] hl] at hq
    rcases hq with hq | hq
    · exact h1 _ hq
    · simp at hq
  | f + 1, x :: a, y :: b, h, ha, hb => by
    simp only [List.length_cons] at h
    obtain ⟨ha1, ha2⟩ := rises_cons.1 ha
    obtain ⟨hb1, hb2⟩ := rises_cons.1 hb
    unfold uniF
    by_cases h1 : lt x y
    · rw [if_pos h1]
      have hl : a.length + (y :: b).length < f := by simp; omega
      refine rises_cons.2 ⟨fun q hq => ?_, uniF_rises f a (y :: b) hl ha2 hb⟩
      rw [uniF_mem f a (y :: b) hl] at hq
      rcases hq with hq | hq
      · exact ha1 _ hq
      · simp only [List.mem_cons] at hq
        rcases hq with rfl | hq
        · exact h1
        · exact lt_trans h1 (hb1 _ hq)
    · rw [if_neg h1]
      by_cases h2 : lt y x
      · rw [if_pos h2]
        have hl : (x :: a).length + b.length < f := by simp; omega
        refine rises_cons.2 ⟨fun q hq => ?_, uniF_rises f (x :: a) b hl ha hb2⟩
        rw [uniF_mem f (x :: a) b hl] at hq
        rcases hq with hq | hq
        · simp only [List.mem_cons] at hq
          rcases hq with rfl | hq
          · exact h2
          · exact lt_trans h2 (ha1 _ hq)
        · exact hb1 _ hq
      · rw [if_neg h2]
        exact uniF_rises f a (y :: b) (by simp; omega) ha2 hb
/-- of two rows, as one. -/
def uniL (a b : List Pr) : List Pr := uniF (a.length + b.length + 1) a b
theorem uniL_mem (a b : List Pr) (q : Pr) : q ∈ uniL a b ↔ q ∈ a ∨ q ∈ b := uniF_mem _ _ _ (by omega) q
theorem uniL_rises {a b : List Pr} (ha : Rises a) (hb : Rises b) : Rises (uniL a b) := uniF_rises _ _ _ (by omega) ha hb
/-- of four rows. -/
def allL (a b c d : List Pr) : List Pr := uniL (uniL (uniL (uniL [] a) b) c) d
theorem allL_is {a b c d : List Pr} (ha : Rises a) (hb : Rises b) (hc : Rises c) (hd : Rises d) : allL a b c d = pairsL (a, b) (c, d) := by
  refine rises_ext (uniL_rises (uniL_rises (uniL_rises (uniL_rises Rises.nil ha) hb) hc) hd) (pairsL_rises _ _) fun q => ?_
  unfold allL
  rw [uniL_mem, uniL_mem, uniL_mem, uniL_mem, pairsL_mem]
  simp [or_assoc]
theorem uniF_len : ∀ (f : Nat) (a b : List Pr), (uniF f a b).length ≤ a.length + b.length
  | 0, a, b => by simp [uniF]
  | f + 1, [], b => by simp [uniF]
  | f + 1, x :: a, [] => by
    have := uniF_len f a []
    simp [uniF] at this ⊢; omega
  | f + 1, x :: a, y :: b => by
    have h1 := uniF_len f a (y :: b)
    have h2 := uniF_len f (x :: a) b
    unfold uniF
    simp only [List.length_cons] at h1 h2 ⊢
    split
    · simp; omega
    · split
      · simp; omega
      · omega
theorem uniL_len (a b : List Pr) : (uniL a b).length ≤ a.length + b.length := uniF_len _ _ _

/-- what is told of two runs: a pair, and which of them has it. -/
abbrev Told := Pr × Bool × Bool
def mgF : Nat → List Pr → List Pr → List Told
  | 0, _, _ => []
  | _ + 1, [], [] => []
  | f + 1, x :: a, [] => (x, true, false) :: mgF f a []
  | f + 1, [], y :: b => (y, false, true) :: mgF f [] b
  | f + 1, x :: a, y :: b => if lt x y then (x, true, false) :: mgF f a (y :: b) else if lt y x then (y, false, true) :: mgF f (x :: a) b else (x, true, true) :: mgF f a b
def mergedL (a b : List Pr) : List Told := mgF (a.length + b.length + 1) a b
theorem mgF_more : ∀ (f g : Nat) (a b : List Pr), a.length + b.length < f → a.length + b.length < g → mgF f a b = mgF g a b
  | 0, g, a, b, h, k => by omega
  | f, 0, a, b, h, k => by omega
  | f + 1, g + 1, [], [], h, k => rfl
  | f + 1, g + 1, x :: a, [], h, k => by
    simp only [mgF]
    rw [mgF_more f g a [] (by simp at h ⊢; omega) (by simp at k ⊢; omega)]
  | f + 1, g + 1, [], y :: b, h, k => by
    simp only [mgF]
    rw [mgF_more f g [] b (by simp at h ⊢; omega) (by simp at k ⊢; omega)]
  | f + 1, g + 1, x :: a, y :: b, h, k => by
    simp only [List.length_cons] at h k
    simp only [mgF]
    rw [mgF_more f g a (y :: b) (by simp; omega) (by simp; omega), mgF_more f g (x :: a) b (by simp; omega) (by simp; omega), mgF_more f g a b (by omega) (by omega)]
theorem mergedL_nil : mergedL [] [] = [] := rfl
theorem mergedL_left (x : Pr) (a : List Pr) : mergedL (x :: a) [] = (x, true, false) :: mergedL a [] := rfl
theorem mergedL_right (y : Pr) (b : List Pr) : mergedL [] (y :: b) = (y, false, true) :: mergedL [] b := by
  show mgF _ _ _ = _
  simp only [List.length_cons, List.length_nil, mgF]
  rfl
theorem mergedL_both (x y : Pr) (a b : List Pr) : mergedL (x :: a) (y :: b) = if lt x y then (x, true, false) :: mergedL a (y :: b) else if lt y x then (y, false, true) :: mergedL (x :: a) b else (x, true, true) :: mergedL a b := by
  unfold mergedL
  simp only [List.length_cons]
  rw [show a.length + 1 + (b.length + 1) + 1 = (a.length + 1 + b.length + 1) + 1 by omega]
  simp only [mgF]
  rw [mgF_more (a.length + 1 + b.length + 1) (a.length + (b.length + 1) + 1) a (y :: b) (by simp; omega) (by simp),
    mgF_more (a.length + 1 + b.length + 1) (a.length + b.length + 1) a b (by omega) (by omega)]
/-- in order, of those that one of both has; whose they are is told. -/
theorem mgF_is : ∀ (f : Nat) (a b : List Pr), a.length + b.length < f → Rises a → Rises b →
    Rises ((mgF f a b).map (·.1)) ∧ (∀ p, p ∈ (mgF f a b).map (·.1) ↔ p ∈ a ∨ p ∈ b) ∧ ∀ q ∈ mgF f a b, q.2.1 = decide (q.1 ∈ a) ∧ q.2.2 = decide (q.1 ∈ b)
  | 0, a, b, h, _, _ => by omega
  | f + 1, [], [], h, _, _ => by simp [mgF, Rises.nil]
  | f + 1, x :: a, [], h, ha, hb => by
    obtain ⟨h1, h2⟩ := rises_cons.1 ha
    obtain ⟨i1, i2, i3⟩ := mgF_is f a [] (by simp at h ⊢; omega) h2 hb
    simp only [mgF, List.map_cons]
    refine ⟨rises_cons.2 ⟨fun q hq => ?_, i1⟩, fun p => ?_, fun q hq => ?_⟩
    · rcases (i2 q).1 hq with k | k
      · exact h1 _ k
      · simp at k
    · rw [List.mem_cons, i2]; simp
    · rw [List.mem_cons] at hq
      rcases hq with rfl | hq
      · simp
      · have hm := (i2 q.1).1 (List.mem_map_of_mem hq)
        obtain ⟨j1, j2⟩ := i3 q hq
        rw [j1, j2]
        simp at hm ⊢
        exact fun _ => hm
  | f + 1, [], y :: b, h, ha, hb => by
    obtain ⟨h1, h2⟩ := rises_cons.1 hb
    obtain ⟨i1, i2, i3⟩ := mgF_is f [] b (by simp at h ⊢; omega) ha h2
    simp only [mgF, List.map_cons]
    refine ⟨rises_cons.2 ⟨fun q hq => ?_, i1⟩, fun p => ?_, fun q hq => ?_⟩
    · rcases (i2 q).1 hq with k | k
      · simp at k
      · exact h1 _ k
    · rw [List.mem_cons, i2]; simp
    · rw [List.mem_cons] at hq
      rcases hq with rfl | hq
      · simp
      · have hm := (i2 q.1).1 (List.mem_map_of_mem hq)
        obtain ⟨j1, j2⟩ := i3 q hq
        rw [j1, j2]
        simp at hm ⊢
        exact fun _ => hm
  | f + 1, x :: a, y :: b, h, ha, hb => by
    simp only [List.length_cons] at h
    obtain ⟨ha1, ha2⟩ := rises_cons.1 ha
    obtain ⟨hb1, hb2⟩ := rises_cons.1 hb
    simp only [mgF]
    by_cases c1 : lt x y
    · rw [if_pos c1]
      obtain ⟨i1, i2, i3⟩ := mgF_is f a (y :: b) (by simp; omega) ha2 hb
      have gt : ∀ q, q ∈ a ∨ q ∈ y :: b → lt x q := by
        rintro q (k | k)
        · exact ha1 _ k
        · rw [List.mem_cons] at k
          rcases k with rfl | k
          · exact c1
          · exact lt_trans c1 (hb1 _ k)
      refine ⟨rises_cons.2 ⟨fun q hq => gt q ((i2 q).1 hq), i1⟩, fun p => ?_, fun q hq => ?_⟩
      · rw [List.map_cons, List.mem_cons, i2, List.mem_cons (a := p) (b := x), or_assoc]
      · rw [List.mem_cons] at hq
        rcases hq with rfl | hq
        · have : x ∉ y :: b := fun k => lt_irrefl _ (gt x (.inr k))
          simp only [List.mem_cons, true_or, decide_true, true_and]
          simp only [List.mem_cons] at this
          simp [this]
        · have hm := gt q.1 ((i2 q.1).1 (List.mem_map_of_mem hq))
          obtain ⟨j1, j2⟩ := i3 q hq
          have hne : q.1 ≠ x := fun e => lt_irrefl x (by rw [e] at hm; exact hm)
          rw [j1, j2]
          simp [hne]
    · rw [if_neg c1]
      by_cases c2 : lt y x
      · rw [if_pos c2]
        obtain ⟨i1, i2, i3⟩ := mgF_is f (x :: a) b (by simp; omega) ha hb2
        have gt : ∀ q, q ∈ x :: a ∨ q ∈ b → lt y q := by
          rintro q (k | k)
          · rw [List.mem_cons] at k
            rcases k with rfl | k
            · exact c2
            · exact lt_trans c2 (ha1 _ k)
          · exact hb1 _ k
        refine ⟨rises_cons.2 ⟨fun q hq => gt q ((i2 q).1 hq), i1⟩, fun p => ?_, fun q hq => ?_⟩
        · rw [List.map_cons, List.mem_cons, i2, List.mem_cons (a := p) (b := y)]
          constructor
          · rintro (k | k | k) <;> simp_all
          · rintro (k | k | k) <;> simp_all
        · rw [List.mem_cons] at hq
          rcases hq with rfl | hq
          · have : y ∉ x :: a := fun k => lt_irrefl _ (gt y (.inl k))
            simp only [List.mem_cons] at this
            simp [this]
          · have hm := gt q.1 ((i2 q.1).1 (List.mem_map_of_mem hq))
            obtain ⟨j1, j2⟩ := i3 q hq
            have hne : q.1 ≠ y := fun e => lt_irrefl y (by rw [e] at hm; exact hm)
            rw [j1, j2]
            simp [hne]
      · rw [if_neg c2]
        have e : x = y := by rcases lt_total x y with k | k | k; exact absurd k c1; exact k; exact absurd k c2
        subst e
        obtain ⟨i1, i2, i3⟩ := mgF_is f a b (by omega) ha2 hb2
        have gt : ∀ q, q ∈ a ∨ q ∈ b → lt x q := by
          rintro q (k | k)
          · exact ha1 _ k
          · exact hb1 _ k
        refine ⟨rises_cons.2 ⟨fun q hq => gt q ((i2 q).1 hq), i1⟩, fun p => ?_, fun q hq => ?_⟩
        · rw [List.map_cons, List.mem_cons, i2, List.mem_cons (a := p) (b := x), List.mem_cons (a := p) (b := x)]
          constructor
          · rintro (k | k | k) <;> simp_all
          · rintro ((k | k) | k | k) <;> simp_all
        · rw [List.mem_cons] at hq
          rcases hq with rfl | hq
          · simp
          · have hm := gt q.1 ((i2 q.1).1 (List.mem_map_of_mem hq))
            obtain ⟨j1, j2⟩ := i3 q hq
            have hne : q.1 ≠ x := fun e => lt_irrefl x (by rw [e] at hm; exact hm)
            rw [j1, j2]
            simp [hne]
/-- the pairs of two runs of which something holds. -/
def keptH (h : Bool → Bool → Bool) (a b : List Pr) : List Pr := ((mergedL a b).filter (fun q => h q.2.1 q.2.2)).map (·.1)
theorem keptH_mem (h : Bool → Bool → Bool) {a b : List Pr} (ha : Rises a) (hb : Rises b) (p : Pr) : p ∈ keptH h a b ↔ (p ∈ a ∨ p ∈ b) ∧ h (decide (p ∈ a)) (decide (p ∈ b)) = true := by
  obtain ⟨i1, i2, i3⟩ := mgF_is (a.length + b.length + 1) a b (by omega) ha hb
  unfold keptH mergedL
  rw [← i2]
  simp only [List.mem_map, List.mem_filter]
  constructor
  · rintro ⟨q, ⟨k1, k2⟩, rfl⟩
    obtain ⟨j1, j2⟩ := i3 q k1
    rw [j1, j2] at k2
    exact ⟨⟨q, k1, rfl⟩, k2⟩
  · rintro ⟨⟨q, k1, rfl⟩, k2⟩
    obtain ⟨j1, j2⟩ := i3 q k1
    rw [← j1, ← j2] at k2
    exact ⟨q, ⟨k1, k2⟩, rfl⟩
theorem keptH_rises (h : Bool → Bool → Bool) {a b : List Pr} (ha : Rises a) (hb : Rises b) : Rises (keptH h a b) := by
  obtain ⟨i1, _, _⟩ := mgF_is (a.length + b.length + 1) a b (by omega) ha hb
  exact i1.sub (List.Sublist.map _ List.filter_sublist)
theorem mgF_len : ∀ (f : Nat) (a b : List Pr), (mgF f a b).length ≤ a.length + b.length
  | 0, a, b => by simp [mgF]
  | f + 1, [], [] => by simp [mgF]
  | f + 1, x :: a, [] => by
    have := mgF_len f a []
    simp [mgF] at this ⊢; omega
  | f + 1, [], y :: b => by
    have := mgF_len f [] b
    simp [mgF] at this ⊢; omega
  | f + 1, x :: a, y :: b => by
    have h1 := mgF_len f a (y :: b)
    have h2 := mgF_len f (x :: a) b
    have h3 := mgF_len f a b
    unfold mgF
    simp only [List.length_cons] at h1 h2 ⊢
    split
    · simp; omega
    · split <;> (simp; omega)
theorem keptH_len (h : Bool → Bool → Bool) (a b : List Pr) : (keptH h a b).length ≤ a.length + b.length := by
  have := mgF_len (a.length + b.length + 1) a b
  have := List.length_filter_le (fun q : Told => h q.2.1 q.2.2) (mergedL a b)
  unfold keptH mergedL at *
  rw [List.length_map]
  omega
theorem keptH_both {a b : List Pr} (ha : Rises a) (hb : Rises b) : ((keptH (fun x y => x && y) a b).length = 0) = ((keptL a b true).length = 0) := by
  rw [List.length_eq_zero_iff, List.length_eq_zero_iff, List.eq_nil_iff_forall_not_mem, List.eq_nil_iff_forall_not_mem]
  refine propext (forall_congr' fun p => ?_)
  rw [keptH_mem _ ha hb]
  unfold keptL
  simp only [List.mem_filter]
  by_cases h1 : p ∈ a <;> by_cases h2 : p ∈ b <;> simp [h1, h2]

/-- the program's own words for what a merge says of a pair. -/
def addsL (t u : Tr) (p : Pr) : Bool := decide (p ∈ u.1) || (decide (p ∈ t.1) && !decide (p ∈ u.2))
theorem keptL_none {a b : List Pr} (h : (keptL a b true).length = 0) {p : Pr} (hp : p ∈ a) : p ∉ b := by
  intro hb
  have h' := List.length_eq_zero_iff.1 h
  have : p ∈ keptL a b true := by unfold keptL; simp [List.mem_filter, hp, hb]
  rw [h'] at this
  simp at this
theorem oneL_apart {t : Tr} (h : oneL t = true) {p : Pr} (hp : p ∈ t.1) : p ∉ t.2 := by
  unfold oneL at h
  simp only [Bool.and_eq_true, decide_eq_true_eq] at h
  exact keptL_none h.2 hp
theorem addsL_is {t u : Tr} (ht : oneL t = true) (hu : oneL u = true) (p : Pr) : addsL t u p = decide (saysL [t, u] p = 1) := by
  have h1 := fun h => oneL_apart ht (p := p) h
  have h2 := fun h => oneL_apart hu (p := p) h
  unfold addsL saysL
  simp only [List.foldl_cons, List.foldl_nil]
  by_cases a1 : p ∈ t.1 <;> by_cases a2 : p ∈ t.2 <;> by_cases a3 : p ∈ u.1 <;> by_cases a4 : p ∈ u.2 <;> simp_all
theorem oneL_rises {t : Tr} (h : oneL t = true) : Rises t.1 ∧ Rises t.2 := by
  unfold oneL rightL at h
  simp only [Bool.and_eq_true, decide_eq_true_eq] at h
  exact ⟨h.1.1.1, h.1.2.1⟩
theorem oneL_pairs {t u : Tr} (ht : oneL t = true) (hu : oneL u = true) : allL t.1 t.2 u.1 u.2 = pairsL t u := allL_is (oneL_rises ht).1 (oneL_rises ht).2 (oneL_rises hu).1 (oneL_rises hu).2
end Go.Proofs.Ytlkdkhmdmgchbaa
