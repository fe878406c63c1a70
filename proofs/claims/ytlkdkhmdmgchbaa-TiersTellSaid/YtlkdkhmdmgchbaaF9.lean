/- the document's merges: Out. -/
import Derived.Test.YtlkdkhmdmgchbaaF8
import Derived.Maps.AppendAt
namespace Go.Proofs.Ytlkdkhmdmgchbaa
set_option linter.unusedSimpArgs false
set_option linter.unusedVariables false
open Go.RowKit

theorem POwn.keepK {K : Nat → Prop} {B : Nat} {w w' : World} {v : Value} {l : List Pr} (h : POwn B w v l) (hk : Keeps K w w') (hK : ∀ k, v.ownBlock = some k → K k) : POwn B w' v l := by
  refine ⟨h.1, ?_⟩
  rcases h.2 with h0 | ⟨g, cap, cur, e, hb, hg, rest⟩
  · exact .inl h0
  · exact .inr ⟨g, cap, cur, e, hb, (hk.block g (Array.getElem?_eq_some_iff.1 hg).1 (hK g (by rw [e]; rfl))).trans hg, rest⟩
/-- append one pair; what else is in memory stays, other rows of its own too. -/
theorem appK {ops : Array Oper} {rest : List Oper} {o : Oper} {a : Act} {Q : Exit → Act → World → Prop} (hgd : o.guard = none) (s x : Operand)
    (ho : o.op = .call { callee := .builtin .append, args := #[s, x], argTypes := #[22, 22] }) {w : World} (B : Nat) (v : Value) (l : List Pr) (c d : Int) (W : World)
    (hs : a.eval s = v) (hx : a.eval x = .slice (some ⟨W.heap.size, 0, none⟩) 1 1) (hw : w = W.alloc (.cells #[.int .u64 c, .int .u64 d] 52)) (own : POwn B W v l) (hB : B ≤ W.heap.size) (hlen : l.length ≤ 100000000)
    (h : ∀ v' w1, POwn B w1 v' (l ++ [(c, d)]) → Keeps (fun k => some k ≠ v.ownBlock) W w1 → (v'.ownBlock = v.ownBlock ∨ ∃ k, v'.ownBlock = some k ∧ W.heap.size ≤ k) → wpList Try.prog ops Q rest (a.put o.dst v') w1) : wpList Try.prog ops Q (o :: rest) a w := by
  obtain ⟨i, hi, hz0, hz1, hz2⟩ := infoP'
  subst hw
  refine wpList_append_own_at _ hgd s x 22 ho B 52 i (.agg #[.int .u64 0, .int .u64 0]) 2 16 Try.underlying22 hi hz0 hz1 hz2 rfl (by decide) v l.length _ hs (World.ownsRow.alloc own _) ⟨W.heap.size, 0, none⟩ 1 1 [.int .u64 c, .int .u64 d] hx rfl ?_ ?_ ?_ ?_ ?_ ?_
  · intro j u hj
    match j, hj with
    | 0, hj => simp at hj; subst hj; simp [Addr.add]
    | 1, hj => simp at hj; subst hj; simp [Addr.add]
    | j + 2, hj => simp at hj
  · intro u hu; simp at hu; rcases hu with rfl | rfl <;> rfl
  · unfold maxLen; omega
  · omega
  · simp; omega
  · intro v' w1 h1 h2 _ h4
    refine h v' w1 ?_ ?_ ?_
    · unfold POwn
      rw [flat_append, List.length_append]
      exact h1
    · have hs := h2.size
      simp only [World.size_alloc] at hs
      exact ⟨h2.os, h2.tape, h2.output, by omega, fun k hk hK => (h2.block k (by simp; omega) hK).trans (Below.heap_alloc _ _ _ hk)⟩
    · rcases h4 with h4 | h4
      · exact .inl h4
      · exact .inr ⟨_, h4, by simp⟩

/-- what the first so many pairs of a merge come to. -/
def outL (t u : Tr) (oldest : Bool) (at_ : Nat) : Tr :=
  (((pairsL t u).take at_).filter (fun p => decide (saysL [t, u] p = 1)), ((pairsL t u).take at_).filter (fun p => !(decide (saysL [t, u] p = 1)) && !oldest))

/-- the round's state: the two rows that are built, in block T. -/
structure OutI (W4 : World) (T : Nat) (lA lD : List Pr) (vA vD : Value) (wr : World) : Prop where
  keep : Keeps (fun k => k ≠ T) W4 wr
  c0 : wr.cell? ⟨T, 0, none⟩ = some vA
  c1 : wr.cell? ⟨T, 1, none⟩ = some vD
  f0 : wr.frozen? ⟨T, 0, none⟩ = false
  f1 : wr.frozen? ⟨T, 1, none⟩ = false
  oA : POwn W4.heap.size wr vA lA
  oD : POwn W4.heap.size wr vD lD
  apart : ∀ k, vA.ownBlock = some k → vD.ownBlock ≠ some k
  lt : T < W4.heap.size
theorem OutI.below {W4 : World} {T : Nat} {lA lD : List Pr} {vA vD : Value} {wr w' : World} (I : OutI W4 T lA lD vA vD wr) (B : Below wr.heap.size wr w') : OutI W4 T lA lD vA vD w' := by
  have hT := World.lt_of_cell I.c0
  exact ⟨I.keep.trans (.of_below B), cellB B I.c0, cellB B I.c1, (B.frozen (p := ⟨T, 0, none⟩) hT).trans I.f0, (B.frozen (p := ⟨T, 1, none⟩) hT).trans I.f1, I.oA.below B, I.oD.below B, I.apart, I.lt⟩
theorem POwn.fresh {B : Nat} {w : World} {v : Value} {l : List Pr} (h : POwn B w v l) {T : Nat} (hT : T < B) : v.ownBlock ≠ some T := fun e => by have := h.lt T e; omega
/-- a pair is added to the first row, and stored. -/
theorem OutI.addA {W4 : World} {T : Nat} {lA lD m : List Pr} {vA vD v' : Value} {wr w1 : World} (I : OutI W4 T lA lD vA vD wr) (hown : POwn W4.heap.size w1 v' m) (hk : Keeps (fun k => some k ≠ vA.ownBlock) wr w1)
    (hb : v'.ownBlock = vA.ownBlock ∨ ∃ k, v'.ownBlock = some k ∧ wr.heap.size ≤ k) : OutI W4 T m lD v' vD (w1.setCell ⟨T, 0, none⟩ v') := by
  have hT := World.lt_of_cell I.c0
  have nA : some T ≠ vA.ownBlock := fun e => I.oA.fresh I.lt e.symm
  have c0 : w1.cell? ⟨T, 0, none⟩ = some vA := (hk.cell hT nA).trans I.c0
  have c1 : w1.cell? ⟨T, 1, none⟩ = some vD := (hk.cell hT nA).trans I.c1
  have f0 : w1.frozen? ⟨T, 0, none⟩ = false := (hk.frozen hT nA).trans I.f0
  have f1 : w1.frozen? ⟨T, 1, none⟩ = false := (hk.frozen hT nA).trans I.f1
  have sk : Keeps (fun k => k ≠ T) w1 (w1.setCell ⟨T, 0, none⟩ v') := (Keeps.refl _ _).setCell (Or.inr (by simp)) _
  have oD1 : POwn W4.heap.size w1 vD lD := I.oD.keepK hk (fun k e e' => I.apart k e'.symm e)
  refine ⟨?_, by go_simp, by go_simp, by go_simp, by go_simp, hown.keepK sk (fun k e e' => hown.fresh I.lt (by rw [e, e'])), oD1.keepK sk (fun k e e' => oD1.fresh I.lt (by rw [e, e'])), ?_, I.lt⟩
  · refine Keeps.trans ⟨hk.os.trans I.keep.os, hk.tape.trans I.keep.tape, hk.output.trans I.keep.output, Nat.le_trans I.keep.size hk.size, fun k hk1 hk2 => ?_⟩ sk
    have hz := I.keep.size
    refine (hk.block k (by omega) (fun e => ?_)).trans (I.keep.block k hk1 hk2)
    have := I.oA.lt k e.symm
    omega
  · intro k e e'
    rcases hb with hb | ⟨j, hb, hj⟩
    · exact I.apart k (hb ▸ e) e'
    · rw [hb] at e
      obtain rfl := Option.some.inj e
      have := I.oD.lt _ e'
      omega
/-- a pair is added to the second row, and stored. -/
theorem OutI.addD {W4 : World} {T : Nat} {lA lD m : List Pr} {vA vD v' : Value} {wr w1 : World} (I : OutI W4 T lA lD vA vD wr) (hown : POwn W4.heap.size w1 v' m) (hk : Keeps (fun k => some k ≠ vD.ownBlock) wr w1)
    (hb : v'.ownBlock = vD.ownBlock ∨ ∃ k, v'.ownBlock = some k ∧ wr.heap.size ≤ k) : OutI W4 T lA m vA v' (w1.setCell ⟨T, 1, none⟩ v') := by
  have hT := World.lt_of_cell I.c0
  have nA : some T ≠ vD.ownBlock := fun e => I.oD.fresh I.lt e.symm
  have c0 : w1.cell? ⟨T, 0, none⟩ = some vA := (hk.cell hT nA).trans I.c0
  have c1 : w1.cell? ⟨T, 1, none⟩ = some vD := (hk.cell hT nA).trans I.c1
  have f0 : w1.frozen? ⟨T, 0, none⟩ = false := (hk.frozen hT nA).trans I.f0
  have f1 : w1.frozen? ⟨T, 1, none⟩ = false := (hk.frozen hT nA).trans I.f1
  have sk : Keeps (fun k => k ≠ T) w1 (w1.setCell ⟨T, 1, none⟩ v') := (Keeps.refl _ _).setCell (Or.inr (by simp)) _
  have oA1 : POwn W4.heap.size w1 vA lA := I.oA.keepK hk (fun k e e' => I.apart k e e'.symm)
  refine ⟨?_, by go_simp, by go_simp, by go_simp, by go_simp, oA1.keepK sk (fun k e e' => oA1.fresh I.lt (by rw [e, e'])), hown.keepK sk (fun k e e' => hown.fresh I.lt (by rw [e, e'])), ?_, I.lt⟩
  · refine Keeps.trans ⟨hk.os.trans I.keep.os, hk.tape.trans I.keep.tape, hk.output.trans I.keep.output, Nat.le_trans I.keep.size hk.size, fun k hk1 hk2 => ?_⟩ sk
    have hz := I.keep.size
    refine (hk.block k (by omega) (fun e => ?_)).trans (I.keep.block k hk1 hk2)
    have := I.oD.lt k e.symm
    omega
  · intro k e e'
    rcases hb with hb | ⟨j, hb, hj⟩
    · exact I.apart k e (hb ▸ e')
    · rw [hb] at e'
      obtain rfl := Option.some.inj e'
      have := I.oA.lt _ e
      omega
end Go.Proofs.Ytlkdkhmdmgchbaa
