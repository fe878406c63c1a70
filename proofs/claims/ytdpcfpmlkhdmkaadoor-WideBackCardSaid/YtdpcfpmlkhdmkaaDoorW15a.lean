/- wide: small contracts for the laws; what a law keeps of two boxes. -/
import Derived.Test.YtdpcfpmlkhdmkaaDoorW14
namespace Go.Proofs.YtdpcfpmlkhdmkaaDoor
open Go.RowKit

theorem sub_is (a b c d h l : Int) (w : World) (ha : U64 a) (hb : U64 b) (hc : U64 c) (hd : U64 d) (hh : U64 h) (hl : U64 l) (e : W128 a b - W128 c d = W128 h l) :
   Calls Tryd.prog 21 #[.agg #[.int .u64 a, .int .u64 b], .agg #[.int .u64 c, .int .u64 d]] w fun e w' => e = .returned (.tuple #[.agg #[(.int .u64 (h)), (.int .u64 (l))], (.int .i64 (0))]) ∧ Below w.heap.size w w' := by
  refine (sub_any a b c d w ha hb hc hd).mono ?_
  rintro e w' ⟨B, ⟨hN, h', l', rfl, u1, u2, u3⟩ | ⟨hN, rfl⟩⟩
  · obtain ⟨rfl, rfl⟩ := W128.inj u1 u2 hh hl (by rw [u3, e])
    exact ⟨rfl, B⟩
  · have := (W128.lt hh hl).1; omega
theorem mul_is (a b c d h l : Int) (w : World) (ha : U64 a) (hb : U64 b) (hc : U64 c) (hd : U64 d) (hh : U64 h) (hl : U64 l) (e : W128 a b * W128 c d = W128 h l) :
   Calls Tryd.prog 22 #[.agg #[.int .u64 a, .int .u64 b], .agg #[.int .u64 c, .int .u64 d]] w fun e w' => e = .returned (.tuple #[.agg #[(.int .u64 (h)), (.int .u64 (l))], (.int .i64 (0))]) ∧ Below w.heap.size w w' := by
  refine (mul_any a b c d w ha hb hc hd).mono ?_
  rintro e w' ⟨B, ⟨hN, h', l', rfl, u1, u2, u3⟩ | ⟨hN, rfl⟩⟩
  · obtain ⟨rfl, rfl⟩ := W128.inj u1 u2 hh hl (by rw [u3, e])
    exact ⟨rfl, B⟩
  · exact absurd (by rw [e]; exact (W128.lt hh hl).2) hN
theorem compare_ge (a b c d : Int) (w : World) (ha : U64 a) (hb : U64 b) (hc : U64 c) (hd : U64 d) (h : W128 c d ≤ W128 a b) :
   Calls Tryd.prog 23 #[.agg #[.int .u64 a, .int .u64 b], .agg #[.int .u64 c, .int .u64 d]] w fun e w' => ∃ x : Int, e = .returned (.int .i64 (x)) ∧ ¬ x < 0 ∧ Below w.heap.size w w' :=
  (compare_any a b c d w ha hb hc hd).mono fun e w' ⟨h1, h2⟩ => ⟨_, h1, by unfold cmpI; split <;> (try split) <;> omega, h2⟩
theorem compare_lt (a b c d : Int) (w : World) (ha : U64 a) (hb : U64 b) (hc : U64 c) (hd : U64 d) (h : W128 a b < W128 c d) :
   Calls Tryd.prog 23 #[.agg #[.int .u64 a, .int .u64 b], .agg #[.int .u64 c, .int .u64 d]] w fun e w' => e = .returned (.int .i64 (-1)) ∧ Below w.heap.size w w' :=
  (compare_any a b c d w ha hb hc hd).mono fun e w' ⟨h1, h2⟩ => ⟨by rw [h1]; unfold cmpI; rw [if_pos h], h2⟩

abbrev S22 (w : World) (c : Nat) (a0 a1 c0 c1 : Value) (w' : World) : Prop :=
  Below w.heap.size w w' ∧ w'.cell? ⟨w.heap.size, 0, none⟩ = some a0 ∧ w'.cell? ⟨w.heap.size, 1, none⟩ = some a1 ∧ w.heap.size < w'.heap.size ∧ w'.cell? ⟨c, 0, none⟩ = some c0 ∧ w'.cell? ⟨c, 1, none⟩ = some c1 ∧ c < w'.heap.size
theorem S22.keep {w : World} {c : Nat} {a0 a1 c0 c1 : Value} {W W' : World} (h : S22 w c a0 a1 c0 c1 W) (B : Below W.heap.size W W') : S22 w c a0 a1 c0 c1 W' := by
  obtain ⟨h0, h1, h2, h3, h4, h5, h6⟩ := h
  have := B.size
  exact ⟨h0.trans (B.mono h0.size), (B.cell (p := ⟨_, _, none⟩) h3).trans h1, (B.cell (p := ⟨_, _, none⟩) h3).trans h2, by omega, (B.cell (p := ⟨_, _, none⟩) h6).trans h4, (B.cell (p := ⟨_, _, none⟩) h6).trans h5, by omega⟩
theorem S22.mk (w W : World) (a0 a1 c0 c1 : Value) (hB : Below w.heap.size w W) (h0 : W.cell? ⟨w.heap.size, 0, none⟩ = some a0) (h1 : W.cell? ⟨w.heap.size, 1, none⟩ = some a1) (hs : w.heap.size < W.heap.size) :
    S22 w W.heap.size a0 a1 c0 c1 (W.alloc (.cells #[c0, c1] 27)) :=
  ⟨hB.alloc hB.size _, by go_simp, by go_simp, by simp; omega, by go_simp, by go_simp, by simp⟩
theorem S22.of_below {w W W' : World} {c : Nat} {a0 a1 c0 c1 : Value} (h0 : Below w.heap.size w W) (h1 : W.cell? ⟨w.heap.size, 0, none⟩ = some a0) (h2 : W.cell? ⟨w.heap.size, 1, none⟩ = some a1)
    (h3 : w.heap.size < W.heap.size) (h : Below W.heap.size W W') (h4 : W'.cell? ⟨c, 0, none⟩ = some c0) (h5 : W'.cell? ⟨c, 1, none⟩ = some c1) (h6 : c < W'.heap.size) : S22 w c a0 a1 c0 c1 W' :=
  ⟨h0.trans (h.mono h0.size), (h.cell (p := ⟨_, _, none⟩) h3).trans h1, (h.cell (p := ⟨_, _, none⟩) h3).trans h2, by have := h.size; omega, h4, h5, h6⟩
theorem isSome_setCell (w : World) (p : Addr) (v : Value) (b o : Nat) : ((w.setCell p v).cell? ⟨b, o, none⟩).isSome = (w.cell? ⟨b, o, none⟩).isSome := by
  by_cases h : p = ⟨b, o, none⟩
  · subst h
    cases hc : w.cell? ⟨b, o, none⟩ with
    | some u => rw [World.cell?_setCell_same' w _ v (by rw [hc]; rfl)]; rfl
    | none =>
      simp only [World.cell?, World.setCell, Array.getElem?_modify] at hc ⊢
      simp only [if_true]
      cases hw : w.heap[b]? with
      | none => rfl
      | some x =>
        rw [hw] at hc
        cases x <;> simp_all
  · rw [World.cell?_setCell_other _ _ _ _ h]
theorem cell_some_below {B b o : Nat} {W W' : World} (h : Below B W W') (hb : b < B) (hs : (W.cell? ⟨b, o, none⟩).isSome = true) : (W'.cell? ⟨b, o, none⟩).isSome = true := by
  rw [h.cell (p := ⟨b, o, none⟩) hb]; exact hs
theorem S22.alloc {w : World} {c : Nat} {a0 a1 c0 c1 : Value} {W : World} (h : S22 w c a0 a1 c0 c1 W) (o : Obj) : S22 w c a0 a1 c0 c1 (W.alloc o) :=
  h.keep ((Below.refl _ _).alloc (Nat.le_refl _) _)
theorem S22.drew {w : World} {c : Nat} {a0 a1 c0 c1 : Value} {W : World} (h : S22 w c a0 a1 c0 c1 W) : S22 w c a0 a1 c0 c1 W.drew := ⟨h.1.drew, h.2⟩

end Go.Proofs.YtdpcfpmlkhdmkaaDoor
