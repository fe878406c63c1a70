/- what every walk of this seat leans on: what calls keep, boxes, sizes. -/
import Derived.WalkKit
import Derived.WalkLawsBesides
import Derived.LoopN
import Derived.Laws.OwnMore
import Derived.Laws.AppendOwnNone
import Derived.Deep.RegionWith
import Derived.Deep.RegionHeld3
import Derived.Deep.DeepCutAuto
import Derived.Lib.SmallJoins
import Derived.Lib.LazyBuf
import Derived.Test.YtlkdkhmdmgchbaaRows
namespace Go.Proofs.Ytlkdkhmdmgchbaa
set_option linter.unusedSimpArgs false
set_option linter.unusedVariables false
open Go.RowKit

theorem hid {p : Prop} (h : p) : Hid p := h
def M : Int := 18446744073709551616
structure Keeps (K : Nat → Prop) (w w' : World) : Prop where
  os : w'.os = w.os
  tape : w'.tape = w.tape
  output : w'.output = w.output
  size : w.heap.size ≤ w'.heap.size
  block : ∀ k, k < w.heap.size → K k → w'.heap[k]? = w.heap[k]?
theorem Keeps.refl (K : Nat → Prop) (w : World) : Keeps K w w := ⟨rfl, rfl, rfl, Nat.le_refl _, fun _ _ _ => rfl⟩
theorem Keeps.trans {K : Nat → Prop} {a b c : World} (h : Keeps K a b) (k : Keeps K b c) : Keeps K a c :=
  ⟨k.os.trans h.os, k.tape.trans h.tape, k.output.trans h.output, Nat.le_trans h.size k.size, fun i hi hK => (k.block i (Nat.lt_of_lt_of_le hi h.size) hK).trans (h.block i hi hK)⟩
theorem Keeps.alloc {K : Nat → Prop} {a w : World} (h : Keeps K a w) (o : Obj) : Keeps K a (w.alloc o) :=
  h.trans ⟨rfl, rfl, rfl, by simp, fun k hk _ => Below.heap_alloc _ _ _ hk⟩
theorem Keeps.setCell {K : Nat → Prop} {a w : World} (h : Keeps K a w) {p : Addr} (hp : a.heap.size ≤ p.block ∨ ¬ K p.block) (u : Value) : Keeps K a (w.setCell p u) := by
  refine ⟨h.os, h.tape, h.output, by simpa [World.setCell] using h.size, fun k hk hK => ?_⟩
  rw [Below.heap_setCell _ _ _ _ ?_]
  · exact h.block k hk hK
  · rcases hp with hp | hp
    · omega
    · rintro rfl; exact hp hK
theorem Keeps.below {w w' : World} (h : Keeps (fun _ => True) w w') : Below w.heap.size w w' := ⟨h.os, h.tape, h.output, h.size, fun k hk => h.block k hk trivial⟩
theorem Keeps.of_below {K : Nat → Prop} {w w' : World} (h : Below w.heap.size w w') : Keeps K w w' := ⟨h.os, h.tape, h.output, h.size, fun k hk _ => h.block k hk⟩
theorem Keeps.cell {K : Nat → Prop} {w w' : World} (h : Keeps K w w') {b o : Nat} (hb : b < w.heap.size) (hK : K b) : w'.cell? ⟨b, o, none⟩ = w.cell? ⟨b, o, none⟩ :=
  World.cell?_of_block (w := w) (a := ⟨b, o, none⟩) (h.block b hb hK)
theorem Keeps.frozen {K : Nat → Prop} {w w' : World} (h : Keeps K w w') {b o : Nat} (hb : b < w.heap.size) (hK : K b) : w'.frozen? ⟨b, o, none⟩ = w.frozen? ⟨b, o, none⟩ :=
  World.frozen?_of_block (w := w) (a := ⟨b, o, none⟩) (h.block b hb hK)

theorem cellB {w w' : World} {g o : Nat} {x : Value} (hb : Below w.heap.size w w') (h : w.cell? ⟨g, o, none⟩ = some x) : w'.cell? ⟨g, o, none⟩ = some x := (hb.cell (p := ⟨g, o, none⟩) (World.block_lt_of_cell? _ _ h)).trans h
abbrev Bx (T : Nat) (x y : Int) (W : World) : Prop := W.cell? ⟨T, 0, none⟩ = some (.int .u64 (x)) ∧ W.cell? ⟨T, 1, none⟩ = some (.int .u64 (y)) ∧ T < W.heap.size
theorem Bx.keep {T : Nat} {x y : Int} {W W' : World} (h : Bx T x y W) (B : Below W.heap.size W W') : Bx T x y W' :=
  ⟨cellB B h.1, cellB B h.2.1, by have := B.size; have := h.2.2; omega⟩
theorem Bx.new (W : World) (x y : Int) (t : Nat) : Bx W.heap.size x y (W.alloc (.cells #[(.int .u64 (x)), (.int .u64 (y))] t)) := ⟨by go_simp, by go_simp, by simp⟩
theorem below_alloc (W : World) (o : Obj) : Below W.heap.size W (W.alloc o) := (Below.refl _ _).alloc (Nat.le_refl _) _
theorem below_drew (W : World) : Below W.heap.size W W.drew := (Below.refl _ _).drew
theorem bel_step {w W W' : World} (h : Below w.heap.size w W) (B : Below W.heap.size W W') : Below w.heap.size w W' := h.trans (B.mono h.size)
theorem blift {W W' : World} {o : Obj} (B : Below (W.alloc o).heap.size (W.alloc o) W') : Below W.heap.size W W' := (below_alloc W o).trans (B.mono (by simp))
theorem Bx.keepK {K : Nat → Prop} {T : Nat} {x y : Int} {W W' : World} (h : Bx T x y W) (hk : Keeps K W W') (hK : K T) : Bx T x y W' :=
  ⟨(hk.cell h.2.2 hK).trans h.1, (hk.cell h.2.2 hK).trans h.2.1, by have := hk.size; have := h.2.2; omega⟩
theorem Below.of_grown {B : Nat} {W w1 : World} {o : Obj} {v : Value} {n e s : Nat} {xs : List Value} (h : W.ownsRow B e s v n xs) (hg : (W.alloc o).grownBy w1 v.ownBlock) (hB : B ≤ W.heap.size) : Below B W w1 := by
  have hs := hg.size
  simp only [World.size_alloc] at hs
  refine ⟨hg.os, hg.tape, hg.output, by omega, fun k hk => ?_⟩
  refine (hg.block k (by simp; omega) ?_).trans (Below.heap_alloc _ _ _ (by omega))
  intro e
  have := h.lt k e.symm
  omega

theorem World.lt_of_cell {w : World} {b o : Nat} {v : Value} (h : w.cell? ⟨b, o, none⟩ = some v) : b < w.heap.size := World.block_lt_of_cell? _ _ h
theorem i64_ok (x : Int) (h0 : -9223372036854775808 ≤ x) (h1 : x ≤ 9223372036854775807) : IntKind.i64.wrap x = x := IntWalk.i64_in _ ⟨h0, h1⟩
end Go.Proofs.Ytlkdkhmdmgchbaa
