/- a statement's arguments read as data: an array of two numbers. -/
import Derived.Test.YtlkdkhmdmgchbaaGB
import Derived.Test.YtlkdkhmdmgchbaaGA
import Derived.OpenShut
namespace Go.Proofs.Ytlkdkhmdmgchbaa
set_option linter.unusedSimpArgs false
set_option linter.unusedVariables false
open Go.ChangeShapes Go.WideShapes Go.ChangeAt Go.RowKit Go.Joins Go.Deep
section
variable {H : Type} {enc : TypeId × Value → H} {W : World} {base n : Nat} {held : Bool} {y : DataW H × List MemPlace}
theorem cellsArr2 : Try.prog.cellsOf 101 = 2 := by kernel_rfl
set_option maxRecDepth 100000 in
theorem arr2_data {sp : Nat → Bool} {cs : List Value} (h : DataW.trod enc Try.prog W base sp held n 101 cs = some y) : ∃ a b : Int, cs = [.int .i64 a, .int .i64 b] := by
  obtain ⟨xs, m, -, -, hl, hx, hi⟩ := DataW.trod_array Try.underlying101 h
  rw [cellsArr2] at hl
  obtain ⟨c0, c1, rfl⟩ := list2 hl
  match xs, hx with
  | [x0, x1], _ =>
    have h0 := hi 0 (by omega)
    have h1 := hi 1 (by omega)
    rw [cellsInt] at h0 h1
    obtain ⟨a, e0, -⟩ := DataW.trod_int Try.underlying3 h0
    obtain ⟨b, e1, -⟩ := DataW.trod_int Try.underlying3 h1
    simp at e0 e1
    subst e0; subst e1
    exact ⟨a, b, rfl⟩
set_option maxRecDepth 100000 in
theorem okWide_arr2 {r : Reach} {b0 : Nat} {v : Value} (h : Value.okWide Try.prog W r b0 101 v) : ∃ cs, v = .agg cs ∧ cs.size = 2 := by
  simp only [Value.okWide, Try.underlying101] at h
  obtain ⟨cs, h1, h2, _⟩ := h
  exact ⟨cs, h1, h2.trans cellsArr2⟩
theorem rep_arr2 {Z : Zone} {w : World} {a b : Int} : RepDV Z w (.agg #[.int .i64 a, .int .i64 b]) (.agg [.v (.int .i64 a), .v (.int .i64 b)]) := ⟨#[.int .i64 a, .int .i64 b], rfl, rfl, fun i d hd => by
  match i, hd with
  | 0, hd => cases hd; exact .v _
  | 1, hd => cases hd; exact .v _⟩
end
end Go.Proofs.Ytlkdkhmdmgchbaa
