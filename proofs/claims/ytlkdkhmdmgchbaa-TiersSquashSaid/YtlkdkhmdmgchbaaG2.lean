/- the laws' statements: what all of them share: arguments read as rows, tiers, merges; read afterwards as before. -/
import Derived.Test.YtlkdkhmdmgchbaaF11
import Derived.ProofKit
import Derived.OpenShut
import Derived.Deep.DeepHandedRow
import Derived.Deep.Slices
import Derived.ReadAgain
import Derived.ChangeBears
import Derived.ChangeMaps5
import Derived.SliceStrings
import Derived.Lib.LaidTab
import Derived.Lib.SmallJoins
namespace Go.Proofs.Ytlkdkhmdmgchbaa
set_option linter.unusedSimpArgs false
set_option linter.unusedVariables false
open Go.ChangeShapes Go.WideShapes Go.ChangeAt Go.RowKit Go.Joins Go.Deep

theorem own : ownKnob Try.prog.godebug = none := by kernel_rfl
theorem cellsPair : Try.prog.cellsOf 52 = 2 := by kernel_rfl
theorem cellsPairs : Try.prog.cellsOf 22 = 1 := by kernel_rfl
theorem cellsTier : Try.prog.cellsOf 24 = 2 := by kernel_rfl
theorem cellsMerge : Try.prog.cellsOf 26 = 8 := by kernel_rfl
theorem cellsU64 : Try.prog.cellsOf 50 = 1 := by kernel_rfl
theorem cellsInt : Try.prog.cellsOf 3 = 1 := by kernel_rfl
theorem cellsBool : Try.prog.cellsOf 4 = 1 := by kernel_rfl
/-- A world for the witness. -/
noncomputable abbrev wWorld (os : Os) : World := World.holding Try.prog os ⟨#[], #[], []⟩

theorem laidOut : laidOutB Try.prog = true := by kernel_rfl
theorem mapsRowed' : mapsRowed Try.prog = true := by kernel_rfl
theorem slicesFull : ∀ t e, t < Try.prog.types.size → Try.prog.underlying t = some (.slice e) → 0 < Try.prog.cellsOf e := slices_full_of Try.prog (by kernel_rfl)
theorem carryAll {H : Type} {enc : TypeId × Value → H} {P : Program} {w w' : World} {base : Nat} {sp : Nat → Bool} {held : Bool} : ∀ {ts : List TypeId} {vs : List Value} {ds : List (DataW H)} {ps : List MemPlace},
    DataW.TrodAll enc P w base sp held ts vs ds ps → (∀ p ∈ ps, w.sameAt w' p) → DataW.TrodAll enc P w' base sp held ts vs ds ps
  | [], [], [], _, h, _ => h
  | _ :: _, _ :: _, _ :: _, _, ⟨p, q, ⟨n, h1⟩, h2, e⟩, hs => ⟨p, q, ⟨n, DataW.trod_carry n _ _ _ h1 (fun x hx => hs x (by rw [e]; exact List.mem_append_left _ hx))⟩, carryAll h2 (fun x hx => hs x (by rw [e]; exact List.mem_append_right _ hx)), e⟩
/-- the arguments read afterwards as they did. -/
theorem args_again {H : Type} {enc : TypeId × Value → H} {W W' : World} {ts : List TypeId} {vs : List Value} {ds : List (DataW H)} {ps : List MemPlace}
    (h : DataW.TrodAll enc Try.prog W 0 (fun _ => true) true ts vs ds ps) (hB : Below W.heap.size W W') (hts : ∀ t ∈ ts, t < Try.prog.types.size) :
    DataW.TrodAll enc Try.prog W' 0 (fun b => decide (b < W.heap.size)) true ts vs ds ps :=
  carryAll (DataW.TrodAll.respare (kids_rows laidOut mapsRowed') slicesFull hts h (fun p hp => by simpa using DataW.TrodAll.lt h p hp)) (fun p hp => hB.same (DataW.TrodAll.lt h p hp))

theorem list2 {cs : List Value} (h : cs.length = 2) : ∃ a b, cs = [a, b] := by
  match cs, h with
  | [a, b], _ => exact ⟨a, b, rfl⟩
theorem list8 {cs : List Value} (h : cs.length = 8) : ∃ a b c d e f g i, cs = [a, b, c, d, e, f, g, i] := by
  match cs, h with
  | [a, b, c, d, e, f, g, i], _ => exact ⟨a, b, c, d, e, f, g, i, rfl⟩
section
variable {H : Type} {enc : TypeId × Value → H} {W : World} {base n : Nat} {held : Bool} {y : DataW H × List MemPlace}
theorem pair_data {sp : Nat → Bool} {cs : List Value} (h : DataW.trod enc Try.prog W base sp held n 52 cs = some y) : ∃ a b : Int, cs = [.int .u64 a, .int .u64 b] := by
  obtain ⟨y0, y1, m, rfl, hl, h0, h1⟩ := trod_struct2 Try.underlying52 h
  rw [cellsPair] at hl
  obtain ⟨c0, c1, rfl⟩ := list2 hl
  obtain ⟨a, e0, rfl, wa⟩ := DataW.trod_int Try.underlying50 h0
  obtain ⟨b, e1, rfl, wb⟩ := DataW.trod_int Try.underlying50 h1
  simp [cellsU64] at e0 e1
  subst e0; subst e1
  exact ⟨a, b, rfl⟩
set_option maxRecDepth 100000 in
theorem p_row {v : Value} (h : DataW.trod enc Try.prog W base (fun _ => true) held n 22 [v] = some y) : ∃ l, PRow W v l := by
  rcases open_slice Try.underlying22 h with ⟨e, -⟩ | ⟨a, len, cap, m, k, D, Pl, e, -, hlc, hm, hmm, -, hx⟩
  · simp at e
    subst e
    exact ⟨[], PRow.nil _⟩
  · simp at e
    subst e
    simp at hmm
    subst hmm
    rw [cellsPair] at hx
    obtain ⟨f, hf⟩ := choose_lt (n := m) (α := Int × Int) (p := fun i x => W.cell? (a.add (i * 2)) = some (.int .u64 x.1) ∧ W.cell? ((a.add (i * 2)).add 1) = some (.int .u64 x.2)) (fun i hi => by
      obtain ⟨cs', h1, h2⟩ := hx i hi
      obtain ⟨x, b, rfl⟩ := pair_data h2
      obtain ⟨-, -, hc⟩ := World.cells?_some h1
      exact ⟨(x, b), by simpa [Addr.add] using hc 0 (by omega), by simpa using hc 1 (by omega)⟩)
    refine ⟨(List.range len).map f, some a, m, by simp, by simpa using hlc, fun h => (by cases h), by simp [maxLen] at hm ⊢; omega, fun hl => ?_⟩
    simp at hl
    have h0 := (hf 0 (by omega)).1
    have hs : a.spot = none := by simpa [Addr.add] using World.cell?_spot h0
    obtain ⟨g, o, s⟩ := a
    simp at hs
    subst hs
    refine ⟨g, o, rfl, fun j x hj => ?_⟩
    rw [List.getElem?_map, Option.map_eq_some_iff] at hj
    obtain ⟨i, hi, hfi⟩ := hj
    obtain ⟨hi', rfl⟩ := List.getElem?_eq_some_iff.1 hi
    simp at hi' hfi
    obtain ⟨q0, q1⟩ := hf j (by omega)
    rw [hfi] at q0 q1
    have e0 : (⟨g, o, none⟩ : Addr).add (j * 2) = ⟨g, o + j * 2, none⟩ := by unfold Addr.add; split <;> simp_all
    rw [e0] at q0 q1
    exact ⟨q0, by simpa [Addr.add] using q1⟩
theorem tier_data {cs : List Value} (h : DataW.trod enc Try.prog W base (fun _ => true) held n 24 cs = some y) : ∃ a b t, cs = [a, b] ∧ TPair W a b t := by
  obtain ⟨y0, y1, m, rfl, hl, h0, h1⟩ := trod_struct2 Try.underlying24 h
  rw [cellsTier] at hl
  obtain ⟨c0, c1, rfl⟩ := list2 hl
  simp only [cellsPairs] at h0 h1
  obtain ⟨l0, r0⟩ := p_row (v := c0) h0
  obtain ⟨l1, r1⟩ := p_row (v := c1) h1
  exact ⟨c0, c1, (l0, l1), rfl, r0, r1⟩
set_option maxRecDepth 100000 in
theorem merge_data {cs : List Value} (h : DataW.trod enc Try.prog W base (fun _ => true) held n 26 cs = some y) : ∃ a0 a1 a2 a3 a4 a5 m, cs = [a0, a1, a2, a3, .bool m.oldest, .int .i64 m.at_, a4, a5] ∧ MIs W a0 a1 a2 a3 a4 a5 m := by
  obtain ⟨xs, k, -, -, hl, hlen, hf⟩ := DataW.trod_struct Try.underlying26 h
  rw [cellsMerge] at hl
  obtain ⟨c0, c1, c2, c3, c4, c5, c6, c7, rfl⟩ := list8 hl
  have h0 : DataW.trod enc Try.prog W base (fun _ => true) held k 24 (([c0, c1, c2, c3, c4, c5, c6, c7].drop 0).take (Try.prog.cellsOf 24)) = xs[0]? := hf 0 _ rfl
  have h1 : DataW.trod enc Try.prog W base (fun _ => true) held k 24 (([c0, c1, c2, c3, c4, c5, c6, c7].drop 2).take (Try.prog.cellsOf 24)) = xs[1]? := hf 1 _ rfl
  have h2 : DataW.trod enc Try.prog W base (fun _ => true) held k 4 (([c0, c1, c2, c3, c4, c5, c6, c7].drop 4).take (Try.prog.cellsOf 4)) = xs[2]? := hf 2 _ rfl
  have h3 : DataW.trod enc Try.prog W base (fun _ => true) held k 3 (([c0, c1, c2, c3, c4, c5, c6, c7].drop 5).take (Try.prog.cellsOf 3)) = xs[3]? := hf 3 _ rfl
  have h4 : DataW.trod enc Try.prog W base (fun _ => true) held k 24 (([c0, c1, c2, c3, c4, c5, c6, c7].drop 6).take (Try.prog.cellsOf 24)) = xs[4]? := hf 4 _ rfl
  simp only [List.size_toArray, List.length_cons, List.length_nil] at hlen
  rw [List.getElem?_eq_getElem (by omega)] at h0 h1 h2 h3 h4
  simp only [cellsTier, cellsBool, cellsInt] at h0 h1 h2 h3 h4
  obtain ⟨a0, a1, t, e0, p0⟩ := tier_data h0
  obtain ⟨a2, a3, u, e1, p1⟩ := tier_data h1
  obtain ⟨b, e2, -⟩ := DataW.trod_bool Try.underlying4 h2
  obtain ⟨i, e3, -⟩ := DataW.trod_int Try.underlying3 h3
  obtain ⟨a4, a5, r, e4, p4⟩ := tier_data h4
  simp at e0 e1 e2 e3 e4
  obtain ⟨rfl, rfl⟩ := e0
  obtain ⟨rfl, rfl⟩ := e1
  obtain ⟨rfl, rfl⟩ := e4
  subst e2; subst e3
  exact ⟨_, _, _, _, _, _, ⟨t, u, b, i, r⟩, rfl, p0, p1, p4⟩
end
end Go.Proofs.Ytlkdkhmdmgchbaa
