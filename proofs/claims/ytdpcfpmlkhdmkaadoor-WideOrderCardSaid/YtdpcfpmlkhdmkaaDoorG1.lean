/- the laws' cards: what all of them share. -/
import Derived.Test.YtdpcfpmlkhdmkaaDoorW14
import Derived.Test.YtdpcfpmlkhdmkaaDoorCards
import Derived.Test.YtdpcfpmlkhdmkaaDoorTie
import Derived.ProofKit
import Derived.OpenShut
import Derived.Deep.DeepHandedRow
import Derived.Deep.Slices
import Derived.ReadAgain
import Derived.ChangeBears
import Derived.ChangeMaps5
import Derived.SliceStrings
import Derived.Lib.LaidTab
import Derived.Lib.SmallJoins
namespace Go.Proofs.YtdpcfpmlkhdmkaaDoor
open Go.ChangeShapes Go.WideShapes Go.ChangeAt Go.RowKit Go.Joins

theorem own : ownKnob Tryd.prog.godebug = none := by kernel_rfl
theorem gOne : Tryd.prog.globalNamed "colander/wide.one" = some 0 := by kernel_rfl
theorem gOneType : (Tryd.prog.globals[0]?).map (·.type) = some 27 := by kernel_rfl
theorem cells27 : Tryd.prog.cellsOf 27 = 2 := by kernel_rfl
theorem cells23 : Tryd.prog.cellsOf 23 = 1 := by kernel_rfl

theorem one_of_laid {W : World} (h : laidMet Tryd.prog [("colander/wide.one", Rows.laid_colander_wide_one)] W) : One W := by
  obtain ⟨ps, ⟨g', t', cs, fuel, p, q, hg', ht', hvar, hd, _, _⟩, _⟩ := h
  obtain rfl := Option.some.inj (gOne.symm.trans hg')
  obtain rfl := Option.some.inj (gOneType.symm.trans ht')
  obtain ⟨y0, y1, n, hx, hl, h0, h1⟩ := trod_struct2 Tryd.underlying27 hd
  simp only [Prod.mk.injEq, Rows.laid_colander_wide_one, DataW.agg.injEq, List.cons.injEq, and_true] at hx
  obtain ⟨⟨hy0, hy1⟩, -⟩ := hx
  rw [show Tryd.prog.cellsOf 27 = 2 from cells27] at hl
  obtain ⟨c0, c1, hc⟩ : ∃ c0 c1, cs.toList = [c0, c1] := by
    match hcs : cs.toList, hl with
    | [c0, c1], _ => exact ⟨c0, c1, rfl⟩
  rw [hc] at h0 h1
  obtain ⟨a, e0, rfl, -⟩ := DataW.trod_int Tryd.underlying23 h0
  obtain ⟨b, e1, rfl, -⟩ := DataW.trod_int Tryd.underlying23 h1
  simp only [DataW.lit.injEq, Lit.int.injEq, true_and] at hy0 hy1
  subst hy0; subst hy1
  have hcells : c0 = .int .u64 0 ∧ c1 = .int .u64 1 := by
    constructor
    · simpa [cells23] using e0
    · simpa [cells23] using e1
  obtain ⟨rfl, rfl⟩ := hcells
  unfold World.var? at hvar
  rw [gOne] at hvar
  simp only [Option.bind_some] at hvar
  have hb : ∃ t fz, W.heap[0]? = some (.cells cs t fz) := by
    split at hvar
    · rename_i cs' t fz heq
      simp only [Option.some.injEq] at hvar
      subst hvar
      exact ⟨t, fz, heq⟩
    · cases hvar
  obtain ⟨t, fz, hb⟩ := hb
  have hc' : cs = #[.int .u64 0, .int .u64 1] := by
    apply Array.toList_inj.1
    rw [hc]
  rw [hc'] at hb
  refine ⟨(Array.getElem?_eq_some_iff.1 hb).1, ?_, ?_⟩ <;> simp [World.cell?, hb]

/-- A world for the witness: the settled one, the variable holding what its initialiser lays. -/
noncomputable def laidWorld (os : Os) : World :=
  { World.holding Tryd.prog os ⟨#[], #[], []⟩ with heap := (World.holding Tryd.prog os ⟨#[], #[], []⟩).heap.modify 0 fun
      | .cells _ t frozen => .cells #[.int .u64 0, .int .u64 1] t frozen
      | o => o }

theorem u64_of_wf {x : Int} (h : (Lit.int .u64 x).wf = true) : U64 x := by
  have := bounds_u64 h
  unfold U64; rw [M_lit]; omega


theorem laidOut : laidOutB Tryd.prog = true := by kernel_rfl
theorem mapsRowed' : mapsRowed Tryd.prog = true := by kernel_rfl
theorem slicesFull : ∀ t e, t < Tryd.prog.types.size → Tryd.prog.underlying t = some (.slice e) → 0 < Tryd.prog.cellsOf e := slices_full_of Tryd.prog (by kernel_rfl)
theorem carryAll {H : Type} {enc : TypeId × Value → H} {P : Program} {w w' : World} {base : Nat} {sp : Nat → Bool} {held : Bool} : ∀ {ts : List TypeId} {vs : List Value} {ds : List (DataW H)} {ps : List MemPlace},
    DataW.TrodAll enc P w base sp held ts vs ds ps → (∀ p ∈ ps, w.sameAt w' p) → DataW.TrodAll enc P w' base sp held ts vs ds ps
  | [], [], [], _, h, _ => h
  | _ :: _, _ :: _, _ :: _, _, ⟨p, q, ⟨n, h1⟩, h2, e⟩, hs => ⟨p, q, ⟨n, DataW.trod_carry n _ _ _ h1 (fun x hx => hs x (by rw [e]; exact List.mem_append_left _ hx))⟩, carryAll h2 (fun x hx => hs x (by rw [e]; exact List.mem_append_right _ hx)), e⟩
/-- the arguments read afterwards as they did. -/
theorem args_again {H : Type} {enc : TypeId × Value → H} {W W' : World} {ts : List TypeId} {vs : List Value} {ds : List (DataW H)} {ps : List MemPlace}
    (h : DataW.TrodAll enc Tryd.prog W 0 (fun _ => true) true ts vs ds ps) (hB : Below W.heap.size W W') (hts : ∀ t ∈ ts, t < Tryd.prog.types.size) :
    DataW.TrodAll enc Tryd.prog W' 0 (fun b => decide (b < W.heap.size)) true ts vs ds ps :=
  carryAll (DataW.TrodAll.respare (kids_rows laidOut mapsRowed') slicesFull hts h (fun p hp => by simpa using DataW.TrodAll.lt h p hp)) (fun p hp => hB.same (DataW.TrodAll.lt h p hp))

theorem list2 {cs : List Value} (h : cs.length = 2) : ∃ a b, cs = [a, b] := by
  match cs, h with
  | [a, b], _ => exact ⟨a, b, rfl⟩
theorem list4 {cs : List Value} (h : cs.length = 4) : ∃ a b c d, cs = [a, b, c, d] := by
  match cs, h with
  | [a, b, c, d], _ => exact ⟨a, b, c, d, rfl⟩
theorem wide_data {H : Type} {enc : TypeId × Value → H} {W : World} {base n : Nat} {sp : Nat → Bool} {held : Bool} {cs : List Value} {y : DataW H × List MemPlace} (h : DataW.trod enc Tryd.prog W base sp held n 27 cs = some y) :
    ∃ a b : Int, cs = [.int .u64 a, .int .u64 b] ∧ U64 a ∧ U64 b := by
  obtain ⟨y0, y1, m, rfl, hl, h0, h1⟩ := trod_struct2 Tryd.underlying27 h
  rw [cells27] at hl
  obtain ⟨c0, c1, rfl⟩ := list2 hl
  obtain ⟨a, e0, rfl, wa⟩ := DataW.trod_int Tryd.underlying23 h0
  obtain ⟨b, e1, rfl, wb⟩ := DataW.trod_int Tryd.underlying23 h1
  simp [cells23] at e0 e1
  subst e0; subst e1
  exact ⟨a, b, rfl, u64_of_wf wa, u64_of_wf wb⟩
end Go.Proofs.YtdpcfpmlkhdmkaaDoor
