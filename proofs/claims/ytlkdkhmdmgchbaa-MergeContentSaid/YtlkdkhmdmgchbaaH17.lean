/- the program's merges: Begin. -/
import Derived.Test.YtlkdkhmdmgchbaaH16
import Derived.Deep.DeepCutAuto
namespace Go.Proofs.Ytlkdkhmdmgchbaa
set_option linter.unusedSimpArgs false
set_option linter.unusedVariables false
open Go.RowKit

/-- a merge's box, at one word. -/
def MZ (T : Nat) (a0 a1 a2 a3 a4 a5 a6 a7 : Value) (W : World) : Prop := W.heap[T]? = some (.cells #[a0, a1, a2, a3, a4, a5, a6, a7] 26 (0, 0))
theorem MZ.keep {T : Nat} {a0 a1 a2 a3 a4 a5 a6 a7 : Value} {W W' : World} (h : MZ T a0 a1 a2 a3 a4 a5 a6 a7 W) (B : Below W.heap.size W W') : MZ T a0 a1 a2 a3 a4 a5 a6 a7 W' := (B.block _ (ltH h)).trans h
theorem MZ.keepK {K : Nat → Prop} {T : Nat} {a0 a1 a2 a3 a4 a5 a6 a7 : Value} {W W' : World} (h : MZ T a0 a1 a2 a3 a4 a5 a6 a7 W) (k : Keeps K W W') (hT : K T) : MZ T a0 a1 a2 a3 a4 a5 a6 a7 W' := (k.block _ (ltH h) hT).trans h
theorem MZ.cells {T : Nat} {a0 a1 a2 a3 a4 a5 a6 a7 : Value} {W : World} (h : MZ T a0 a1 a2 a3 a4 a5 a6 a7 W) :
    W.cell? ⟨T, 0, none⟩ = some a0 ∧ W.cell? ⟨T, 1, none⟩ = some a1 ∧ W.cell? ⟨T, 2, none⟩ = some a2 ∧ W.cell? ⟨T, 3, none⟩ = some a3 ∧ W.cell? ⟨T, 4, none⟩ = some a4 ∧ W.cell? ⟨T, 5, none⟩ = some a5 ∧ W.cell? ⟨T, 6, none⟩ = some a6 ∧ W.cell? ⟨T, 7, none⟩ = some a7 ∧ T < W.heap.size :=
  ⟨(cellH h).trans rfl, (cellH h).trans rfl, (cellH h).trans rfl, (cellH h).trans rfl, (cellH h).trans rfl, (cellH h).trans rfl, (cellH h).trans rfl, (cellH h).trans rfl, ltH h⟩
theorem MZ.free {T : Nat} {a0 a1 a2 a3 a4 a5 a6 a7 : Value} {W : World} (h : MZ T a0 a1 a2 a3 a4 a5 a6 a7 W) :
    W.frozen? ⟨T, 0, none⟩ = false ∧ W.frozen? ⟨T, 1, none⟩ = false ∧ W.frozen? ⟨T, 2, none⟩ = false ∧ W.frozen? ⟨T, 3, none⟩ = false ∧ W.frozen? ⟨T, 4, none⟩ = false ∧ W.frozen? ⟨T, 5, none⟩ = false ∧ W.frozen? ⟨T, 6, none⟩ = false ∧ W.frozen? ⟨T, 7, none⟩ = false :=
  ⟨freeH h, freeH h, freeH h, freeH h, freeH h, freeH h, freeH h, freeH h⟩
theorem MZ.new (W : World) (a0 a1 a2 a3 a4 a5 a6 a7 : Value) : MZ W.heap.size a0 a1 a2 a3 a4 a5 a6 a7 (W.alloc (.cells #[a0, a1, a2, a3, a4, a5, a6, a7] 26)) := heap_here rfl
abbrev M0 (T : Nat) (W : World) : Prop := MZ T (.slice none 0 0) (.slice none 0 0) (.slice none 0 0) (.slice none 0 0) (.bool false) (.int .i64 0) (.slice none 0 0) (.slice none 0 0) W
/-- a merge stored over a merge's box. -/
theorem MZ.set {T : Nat} {a0 a1 a2 a3 a4 a5 a6 a7 : Value} {W : World} (h : MZ T a0 a1 a2 a3 a4 a5 a6 a7 W) (b0 b1 b2 b3 b4 b5 b6 b7 : Value) :
    ∃ W', ((((((((W.setCell ⟨T, 0, none⟩ b0).setCell ⟨T, 1, none⟩ b1).setCell ⟨T, 2, none⟩ b2).setCell ⟨T, 3, none⟩ b3).setCell ⟨T, 4, none⟩ b4).setCell ⟨T, 5, none⟩ b5).setCell ⟨T, 6, none⟩ b6).setCell ⟨T, 7, none⟩ b7) = W' ∧ MZ T b0 b1 b2 b3 b4 b5 b6 b7 W' ∧ Keeps (fun k => k ≠ T) W W' := by
  refine ⟨_, rfl, ?_, ?_⟩
  · refine (setCell_heap_same (setCell_heap_same (setCell_heap_same (setCell_heap_same (setCell_heap_same (setCell_heap_same (setCell_heap_same (setCell_heap_same h)))))))).trans ?_
    simp
  · exact (((((((((Keeps.refl _ _).setCell (Or.inr (by simp)) _).setCell (Or.inr (by simp)) _).setCell (Or.inr (by simp)) _).setCell (Or.inr (by simp)) _).setCell (Or.inr (by simp)) _).setCell (Or.inr (by simp)) _).setCell (Or.inr (by simp)) _).setCell (Or.inr (by simp)) _)
theorem set8_cell {W : World} {T b o : Nat} {x b0 b1 b2 b3 b4 b5 b6 b7 : Value} (h : W.cell? ⟨b, o, none⟩ = some x) (hne : b ≠ T) :
    ((((((((W.setCell ⟨T, 0, none⟩ b0).setCell ⟨T, 1, none⟩ b1).setCell ⟨T, 2, none⟩ b2).setCell ⟨T, 3, none⟩ b3).setCell ⟨T, 4, none⟩ b4).setCell ⟨T, 5, none⟩ b5).setCell ⟨T, 6, none⟩ b6).setCell ⟨T, 7, none⟩ b7).cell? ⟨b, o, none⟩ = some x :=
  (Keeps.cell (K := fun k => k ≠ T) (((((((((Keeps.refl _ W).setCell (Or.inr (by simp)) _).setCell (Or.inr (by simp)) _).setCell (Or.inr (by simp)) _).setCell (Or.inr (by simp)) _).setCell (Or.inr (by simp)) _).setCell (Or.inr (by simp)) _).setCell (Or.inr (by simp)) _).setCell (Or.inr (by simp)) _) (World.lt_of_cell h) hne).trans h
theorem cell_set_ne {W : World} {b o T i : Nat} {x v : Value} (hne : b ≠ T) (h : W.cell? ⟨b, o, none⟩ = some x) : (W.setCell ⟨T, i, none⟩ v).cell? ⟨b, o, none⟩ = some x :=
  (Keeps.cell (K := fun k => k ≠ T) ((Keeps.refl _ W).setCell (Or.inr (by simp)) _) (World.lt_of_cell h) hne).trans h
theorem cell_drew {W : World} {b o : Nat} {x : Value} (h : W.cell? ⟨b, o, none⟩ = some x) : W.drew.cell? ⟨b, o, none⟩ = some x := h
theorem cell_alloc {W : World} {b o : Nat} {x : Value} {ob : Obj} (h : W.cell? ⟨b, o, none⟩ = some x) : (W.alloc ob).cell? ⟨b, o, none⟩ = some x := cellB (below_alloc _ _) h
/-- a tier's rows, made in one world, read in a later one in which one block more was written. -/
theorem TFr.fin {B T : Nat} {wa W W' : World} {vA vD : Value} {t : Tr} (h : TFr B wa vA vD t) (hb : Below wa.heap.size wa W) (hk : Keeps (fun k => k ≠ T) W W') (hT : T < B ∨ wa.heap.size ≤ T) : TFr B W' vA vD t := by
  rcases hT with hT | hT
  · exact ⟨(h.a.below hb).keepK hk (fun k hk => by omega), (h.d.below hb).keepK hk (fun k hk => by omega)⟩
  · exact h.below (bel_keep hb hk (fun k hk => by omega))
/-- a merge all of whose rows lie in blocks of the call's own. -/
structure MFr (B : Nat) (w : World) (oA oD nA nD uA uD : Value) (m : Mg) : Prop where
  o : TFr B w oA oD m.older
  n : TFr B w nA nD m.newer
  u : TFr B w uA uD m.out
theorem MFr.is {B : Nat} {w : World} {oA oD nA nD uA uD : Value} {m : Mg} (h : MFr B w oA oD nA nD uA uD m) : MIs w oA oD nA nD uA uD m := ⟨h.o.pair, h.n.pair, h.u.pair⟩
theorem MFr.below {B : Nat} {w w' : World} {oA oD nA nD uA uD : Value} {m : Mg} (h : MFr B w oA oD nA nD uA uD m) (hb : Below w.heap.size w w') : MFr B w' oA oD nA nD uA uD m := ⟨h.o.below hb, h.n.below hb, h.u.below hb⟩
theorem MFr.weaken {B B' : Nat} {w : World} {oA oD nA nD uA uD : Value} {m : Mg} (h : MFr B w oA oD nA nD uA uD m) (hB : B' ≤ B) : MFr B' w oA oD nA nD uA uD m := ⟨h.o.weaken hB, h.n.weaken hB, h.u.weaken hB⟩
def mg0 : Mg := ⟨([], []), ([], []), false, 0, ([], [])⟩
/-- how a merge begins. -/
def beginL (t u : Tr) (ob : Bool) : Mg × Int := if [t, u].all oneL then (⟨t, u, ob, 0, ([], [])⟩, 0) else (mg0, 210)
/-- behind the two tiers' copies. -/
structure BC (w : World) (t u : Tr) (ob : Bool) (T : Nat) (vA vD uA uD : Value) (W : World) : Prop where
  below : Below w.heap.size w W
  hz : M0 (w.heap.size + 1 + 1) W
  hT : MZ T vA vD uA uD (.bool ob) (.int .i64 0) (.slice none 0 0) (.slice none 0 0) W
  ft : TFr (w.heap.size + 1 + 1 + 1) W vA vD t
  fu : TFr (w.heap.size + 1 + 1 + 1) W uA uD u

/-- Begin's three boxes. -/
structure BI (w : World) (vA vD uA uD : Value) (W : World) : Prop where
  below : Below w.heap.size w W
  b0 : Vx w.heap.size vA vD W
  b1 : Vx (w.heap.size + 1) uA uD W
  hz : M0 (w.heap.size + 1 + 1) W
theorem BI.keep {w : World} {vA vD uA uD : Value} {W W' : World} (h : BI w vA vD uA uD W) (B : Below W.heap.size W W') : BI w vA vD uA uD W' := ⟨bel_step h.below B, h.b0.keep B, h.b1.keep B, h.hz.keep B⟩
theorem BI.new (w : World) (vA vD uA uD : Value) : BI w vA vD uA uD (((w.alloc (.cells #[vA, vD] 24)).alloc (.cells #[uA, uD] 24)).alloc (.cells #[.slice none 0 0, .slice none 0 0, .slice none 0 0, .slice none 0 0, .bool false, .int .i64 0, .slice none 0 0, .slice none 0 0] 26)) := by
  refine ⟨?_, ?_, ?_, ?_⟩
  · show Below _ _ _
    repeat' (first | exact Below.refl _ _ | with_reducible refine Below.alloc ?_ ?_ _ | with_reducible refine Below.setCell ?_ ?_ _ | with_reducible refine Below.drew ?_ | with_reducible refine below_drewN ?_ _ | refine Below.trans ?_ (Below.mono (by assumption) ?_))
    all_goals (first | omega | (simp <;> omega))
  · exact ((Vx.new _ _ _ _).keep (below_alloc _ _)).keep (below_alloc _ _)
  · have := (Vx.new (w.alloc (.cells #[vA, vD] 24)) uA uD 24).keep (below_alloc _ (.cells #[.slice none 0 0, .slice none 0 0, .slice none 0 0, .slice none 0 0, .bool false, .int .i64 0, .slice none 0 0, .slice none 0 0] 26))
    simpa only [World.size_alloc] using this
  · have := MZ.new ((w.alloc (.cells #[vA, vD] 24)).alloc (.cells #[uA, uD] 24)) (.slice none 0 0) (.slice none 0 0) (.slice none 0 0) (.slice none 0 0) (.bool false) (.int .i64 0) (.slice none 0 0) (.slice none 0 0)
    simpa only [World.size_alloc] using this

theorem BC.of_set {w W wa wb : World} {t u : Tr} {ob : Bool} {T B1 B2 : Nat} {x1 x2 x3 x4 z0 z1 z2 z3 z4 z5 z6 z7 a b c d : Value} (hT : MZ T z0 z1 z2 z3 z4 z5 z6 z7 W) (st : BI w a b c d W)
    (r1 : TFr B1 wa x1 x2 t) (e1 : Below wa.heap.size wa W) (r2 : TFr B2 wb x3 x4 u) (e2 : Below wb.heap.size wb W) (b1 : w.heap.size + 1 + 1 + 1 ≤ B1) (b2 : w.heap.size + 1 + 1 + 1 ≤ B2) (t1 : T < B1 ∨ wa.heap.size ≤ T) (t2 : T < B2 ∨ wb.heap.size ≤ T) (nT : w.heap.size + 1 + 1 < T) :
    BC w t u ob T x1 x2 x3 x4 ((((((((W.setCell ⟨T, 0, none⟩ x1).setCell ⟨T, 1, none⟩ x2).setCell ⟨T, 2, none⟩ x3).setCell ⟨T, 3, none⟩ x4).setCell ⟨T, 4, none⟩ (.bool ob)).setCell ⟨T, 5, none⟩ (.int .i64 0)).setCell ⟨T, 6, none⟩ (.slice none 0 0)).setCell ⟨T, 7, none⟩ (.slice none 0 0)) := by
  obtain ⟨W2, hW2, m2, k2⟩ := MZ.set hT x1 x2 x3 x4 (.bool ob) (.int .i64 0) (.slice none 0 0) (.slice none 0 0)
  rw [hW2]
  exact ⟨bel_keep st.below k2 (fun k hk => by omega), st.hz.keepK k2 (by omega), m2, (r1.fin e1 k2 t1).weaken b1, (r2.fin e2 k2 t2).weaken b2⟩
theorem BC.of_alloc {w W wa wb : World} {t u : Tr} {ob : Bool} {B1 B2 : Nat} {x1 x2 x3 x4 a b c d : Value} (st : BI w a b c d W)
    (r1 : TFr B1 wa x1 x2 t) (e1 : Below wa.heap.size wa W) (r2 : TFr B2 wb x3 x4 u) (e2 : Below wb.heap.size wb W) (b1 : w.heap.size + 1 + 1 + 1 ≤ B1) (b2 : w.heap.size + 1 + 1 + 1 ≤ B2) :
    BC w t u ob W.heap.size x1 x2 x3 x4 (W.alloc (.cells #[x1, x2, x3, x4, .bool ob, .int .i64 0, .slice none 0 0, .slice none 0 0] 26)) :=
  ⟨bel_step st.below (below_alloc _ _), st.hz.keep (below_alloc _ _), MZ.new _ _ _ _ _ _ _ _ _, (r1.below (bel_step e1 (below_alloc _ _))).weaken b1, (r2.below (bel_step e2 (below_alloc _ _))).weaken b2⟩

set_option maxRecDepth 100000 in
set_option maxHeartbeats 4000000 in
theorem pbegin_any (tA tD uA uD : Value) (t u : Tr) (ob : Bool) (w : World) (h : TPair w tA tD t) (h' : TPair w uA uD u) (l1 : t.1.length ≤ 200000) (l2 : t.2.length ≤ 200000) (l3 : u.1.length ≤ 200000) (l4 : u.2.length ≤ 200000) :
    Calls Try.prog 36 #[.agg #[tA, tD], .agg #[uA, uD], .bool ob] w fun e w' => (∃ oA oD nA nD vA vD, e = .returned (.tuple #[mval oA oD nA nD vA vD (beginL t u ob).1.oldest (beginL t u ob).1.at_, (.int .i64 ((beginL t u ob).2))]) ∧ MFr w.heap.size w' oA oD nA nD vA vD (beginL t u ob).1) ∧ Below w.heap.size w w' := by
  obtain ⟨p0, c0, rfl⟩ := h.1.form
  obtain ⟨p1, c1, rfl⟩ := h.2.form
  obtain ⟨p2, c2, rfl⟩ := h'.1.form
  obtain ⟨p3, c3, rfl⟩ := h'.2.form
  have TC := hid (fun (W : World) (v : Value) (hT : TRow W v [t, u]) => tcheck_any v [t, u] W hT (by intro t ht; simp only [List.mem_cons, List.not_mem_nil, or_false] at ht; rcases ht with rfl | rfl <;> omega) (by simp))
  have HT := hid (fun (W : World) (B : Below w.heap.size w W) (g : Nat) (a0 : W.cell? ⟨g, 0, none⟩ = _) (a1 : W.cell? ⟨g, 1, none⟩ = _) (a2 : W.cell? ⟨g, 2, none⟩ = _) (a3 : W.cell? ⟨g, 3, none⟩ = _) => TRow.of2 a0 a1 a2 a3 (h.below B) (h'.below B))
  have O1 := hid (fun (W : World) (B : Below w.heap.size w W) => powntier_any _ _ t W (h.below B) (by omega) (by omega))
  have O2 := hid (fun (W : World) (B : Below w.heap.size w W) => powntier_any _ _ u W (h'.below B) (by omega) (by omega))
  have LL := hid (And.intro l1 (And.intro l2 (And.intro l3 l4)))
  clear h h' l1 l2 l3 l4
  unfold mval
  obtain ⟨a, b, hE⟩ : ∃ a b, beginL t u ob = (a, b) := ⟨_, _, rfl⟩
  rw [hE]
  have HE := hid hE; clear hE
  unfold beginL at HE
  simp only
  have st := hid ((BI.new w (.slice p0 t.1.length c0) (.slice p1 t.2.length c1) (.slice p2 u.1.length c2) (.slice p3 u.2.length c3)).keep (below_alloc _ (.cells #[.slice p0 t.1.length c0, .slice p1 t.2.length c1, .slice p2 u.1.length c2, .slice p3 u.2.length c3] 24)))
  cases hT : [t, u].all oneL
  · rw [hT] at TC HE
    obtain ⟨rfl, rfl⟩ : a = mg0 ∧ b = 210 := by have := HE.out; simp at this; exact ⟨this.1.symm, this.2.symm⟩
    clear hT HE O1 O2 LL
    go_enter Try.func36, Try.ntmps36
    go_wp2_with fail
    refine (TC.out _ _ (HT.out _ st.out.below _ (by go_simp) (by go_simp) (by go_simp) (by go_simp))).mono ?_
    rintro e w1 ⟨rfl, B⟩
    replace st := hid (st.out.keep B)
    clear B TC HT
    obtain ⟨z0, z1, z2, z3, z4, z5, z6, z7, z8⟩ := st.out.hz.cells
    obtain ⟨f0, f1, f2, f3, f4, f5, f6, f7⟩ := st.out.hz.free
    go_wp2_with fail
    obtain ⟨W2, hW2, m2, k2⟩ := st.out.hz.set (.slice none 0 0) (.slice none 0 0) (.slice none 0 0) (.slice none 0 0) (.bool false) (.int .i64 0) (.slice none 0 0) (.slice none 0 0)
    rw [hW2]
    clear z0 z1 z2 z3 z4 z5 z6 z7 z8 hW2
    obtain ⟨z0, z1, z2, z3, z4, z5, z6, z7, z8⟩ := m2.cells
    exact ⟨rfl, .tuple #[.agg #[.slice none 0 0, .slice none 0 0, .slice none 0 0, .slice none 0 0, .bool false, .int .i64 0, .slice none 0 0, .slice none 0 0], (.int .i64 (210))], by simp [results, Try.results36, go_sem, z0, z1, z2, z3, z4, z5, z6, z7], ⟨_, _, _, _, _, _, rfl, TFr.nil _ _, TFr.nil _ _, TFr.nil _ _⟩, bel_keep st.out.below k2 (fun k hk => by omega)⟩
  · rw [hT] at TC HE
    obtain ⟨ht, hu⟩ : oneL t = true ∧ oneL u = true := by simpa using hT
    obtain ⟨rfl, rfl⟩ : a = ⟨t, u, ob, 0, ([], [])⟩ ∧ b = 0 := by have := HE.out; simp at this; exact ⟨this.1.symm, this.2.symm⟩
    clear hT HE
    go_enter Try.func36, Try.ntmps36
    go_wp2_with fail
    refine (TC.out _ _ (HT.out _ st.out.below _ (by go_simp) (by go_simp) (by go_simp) (by go_simp))).mono ?_
    rintro e w1 ⟨rfl, B⟩
    replace st := hid (st.out.keep B)
    clear B TC HT
    go_upto_region 4 with fail
    have st1 := st.out
    replace st : BI w (.slice p0 t.1.length c0) (.slice p1 t.2.length c1) (.slice p2 u.1.length c2) (.slice p3 u.2.length c3) w1.drew := st.out.keep (below_drew _)
    go_cut [9] (fun s9 wc => ∃ (T : Nat) (v1 v2 v3 v4 : Value), s9 = .pointer (some ⟨T, 0, none⟩) ∧ Hid (BC w t u ob T v1 v2 v3 v4 wc))
    case first =>
      have hb := st.below
      have l1 : w.heap.size + 1 + 1 < w1.heap.size := ltH st.hz
      have l2 : w.heap.size + 1 + 1 < w1.drew.heap.size := ltH st.hz
      obtain ⟨z0, z1, z2⟩ := st.b0
      obtain ⟨y0, y1, y2⟩ := st.b1
      go_region_held3 (fun W => W.cell? ⟨w.heap.size, 0, none⟩ = some (.slice p0 t.1.length c0) ∧ W.cell? ⟨w.heap.size, 1, none⟩ = some (.slice p1 t.2.length c1) ∧ W.cell? ⟨w.heap.size + 1, 0, none⟩ = some (.slice p2 u.1.length c2) ∧ W.cell? ⟨w.heap.size + 1, 1, none⟩ = some (.slice p3 u.2.length c3)) (first | (refine ⟨?_, ?_, ?_, ?_⟩ <;> (repeat' (first | with_reducible exact st.b0.1 | with_reducible exact st.b0.2.1 | with_reducible exact st.b1.1 | with_reducible exact st.b1.2.1 | with_reducible refine cell_set_ne (by omega) ?_ | with_reducible refine cell_alloc ?_ | with_reducible refine cell_drew ?_ | with_reducible exact st1.b0.1 | with_reducible exact st1.b0.2.1 | with_reducible exact st1.b1.1 | with_reducible exact st1.b1.2.1))))
        (first | (go_at_call 100; (refine (O1.out _ (by first | with_reducible exact hb | exact (st1.below.alloc st1.below.size _).drew)).mono ?_); rintro e wa ⟨⟨v1, v2, rfl, r1⟩, B⟩; (first | (have st := st.keep B) | (have hT := (MZ.new w1 (.slice none 0 0) (.slice none 0 0) (.slice none 0 0) (.slice none 0 0) (.bool false) (.int .i64 0) (.slice none 0 0) (.slice none 0 0)).keep (undrew B); have st := (st1.keep (below_alloc _ _)).keep (undrew B))); have hb := st.below; have e1 := Below.refl wa.heap.size wa; have i1 : w.heap.size + 1 + 1 < wa.heap.size := ltH st.hz; obtain ⟨q0, d0, rfl⟩ := r1.a.1.form; obtain ⟨q1, d1, rfl⟩ := r1.d.1.form; clear O1; have z1 := B.size; clear B) | (go_at_call 100; (refine (O2.out _ (by first | exact hb | exact hb.alloc hb.size _)).mono ?_); rintro e wb ⟨⟨v3, v4, rfl, r2⟩, B⟩; (first | (have hT := hT.keep B) | (have hT := (MZ.new wa (.slice none 0 0) (.slice none 0 0) (.slice none 0 0) (.slice none 0 0) (.bool false) (.int .i64 0) (.slice none 0 0) (.slice none 0 0)).keep B) | skip); (first | (have st := st.keep B) | (have st := (st.keep (below_alloc _ _)).keep B)); (first | (have e1 := bel_step e1 B) | (have e1 := bel_step (bel_step e1 (below_alloc _ _)) B)); have hb := st.below; have e2 := Below.refl wb.heap.size wb; have j1 : w.heap.size + 1 + 1 < wb.heap.size := ltH st.hz; (try obtain ⟨h0, h1, h2, h3, h4, h5, h6, h7, h8⟩ := hT.cells); (try obtain ⟨g0, g1, g2, g3, g4, g5, g6, g7⟩ := hT.free); obtain ⟨q2, d2, rfl⟩ := r2.a.1.form; obtain ⟨q3, d3, rfl⟩ := r2.d.1.form; clear O2; have z2 := B.size; clear B))
      all_goals
        go_wp2_with fail
        go_meet
        have n1 := ltH st.hz
        try simp at z1
        try simp at z2
        first
          | (have F := hid (BC.of_alloc (ob := ob) st r1 e1 r2 e2 (by first | omega | (simp <;> omega)) (by first | omega | (simp <;> omega))); exact ⟨_, _, _, _, _, rfl, F⟩)
          | (have F := hid (BC.of_set (ob := ob) hT st r1 e1 r2 e2 (by first | omega | (simp <;> omega)) (by first | omega | (simp <;> omega)) (by first | omega | (simp <;> omega)) (by first | omega | (simp <;> omega)) (by first | omega | (simp <;> omega))); exact ⟨_, _, _, _, _, rfl, F⟩)
    case rest =>
      obtain ⟨T, v1, v2, v3, v4, rfl, PC⟩ := hcut
      clear st st1 O1 O2
      obtain ⟨q0, d0, rfl⟩ := PC.out.ft.a.1.form
      obtain ⟨q1, d1, rfl⟩ := PC.out.ft.d.1.form
      obtain ⟨q2, d2, rfl⟩ := PC.out.fu.a.1.form
      obtain ⟨q3, d3, rfl⟩ := PC.out.fu.d.1.form
      obtain ⟨z0, z1, z2, z3, z4, z5, z6, z7, z8⟩ := PC.out.hT.cells
      go_wp2_with fail
      have PP := ppairs_any (.slice q0 t.1.length d0) (.slice q1 t.2.length d1) (.slice q2 u.1.length d2) (.slice q3 u.2.length d3) (.slice none 0 0) (.slice none 0 0) ⟨t, u, ob, 0, ([], [])⟩ wc ⟨PC.out.ft.pair, PC.out.fu.pair, ⟨PRow.nil _, PRow.nil _⟩⟩ LL.out
      rw [oneL_pairs ht hu] at PP
      unfold mval at PP
      refine PP.mono ?_
      rintro e w3 ⟨⟨v, rfl, own⟩, B⟩
      obtain ⟨pv, kv, rfl⟩ := own.row.form
      have PL : Hid ((pairsL t u).length ≤ 800000) := by
        have := pairsL_len t u; obtain ⟨h1, h2, h3, h4⟩ := LL.out; show _ ≤ _; omega
      clear PP own z0 z1 z2 z3 z4 z5 z6 z7 z8
      have PC3 : Hid (BC w t u ob T (.slice q0 t.1.length d0) (.slice q1 t.2.length d1) (.slice q2 u.1.length d2) (.slice q3 u.2.length d3) w3) := ⟨bel_step PC.out.below B, PC.out.hz.keep B, PC.out.hT.keep B, PC.out.ft.below B, PC.out.fu.below B⟩
      clear PC B
      obtain ⟨z0, z1, z2, z3, z4, z5, z6, z7, z8⟩ := PC3.out.hT.cells
      obtain ⟨y0, y1, y2, y3, y4, y5, y6, y7, y8⟩ := PC3.out.hz.cells
      obtain ⟨f0, f1, f2, f3, f4, f5, f6, f7⟩ := PC3.out.hz.free
      generalize (pairsL t u).length = N at *
      have g1 : ¬ ((1048576 : Int) < (N : Int)) := by have := PL.out; omega
      have g2 : ¬ (1048576 < N) := by have := PL.out; omega
      go_wp2_with fail
      obtain ⟨W2, hW2, m2, k2⟩ := PC3.out.hz.set (.slice q0 t.1.length d0) (.slice q1 t.2.length d1) (.slice q2 u.1.length d2) (.slice q3 u.2.length d3) (.bool ob) (.int .i64 0) (.slice none 0 0) (.slice none 0 0)
      rw [hW2]
      clear z0 z1 z2 z3 z4 z5 z6 z7 z8 hW2 y0 y1 y2 y3 y4 y5 y6 y7 y8
      obtain ⟨z0, z1, z2, z3, z4, z5, z6, z7, z8⟩ := m2.cells
      exact ⟨rfl, .tuple #[.agg #[.slice q0 t.1.length d0, .slice q1 t.2.length d1, .slice q2 u.1.length d2, .slice q3 u.2.length d3, .bool ob, .int .i64 0, .slice none 0 0, .slice none 0 0], (.int .i64 (0))], by simp [results, Try.results36, go_sem, z0, z1, z2, z3, z4, z5, z6, z7], ⟨_, _, _, _, _, _, rfl, ⟨(PC3.out.ft.a.keepK k2 (fun k hk => by omega)).weaken (by omega), (PC3.out.ft.d.keepK k2 (fun k hk => by omega)).weaken (by omega)⟩, ⟨(PC3.out.fu.a.keepK k2 (fun k hk => by omega)).weaken (by omega), (PC3.out.fu.d.keepK k2 (fun k hk => by omega)).weaken (by omega)⟩, TFr.nil _ _⟩, bel_keep PC3.out.below k2 (fun k hk => by omega)⟩
end Go.Proofs.Ytlkdkhmdmgchbaa
