/- the law MergeSteps: its walk. -/
import Derived.Test.YtlkdkhmdmgchbaaH22
import Derived.Test.YtlkdkhmdmgchbaaF14
import Derived.Test.YtlkdkhmdmgchbaaF12
namespace Go.Proofs.Ytlkdkhmdmgchbaa
set_option linter.unusedSimpArgs false
set_option linter.unusedVariables false
open Go.RowKit

/-- the slice reads as these numbers. -/
def IRow (w : World) (v : Value) (l : List Int) : Prop :=
  ∃ p cap, v = .slice p l.length cap ∧ (l.length : Int) ≤ 9223372036854775807 ∧ (0 < l.length → ∃ g o : Nat, p = some ⟨g, o, none⟩ ∧ ∀ j x, l[j]? = some x → w.cell? ⟨g, o + j, none⟩ = some (.int .i64 (x)))
theorem IRow.below {w w' : World} {v : Value} {l : List Int} (h : IRow w v l) (hb : Below w.heap.size w w') : IRow w' v l := by
  obtain ⟨p, cap, e, h1, h3⟩ := h
  refine ⟨p, cap, e, h1, fun hl => ?_⟩
  obtain ⟨g, o, e, h3⟩ := h3 hl
  exact ⟨g, o, e, fun j x hj => cellB hb (h3 j x hj)⟩
theorem IRow.form {w : World} {v : Value} {l : List Int} (h : IRow w v l) : ∃ p cap, v = .slice p l.length cap := by
  obtain ⟨p, cap, e, _⟩ := h
  exact ⟨p, cap, e⟩
theorem IRow.len {w : World} {v : Value} {l : List Int} (h : IRow w v l) : (l.length : Int) ≤ 9223372036854775807 := by
  obtain ⟨p, cap, e, h1, _⟩ := h
  exact h1
theorem IRow.at {w : World} {p : Option Addr} {n c : Nat} {l : List Int} (h : IRow w (.slice p n c) l) (k : Nat) (hk : k < l.length) : ∃ g o : Nat, p = some ⟨g, o, none⟩ ∧ w.cell? ⟨g, o + k, none⟩ = some (.int .i64 (l[k])) := by
  obtain ⟨p', cap, e, h1, h3⟩ := h
  simp only [Value.slice.injEq] at e
  obtain ⟨rfl, -, -⟩ := e
  obtain ⟨g, o, e, h3⟩ := h3 (by omega)
  exact ⟨g, o, e, h3 k _ (List.getElem?_eq_getElem hk)⟩

/-- a merge that can be gone through as it is. -/
def Mg.fits (m : Mg) : Prop := (m.older.1.length ≤ 24 ∧ m.older.2.length ≤ 24) ∧ (m.newer.1.length ≤ 24 ∧ m.newer.2.length ≤ 24) ∧ m.out.1.length ≤ 100 ∧ m.out.2.length ≤ 100
theorem mown_fits (m : Mg) : (mown m).fits := by
  unfold mown Mg.fits
  simp only [List.length_take]
  omega
theorem mown_same {m : Mg} (h : m.fits) : mown m = m := by
  obtain ⟨⟨a, b⟩, ⟨c, d⟩, e, f⟩ := h
  unfold mown
  rw [List.take_of_length_le a, List.take_of_length_le b, List.take_of_length_le c, List.take_of_length_le d, List.take_of_length_le e, List.take_of_length_le f]
theorem Mg.fits.small {m : Mg} (h : m.fits) : m.small := by
  obtain ⟨⟨a, b⟩, ⟨c, d⟩, e, f⟩ := h
  unfold Mg.small
  omega

theorem lown_is (oA oD nA nD uA uD : Value) (m : Mg) (w : World) (h : MIs w oA oD nA nD uA uD m) :
    Calls Try.prog 25 #[mval oA oD nA nD uA uD m.oldest m.at_] w fun e w' => (∃ oA' oD' nA' nD' vA vD, e = .returned (mval oA' oD' nA' nD' vA vD (mown m).oldest (mown m).at_) ∧ MFr w.heap.size w' oA' oD' nA' nD' vA vD (mown m)) ∧ Below w.heap.size w w' := lown_any oA oD nA nD uA uD m w h
/-- the loop's merge, in its box. -/
structure LI (w : World) (T : Nat) (W : World) : Prop where
  below : Below w.heap.size w W
  lo : w.heap.size ≤ T
  m : ∃ (m : Mg) (a0 a1 a2 a3 a4 a5 : Value), MZ T a0 a1 a2 a3 (.bool m.oldest) (.int .i64 m.at_) a4 a5 W ∧ MFr w.heap.size W a0 a1 a2 a3 a4 a5 m ∧ m.fits

/-- behind what is wanted of a step, and of the end. -/
structure CS (We : World) (T14 T15 : Nat) (ga : Mg) (ea : Tr) (W : World) : Prop where
  below : Below We.heap.size We W
  want : ∃ a0 a1 a2 a3 a4 a5, MZ T14 a0 a1 a2 a3 (.bool ga.oldest) (.int .i64 ga.at_) a4 a5 W ∧ MIs W a0 a1 a2 a3 a4 a5 ga
  fin : ∃ x y, Vx T15 x y W ∧ TPair W x y ea
theorem CS.keep {We : World} {T14 T15 : Nat} {ga : Mg} {ea : Tr} {W W' : World} (h : CS We T14 T15 ga ea W) (B : Below W.heap.size W W') : CS We T14 T15 ga ea W' := by
  obtain ⟨a0, a1, a2, a3, a4, a5, z, m⟩ := h.want
  obtain ⟨x, y, b, p⟩ := h.fin
  exact ⟨bel_step h.below B, ⟨a0, a1, a2, a3, a4, a5, z.keep B, m.below B⟩, ⟨x, y, b.keep B, p.below B⟩⟩
theorem mis0 (W : World) : MIs W (.slice none 0 0) (.slice none 0 0) (.slice none 0 0) (.slice none 0 0) (.slice none 0 0) (.slice none 0 0) mg0 := ⟨⟨PRow.nil _, PRow.nil _⟩, ⟨PRow.nil _, PRow.nil _⟩, ⟨PRow.nil _, PRow.nil _⟩⟩
theorem PRow.keepNot {T : Nat} {w w' : World} {v : Value} {l : List Pr} {c : Array Value} {t : TypeId} {fz : Nat × Nat} (h : PRow w v l) (hT : w.heap[T]? = some (.cells c t fz)) (hc : ∀ (i : Nat) (x : Int), c[i]? ≠ some (.int .u64 (x))) (hk : Keeps (fun k => k ≠ T) w w') : PRow w' v l := by
  obtain ⟨p, cap, e, h1, h2, h4, h3⟩ := h
  refine ⟨p, cap, e, h1, h2, h4, fun hl => ?_⟩
  obtain ⟨g, o, e, h3⟩ := h3 hl
  refine ⟨g, o, e, fun j x hj => ?_⟩
  obtain ⟨c0, c1⟩ := h3 j x hj
  have hg : g ≠ T := fun e => by
    subst e
    rw [cellH hT] at c0
    exact hc _ _ c0
  exact ⟨(hk.cell (World.lt_of_cell c0) hg).trans c0, (hk.cell (World.lt_of_cell c1) hg).trans c1⟩
theorem TPair.keepNot {T : Nat} {w w' : World} {x y : Value} {p : Tr} {c : Array Value} {t : TypeId} {fz : Nat × Nat} (h : TPair w x y p) (hT : w.heap[T]? = some (.cells c t fz)) (hc : ∀ (i : Nat) (x : Int), c[i]? ≠ some (.int .u64 (x))) (hk : Keeps (fun k => k ≠ T) w w') : TPair w' x y p := ⟨h.1.keepNot hT hc hk, h.2.keepNot hT hc hk⟩
theorem MIs.keepNot {T : Nat} {w w' : World} {a0 a1 a2 a3 a4 a5 : Value} {m : Mg} {c : Array Value} {t : TypeId} {fz : Nat × Nat} (h : MIs w a0 a1 a2 a3 a4 a5 m) (hT : w.heap[T]? = some (.cells c t fz)) (hc : ∀ (i : Nat) (x : Int), c[i]? ≠ some (.int .u64 (x))) (hk : Keeps (fun k => k ≠ T) w w') : MIs w' a0 a1 a2 a3 a4 a5 m := ⟨h.o.keepNot hT hc hk, h.n.keepNot hT hc hk, h.u.keepNot hT hc hk⟩
/-- a tier's box that is empty, whole. -/
def ZH (T : Nat) (W : World) : Prop := W.heap[T]? = some (.cells #[.slice none 0 0, .slice none 0 0] 24 (0, 0))
theorem ZH.keep {T : Nat} {W W' : World} (h : ZH T W) (B : Below W.heap.size W W') : ZH T W' := (B.block _ (ltH h)).trans h
theorem ZH.keepK {K : Nat → Prop} {T : Nat} {W W' : World} (h : ZH T W) (k : Keeps K W W') (hT : K T) : ZH T W' := (k.block _ (ltH h) hT).trans h
theorem ZH.zt {T : Nat} {W : World} (h : ZH T W) : ZT T W := ⟨(cellH h).trans rfl, (cellH h).trans rfl, freeH h, freeH h, ltH h⟩
theorem ZH.new (W : World) : ZH W.heap.size (W.alloc (.cells #[.slice none 0 0, .slice none 0 0] 24)) := heap_here rfl
theorem no64_tier : ∀ (i : Nat) (x : Int), (#[.slice none 0 0, .slice none 0 0] : Array Value)[i]? ≠ some (.int .u64 (x)) := by
  intro i x h
  match i, h with
  | 0, h => simp at h
  | 1, h => simp at h
  | i + 2, h => simp at h
theorem no64_merge : ∀ (i : Nat) (x : Int), (#[.slice none 0 0, .slice none 0 0, .slice none 0 0, .slice none 0 0, .bool false, .int .i64 0, .slice none 0 0, .slice none 0 0] : Array Value)[i]? ≠ some (.int .u64 (x)) := by
  intro i x h
  match i, h with
  | 0, h => simp at h
  | 1, h => simp at h
  | 2, h => simp at h
  | 3, h => simp at h
  | 4, h => simp at h
  | 5, h => simp at h
  | 6, h => simp at h
  | 7, h => simp at h
  | i + 8, h => simp at h
/-- while what is wanted is found. -/
structure CW (We : World) (T14 T15 : Nat) (W : World) : Prop where
  below : Below We.heap.size We W
  z : M0 T14 W
  t : ZH T15 W
theorem CW.keep {We : World} {T14 T15 : Nat} {W W' : World} (h : CW We T14 T15 W) (B : Below W.heap.size W W') : CW We T14 T15 W' := ⟨bel_step h.below B, h.z.keep B, h.t.keep B⟩
/-- behind the wanted merge. -/
structure CV (We : World) (T14 T15 : Nat) (ga : Mg) (W : World) : Prop where
  below : Below We.heap.size We W
  want : ∃ a0 a1 a2 a3 a4 a5, MZ T14 a0 a1 a2 a3 (.bool ga.oldest) (.int .i64 ga.at_) a4 a5 W ∧ MIs W a0 a1 a2 a3 a4 a5 ga
  t : ZH T15 W
theorem CW.cv {We : World} {T14 T15 : Nat} {W : World} (h : CW We T14 T15 W) : CV We T14 T15 mg0 W := ⟨h.below, ⟨_, _, _, _, _, _, h.z, mis0 W⟩, h.t⟩
theorem CW.set {We : World} {T14 T15 : Nat} {W : World} {ga : Mg} {a0 a1 a2 a3 a4 a5 : Value} (h : CW We T14 T15 W) (m : MIs W a0 a1 a2 a3 a4 a5 ga) (h1 : We.heap.size ≤ T14) (h2 : T15 ≠ T14) :
    CV We T14 T15 ga ((((((((W.setCell ⟨T14, 0, none⟩ a0).setCell ⟨T14, 1, none⟩ a1).setCell ⟨T14, 2, none⟩ a2).setCell ⟨T14, 3, none⟩ a3).setCell ⟨T14, 4, none⟩ (.bool ga.oldest)).setCell ⟨T14, 5, none⟩ (.int .i64 ga.at_)).setCell ⟨T14, 6, none⟩ a4).setCell ⟨T14, 7, none⟩ a5) := by
  obtain ⟨W2, hW2, m2, k2⟩ := h.z.set a0 a1 a2 a3 (.bool ga.oldest) (.int .i64 ga.at_) a4 a5
  rw [hW2]
  exact ⟨bel_keep h.below k2 (fun k hk => by omega), ⟨_, _, _, _, _, _, m2, m.keepNot h.z no64_merge k2⟩, h.t.keepK k2 h2⟩
theorem CV.no {We : World} {T14 T15 : Nat} {ga : Mg} {W : World} (h : CV We T14 T15 ga W) : CS We T14 T15 ga ([], []) W :=
  ⟨h.below, h.want, ⟨_, _, ⟨h.t.zt.1, h.t.zt.2.1, ltH h.t⟩, PRow.nil _, PRow.nil _⟩⟩
theorem CV.only {We : World} {T14 T15 : Nat} {ga : Mg} {W : World} (h : CV We T14 T15 ga W) {ea : Tr} {x y : Value} (p : TPair We x y ea) (ht : We.heap.size ≤ T15) (hn : T14 ≠ T15) : CS We T14 T15 ga ea ((W.setCell ⟨T15, 0, none⟩ x).setCell ⟨T15, 1, none⟩ y) := by
  have k := set2_keeps W T15 x y
  obtain ⟨c0, c1⟩ := h.t.zt.set x y
  have hb := bel_keep h.below k (fun k hk => by omega)
  obtain ⟨a0, a1, a2, a3, a4, a5, z, m⟩ := h.want
  exact ⟨hb, ⟨_, _, _, _, _, _, z.keepK k hn, m.keepNot h.t no64_tier k⟩, ⟨_, _, ⟨c0, c1, by have := k.size; have := ltH h.t; omega⟩, p.below hb⟩⟩
theorem PFr.some' {B : Nat} {w w' : World} {p : Option Addr} {n c : Nat} {l : List Pr} (h : PFr B w (.slice p n c) l) (E : Nat) (hE : w.heap.size ≤ E) (hb : Below w.heap.size w w') : PSome B E w' p n := by
  obtain ⟨p', n', c', e, h⟩ := h.some E hE
  simp only [Value.slice.injEq] at e
  obtain ⟨rfl, rfl, -⟩ := e
  exact h.below hb
theorem PSome.nil {B E : Nat} {w : World} {p : Option Addr} : PSome B E w p 0 := fun h => by omega
theorem Vx.keepK {K : Nat → Prop} {T : Nat} {x y : Value} {W W' : World} (h : Vx T x y W) (k : Keeps K W W') (hT : K T) : Vx T x y W' :=
  ⟨(k.cell h.2.2 hT).trans h.1, (k.cell h.2.2 hT).trans h.2.1, by have := k.size; have := h.2.2; omega⟩
theorem blift2 {W W' : World} {o o' : Obj} (B : Below (W.heap.size + 1 + 1) ((W.alloc o).alloc o') W') : Below W.heap.size W W' := (bel_step (below_alloc W o) (below_alloc _ o')).trans (B.mono (by omega))
theorem TRow.new1 {w : World} {vA vD : Value} {t : Tr} (h : TPair w vA vD t) (ty : Nat) : TRow (w.alloc (.cells #[vA, vD] ty)) (.slice (some ⟨w.heap.size, 0, none⟩) 1 1) [t] :=
  TRow.of1 (by go_simp) (by go_simp) (h.below (below_alloc _ _))
theorem MFr.keepK {K : Nat → Prop} {B : Nat} {w w' : World} {a0 a1 a2 a3 a4 a5 : Value} {m : Mg} (h : MFr B w a0 a1 a2 a3 a4 a5 m) (hk : Keeps K w w') (hK : ∀ k, B ≤ k → K k) : MFr B w' a0 a1 a2 a3 a4 a5 m :=
  ⟨⟨h.o.a.keepK hk hK, h.o.d.keepK hk hK⟩, ⟨h.n.a.keepK hk hK, h.n.d.keepK hk hK⟩, ⟨h.u.a.keepK hk hK, h.u.d.keepK hk hK⟩⟩

set_option maxRecDepth 100000 in
set_option maxHeartbeats 4000000 in
theorem msteps_any (oA oD nA nD uA uD v : Value) (m : Mg) (l : List Int) (w : World) (h : MIs w oA oD nA nD uA uD m) (hl : IRow w v l) :
    Calls Try.prog 3 #[mval oA oD nA nD uA uD m.oldest m.at_, v] w fun e w' => e = .returned (.bool true) ∧ Below w.heap.size w w' := by
  obtain ⟨p0, c0, rfl⟩ := h.o.1.form
  obtain ⟨p1, c1, rfl⟩ := h.o.2.form
  obtain ⟨p2, c2, rfl⟩ := h.n.1.form
  obtain ⟨p3, c3, rfl⟩ := h.n.2.form
  obtain ⟨p4, c4, rfl⟩ := h.u.1.form
  obtain ⟨p5, c5, rfl⟩ := h.u.2.form
  obtain ⟨pa, ca, rfl⟩ := hl.form
  have hlen := hl.len
  have OW := hid (fun (W : World) (B : Below w.heap.size w W) => lown_is _ _ _ _ _ _ m W (h.below B))
  have HL := hid hl
  unfold mval at OW ⊢
  have fi := hid (mown_fits m)
  generalize mown m = mo at *
  clear h hl
  obtain ⟨t, u, ob, K, r⟩ := m
  simp only at *
  have st := hid (MB.new w (.slice p0 t.1.length c0) (.slice p1 t.2.length c1) (.slice p2 u.1.length c2) (.slice p3 u.2.length c3) ob K (.slice p4 r.1.length c4) (.slice p5 r.2.length c5) 26)
  go_enter Try.func3, Try.ntmps3
  go_wp2_with fail
  ((with_reducible refine (wakes12_any _).mono ?_); rintro e w1 ⟨rfl, B⟩)
  replace st := hid (st.out.keep B)
  clear B
  obtain ⟨hb, s0, s1, s2, s3, s4, s5, s6, s7, s8⟩ := st.out
  go_wp2_with fail
  refine (OW.out _ hb).mono ?_
  rintro e w2 ⟨⟨a0, a1, a2, a3, a4, a5, rfl, M⟩, B⟩
  obtain ⟨p0, n0, c0, p1, n1, c1, p2, n2, c2, p3, n3, c3, p4, n4, c4, p5, n5, c5, rfl, rfl, rfl, rfl, rfl, rfl⟩ := M.forms
  have I0 : Hid (LI w w2.heap.size (w2.alloc (.cells #[.slice p0 n0 c0, .slice p1 n1 c1, .slice p2 n2 c2, .slice p3 n3 c3, .bool mo.oldest, .int .i64 mo.at_, .slice p4 n4 c4, .slice p5 n5 c5] 26))) := by
    refine ⟨bel_step (bel_step hb B) (below_alloc _ _), by have := B.size; omega, mo, _, _, _, _, _, _, MZ.new _ _ _ _ _ _ _ _ _, ?_, fi.out⟩
    exact (M.below (below_alloc _ _)).weaken hb.size
  clear M B OW st hb s0 s1 s2 s3 s4 s5 s6 s7 s8 fi
  go_wp2_with fail
  generalize w2.heap.size = T at *
  go_loopw [27] (fun v27 wr => ∃ k : Nat, v27 = (.int .i64 (k)) ∧ k ≤ l.length ∧ Hid (LI w T wr)) (fun v27 _ => l.length - (intOf v27).toNat)
  case atStart => exact ⟨0, rfl, Nat.zero_le _, I0⟩
  case round =>
    clear I0
    obtain ⟨k, rfl, hk, I⟩ := hrel
    by_cases hgo : k < l.length
    · have hgo' : (k : Int) < (l.length : Int) := by omega
      obtain ⟨g, o, rfl, d0⟩ := (HL.out.below I.out.below).at k hgo
      generalize l[k] = N at *
      by_cases h8 : k = 8
      · have h8' : ((k : Int) == 8) = true := by rw [beq_iff_eq]; omega
        clear h8
        go_wp2_with fail
        go_ret
        exact ⟨rfl, I.out.below⟩
      · have h8' : ((k : Int) == 8) = false := by rw [beq_eq_false_iff_ne]; omega
        clear h8
        obtain ⟨mo, a0, a1, a2, a3, a4, a5, z, M, fi⟩ := I.out.m
        obtain ⟨p0, n0, c0, p1, n1, c1, p2, n2, c2, p3, n3, c3, p4, n4, c4, p5, n5, c5, rfl, rfl, rfl, rfl, rfl, rfl⟩ := M.forms
        obtain ⟨z0, z1, z2, z3, z4, z5, z6, z7, z8⟩ := z.cells
        go_wp2_with fail
        have C := lown_is _ _ _ _ _ _ mo wr M.is
        rw [mown_same fi] at C
        unfold mval at C
        refine C.mono ?_
        rintro e w1 ⟨⟨b0, b1, b2, b3, b4, b5, rfl, WS⟩, B⟩
        obtain ⟨q0, m0, e0, q1, m1, e1, q2, m2, e2, q3, m3, e3, q4, m4, e4, q5, m5, e5, rfl, rfl, rfl, rfl, rfl, rfl⟩ := WS.forms
        have Z8 := hid (MZ.new w1 (.slice q0 m0 e0) (.slice q1 m1 e1) (.slice q2 m2 e2) (.slice q3 m3 e3) (.bool mo.oldest) (.int .i64 mo.at_) (.slice q4 m4 e4) (.slice q5 m5 e5))
        have B2 : Below wr.heap.size wr (w1.alloc (.cells #[.slice q0 m0 e0, .slice q1 m1 e1, .slice q2 m2 e2, .slice q3 m3 e3, .bool mo.oldest, .int .i64 mo.at_, .slice q4 m4 e4, .slice q5 m5 e5] 26)) := bel_step B (below_alloc _ _)
        have BEL := hid (bel_step I.out.below B2)
        have Z5 := hid (z.keep B2)
        have MM := hid (M.keep B2)
        have WW := hid (WS.keep (below_alloc w1 (.cells #[.slice q0 m0 e0, .slice q1 m1 e1, .slice q2 m2 e2, .slice q3 m3 e3, .bool mo.oldest, .int .i64 mo.at_, .slice q4 m4 e4, .slice q5 m5 e5] 26)))
        have FI := hid fi; have LO := hid I.out.lo
        clear M WS z B B2 z0 z1 z2 z3 z4 z5 z6 z7 z8 d0 C fi I
        go_upto_region 9 with fail
        generalize (w1.alloc (.cells #[.slice q0 m0 e0, .slice q1 m1 e1, .slice q2 m2 e2, .slice q3 m3 e3, .bool mo.oldest, .int .i64 mo.at_, .slice q4 m4 e4, .slice q5 m5 e5] 26)) = Wc at *
        generalize w1.heap.size = T8 at *
        obtain ⟨z0, z1, z2, z3, z4, z5, z6, z7, z8⟩ := Z5.out.cells
        go_wp2_with fail
        obtain ⟨ga, gb, gc, hE⟩ : ∃ a b c, stepL mo N = (a, b, c) := ⟨_, _, _, rfl⟩
        have C := pstep_any _ _ _ _ _ _ mo N Wc MM.out.is FI.out.small (by have := FI.out.2.2.1; omega) (by have := FI.out.2.2.2; omega)
        rw [hE] at C
        unfold mval at C
        simp only at C
        have HE1 := hid hE; clear hE
        refine C.mono ?_
        rintro e w2 ⟨⟨b0, b1, b2, b3, b4, b5, rfl, GT⟩, B⟩
        obtain ⟨r0, k0, f0, r1, k1, f1, r2, k2, f2, r3, k3, f3, r4, k4, f4, r5, k5, f5, rfl, rfl, rfl, rfl, rfl, rfl⟩ := GT.forms
        have B2 : Below Wc.heap.size Wc (w2.alloc (.cells #[.slice r0 k0 f0, .slice r1 k1 f1, .slice r2 k2 f2, .slice r3 k3 f3, .bool ga.oldest, .int .i64 ga.at_, .slice r4 k4 f4, .slice r5 k5 f5] 26)) := bel_step B (below_alloc _ _)
        have BC := hid B2
        have Z9 := hid (MZ.new w2 (.slice r0 k0 f0) (.slice r1 k1 f1) (.slice r2 k2 f2) (.slice r3 k3 f3) (.bool ga.oldest) (.int .i64 ga.at_) (.slice r4 k4 f4) (.slice r5 k5 f5))
        have GG := hid (GT.keep (below_alloc w2 (.cells #[.slice r0 k0 f0, .slice r1 k1 f1, .slice r2 k2 f2, .slice r3 k3 f3, .bool ga.oldest, .int .i64 ga.at_, .slice r4 k4 f4, .slice r5 k5 f5] 26)))
        have Z5b := hid (Z5.out.keep B2)
        clear GT B B2 z0 z1 z2 z3 z4 z5 z6 z7 z8 C
        go_upto_region 10 with fail
        generalize (w2.alloc (.cells #[.slice r0 k0 f0, .slice r1 k1 f1, .slice r2 k2 f2, .slice r3 k3 f3, .bool ga.oldest, .int .i64 ga.at_, .slice r4 k4 f4, .slice r5 k5 f5] 26)) = Wg at *
        generalize w2.heap.size = T9 at *
        obtain ⟨z0, z1, z2, z3, z4, z5, z6, z7, z8⟩ := Z5b.out.cells
        go_wp2_with fail
        obtain ⟨ea, eb, hE⟩ : ∃ a b, endL mo = (a, b) := ⟨_, _, rfl⟩
        have C := pend_any _ _ _ _ _ _ mo Wg (MM.out.keep BC.out).is FI.out.small (by have := FI.out.2.2; omega)
        rw [hE] at C
        unfold mval at C
        simp only at C
        have HE2 := hid hE; clear hE
        refine C.mono ?_
        rintro e w3 ⟨⟨b0, b1, rfl, TT⟩, B⟩
        obtain ⟨s0, l0, h0, s1, l1, h1, rfl, rfl⟩ := TT.forms
        have BG := hid (bel_step B (below_alloc w3 (.cells #[.slice s0 l0 h0, .slice s1 l1 h1] 24)))
        have X12 := hid (Vx.new w3 (.slice s0 l0 h0) (.slice s1 l1 h1) 24)
        have TE := hid (TT.keep (below_alloc w3 (.cells #[.slice s0 l0 h0, .slice s1 l1 h1] 24)))
        have s12 := B.size
        clear TT B z0 z1 z2 z3 z4 z5 z6 z7 z8 C Z5b
        go_upto_region 11 with fail
        generalize (w3.alloc (.cells #[.slice s0 l0 h0, .slice s1 l1 h1] 24)) = We at *
        have hT12 : Wg.heap.size ≤ w3.heap.size := s12
        generalize w3.heap.size = T12 at *
        have CW0 : Hid (CW We We.heap.size (We.heap.size + 1) ((We.alloc (.cells #[.slice none 0 0, .slice none 0 0, .slice none 0 0, .slice none 0 0, .bool false, .int .i64 0, .slice none 0 0, .slice none 0 0] 26)).alloc (.cells #[.slice none 0 0, .slice none 0 0] 24))) := by
          refine ⟨bel_step (below_alloc _ _) (below_alloc _ _), (MZ.new _ _ _ _ _ _ _ _ _).keep (below_alloc _ _), ?_⟩
          have := ZH.new (We.alloc (.cells #[.slice none 0 0, .slice none 0 0, .slice none 0 0, .slice none 0 0, .bool false, .int .i64 0, .slice none 0 0, .slice none 0 0] 26))
          simpa only [World.size_alloc] using this
        have BCe := hid (bel_step BC.out BG.out)
        have Z5e := hid (Z5.out.keep BCe.out)
        have ME := hid (MM.out.keep BCe.out)
        go_upto_region 14 with fail
        generalize ((We.alloc (.cells #[.slice none 0 0, .slice none 0 0, .slice none 0 0, .slice none 0 0, .bool false, .int .i64 0, .slice none 0 0, .slice none 0 0] 26)).alloc (.cells #[.slice none 0 0, .slice none 0 0] 24)) = W4 at *
        obtain ⟨z0, z1, z2, z3, z4, z5, z6, z7, z8⟩ := (Z5e.out.keep CW0.out.below).cells
        go_wp2_with fail
        have C := mright_any _ _ _ _ _ _ mo W4 (ME.out.keep CW0.out.below).is FI.out.small
        unfold mval at C
        refine C.mono ?_
        rintro e w5 ⟨rfl, B⟩
        replace CW0 := hid (CW0.out.keep B)
        clear B C z0 z1 z2 z3 z4 z5 z6 z7 z8
        go_upto_if 49 with fail
        go_cut [14, 15, 16, 17, 18] (fun s14 s15 s16 s17 s18 wc => s14 = .pointer (some ⟨We.heap.size, 0, none⟩) ∧ s15 = .pointer (some ⟨We.heap.size + 1, 0, none⟩) ∧ s16 = .int .i64 gb ∧ s17 = .int .i64 gc ∧ s18 = .int .i64 eb ∧ Hid (CS We We.heap.size (We.heap.size + 1) ga ea wc))
        case first =>
          cases hr : mright mo
          · obtain ⟨rfl, rfl, rfl⟩ : ga = mg0 ∧ gb = 0 ∧ gc = 220 := by have := HE1.out; unfold stepL at this; rw [hr] at this; simp at this; exact ⟨this.1.symm, this.2.1.symm, this.2.2.symm⟩
            obtain ⟨rfl, rfl⟩ : ea = ([], []) ∧ eb = 220 := by have := HE2.out; unfold endL at this; rw [hr] at this; simp at this; exact ⟨this.1.symm, this.2.symm⟩
            go_wp2_with fail
            go_meet
            exact ⟨rfl, rfl, rfl, rfl, rfl, CW0.out.cv.no⟩
          · obtain ⟨k0, k1, ht, hu, ho⟩ := mright_at hr
            have EL : leftL mo = ((pairsL mo.older mo.newer).length : Int) - mo.at_ := by unfold leftL; rw [hr]; rfl
            have PL := pairsL_len mo.older mo.newer
            have pl : (pairsL mo.older mo.newer).length ≤ 96 := by have := FI.out; unfold Mg.fits at this; omega
            obtain ⟨z0, z1, z2, z3, z4, z5, z6, z7, z8⟩ := (Z5e.out.keep CW0.out.below).cells
            have C := refleft_any _ _ _ _ _ _ mo w5 (ME.out.keep CW0.out.below).is FI.out.small k0 (by omega)
            rw [← EL] at C
            unfold stepL at HE1
            unfold endL at HE2
            rw [hr] at HE1 HE2
            generalize leftL mo = d at *
            have HD : Hid (0 ≤ d ∧ d = ((pairsL mo.older mo.newer).length : Int) - mo.at_ ∧ 0 ≤ mo.at_) := ⟨by omega, EL, k0⟩
            clear ht hu ho k1 EL PL k0 hr
            have PL := hid pl; clear pl
            go_wp2_with fail
            unfold mval at C
            refine C.mono ?_
            rintro e w6 ⟨rfl, B⟩
            replace CW0 := hid (CW0.out.keep B)
            clear B C z0 z1 z2 z3 z4 z5 z6 z7 z8
            by_cases hn : N < 0
            · obtain ⟨rfl, rfl, rfl⟩ : ga = mg0 ∧ gb = 0 ∧ gc = 2 := by have := HE1.out; simp [hn] at this; exact ⟨this.1.symm, this.2.1.symm, this.2.2.symm⟩
              have hn' : ¬ (0 ≤ N) := by omega
              clear hn
              have CV0 := hid CW0.out.cv
              by_cases hd : d = 0
              · obtain ⟨rfl, rfl⟩ : ea = mo.out ∧ eb = 0 := by have := HE2.out; simp [hd] at this; exact ⟨this.1.symm, this.2.symm⟩
                subst hd
                obtain ⟨y0, y1, y2, y3, y4⟩ := CV0.out.t.zt
                obtain ⟨z0, z1, z2, z3, z4, z5, z6, z7, z8⟩ := (Z5e.out.keep CV0.out.below).cells
                go_wp2_with fail
                go_meet
                exact ⟨rfl, rfl, rfl, rfl, rfl, CV0.out.only ME.out.is.u (by omega) (by omega)⟩
              · have hd' : (d == 0) = false := by simpa using hd
                obtain ⟨rfl, rfl⟩ : ea = ([], []) ∧ eb = 221 := by have := HE2.out; have h2 : 0 < d := (by have := HD.out; omega); simp [h2] at this; exact ⟨this.1.symm, this.2.symm⟩
                clear hd
                go_wp2_with fail
                go_meet
                exact ⟨rfl, rfl, rfl, rfl, rfl, CV0.out.no⟩
            · have hn' : 0 ≤ N := by omega
              obtain ⟨q, hq⟩ : ∃ q : Nat, min N d = (q : Int) := Int.eq_ofNat_of_zero_le (by have := HD.out; omega)
              obtain ⟨rfl, rfl, rfl⟩ : ga = mstep mo q ∧ gb = q ∧ gc = 0 := by have := HE1.out; simp [hn, hq] at this; exact ⟨this.1.symm, this.2.1.symm, this.2.2.symm⟩
              have hm : (if d < N then d else N) = (q : Int) := by rw [← hq]; split <;> omega
              obtain ⟨z0, z1, z2, z3, z4, z5, z6, z7, z8⟩ := (Z5e.out.keep CW0.out.below).cells
              have C := lown_is _ _ _ _ _ _ mo w6 (ME.out.keep CW0.out.below).is
              rw [mown_same FI.out] at C
              unfold mval at C
              clear hn
              go_wp2_with fail
              refine C.mono ?_
              rintro e w7 ⟨⟨b0, b1, b2, b3, b4, b5, rfl, WT⟩, B⟩
              replace CW0 := hid (CW0.out.keep B)
              clear B C z0 z1 z2 z3 z4 z5 z6 z7 z8
              have C := refstep_any _ _ _ _ _ _ mo q w7 WT.is FI.out.small HD.out.2.2 (by have := HD.out; omega)
              unfold mval at C
              go_wp2_with fail
              refine C.mono ?_
              rintro e w8 ⟨⟨x6, x7, rfl, WU⟩, B⟩
              replace CW0 := hid (CW0.out.keep B)
              obtain ⟨i0, j0, g0, i1, j1, g1, i2, j2, g2, i3, j3, g3, i4, j4, g4, i5, j5, g5, rfl, rfl, rfl, rfl, -, -⟩ := WT.forms
              obtain ⟨i4, g4, rfl⟩ := WU.u.1.form
              obtain ⟨i5, g5, rfl⟩ := WU.u.2.form
              obtain ⟨W9, hW9⟩ : ∃ W9, ((((((((w8.setCell ⟨We.heap.size, 0, none⟩ (.slice i0 j0 g0)).setCell ⟨We.heap.size, 1, none⟩ (.slice i1 j1 g1)).setCell ⟨We.heap.size, 2, none⟩ (.slice i2 j2 g2)).setCell ⟨We.heap.size, 3, none⟩ (.slice i3 j3 g3)).setCell ⟨We.heap.size, 4, none⟩ (.bool mo.oldest)).setCell ⟨We.heap.size, 5, none⟩ (.int .i64 (mstep mo q).at_)).setCell ⟨We.heap.size, 6, none⟩ (.slice i4 (mstep mo q).out.1.length g4)).setCell ⟨We.heap.size, 7, none⟩ (.slice i5 (mstep mo q).out.2.length g5)) = W9 := ⟨_, rfl⟩
              have CV0 : Hid (CV We We.heap.size (We.heap.size + 1) (mstep mo q) W9) := by
                show CV _ _ _ _ _
                rw [← hW9]
                exact CW0.out.set WU (by omega) (by omega)
              clear B C WT WU
              obtain ⟨y0, y1, y2, y3, y4, y5, y6, y7, y8⟩ := CW0.out.z.cells
              obtain ⟨h0', h1', h2', h3', h4', h5', h6', h7'⟩ := CW0.out.z.free
              go_upto_region 20 with fail
              try rw [hW9]
              clear y0 y1 y2 y3 y4 y5 y6 y7 y8 h0' h1' h2' h3' h4' h5' h6' h7' hW9 CW0
              by_cases hd : d = 0
              · obtain ⟨rfl, rfl⟩ : ea = mo.out ∧ eb = 0 := by have := HE2.out; simp [hd] at this; exact ⟨this.1.symm, this.2.symm⟩
                subst hd
                obtain ⟨y0, y1, y2, y3, y4⟩ := CV0.out.t.zt
                obtain ⟨z0, z1, z2, z3, z4, z5, z6, z7, z8⟩ := (Z5e.out.keep CV0.out.below).cells
                go_wp2_with fail
                go_meet
                exact ⟨rfl, rfl, rfl, rfl, rfl, CV0.out.only ME.out.is.u (by omega) (by omega)⟩
              · have hd' : (d == 0) = false := by simpa using hd
                obtain ⟨rfl, rfl⟩ : ea = ([], []) ∧ eb = 221 := by have := HE2.out; have h2 : 0 < d := (by have := HD.out; omega); simp [h2] at this; exact ⟨this.1.symm, this.2.symm⟩
                clear hd
                go_wp2_with fail
                go_meet
                exact ⟨rfl, rfl, rfl, rfl, rfl, CV0.out.no⟩
        case rest =>
          obtain ⟨rfl, rfl, rfl, rfl, rfl, CS0⟩ := hcut
          clear CW0
          obtain ⟨a0, a1, a2, a3, a4, a5, zw, mw⟩ := CS0.out.want
          obtain ⟨i0, g0, rfl⟩ := mw.o.1.form
          obtain ⟨i1, g1, rfl⟩ := mw.o.2.form
          obtain ⟨i2, g2, rfl⟩ := mw.n.1.form
          obtain ⟨i3, g3, rfl⟩ := mw.n.2.form
          obtain ⟨i4, g4, rfl⟩ := mw.u.1.form
          obtain ⟨i5, g5, rfl⟩ := mw.u.2.form
          obtain ⟨xe, ye, be, pe⟩ := CS0.out.fin
          obtain ⟨i6, g6, rfl⟩ := pe.1.form
          obtain ⟨i7, g7, rfl⟩ := pe.2.form
          have BW := hid CS0.out.below
          have ZW := hid zw; have MW := hid mw; have XE := hid be; have PE := hid pe
          clear zw mw be pe CS0 HE1 HE2
          have BGw := hid (bel_step BG.out BW.out)
          have BCw := hid (bel_step BCe.out BW.out)
          obtain ⟨z0, z1, z2, z3, z4, z5, z6, z7, z8⟩ := (Z9.out.keep BGw.out).cells
          obtain ⟨y0, y1, y2, y3, y4, y5, y6, y7, y8⟩ := ZW.out.cells
          have C := msame_any _ _ _ _ _ _ _ _ _ _ _ _ ga ga wc (GG.out.keep BGw.out).is MW.out
          unfold mval at C
          simp only [decide_true] at C
          go_wp2_with fail
          refine C.mono ?_
          rintro e w9 ⟨rfl, B⟩
          replace BW := hid (bel_step BW.out B); replace BGw := hid (bel_step BGw.out B); replace BCw := hid (bel_step BCw.out B); replace XE := hid (XE.out.keep B); replace PE := hid (PE.out.below B)
          clear z0 z1 z2 z3 z4 z5 z6 z7 z8 y0 y1 y2 y3 y4 y5 y6 y7 y8 C B ZW MW
          obtain ⟨z0, z1, z2⟩ := X12.out.keep BW.out
          obtain ⟨y0, y1, y2⟩ := XE.out
          have C := tsame_any _ _ [ea] [ea] _ ((TRow.new1 (TE.out.keep BW.out).pair 24).below (below_alloc _ _)) (TRow.new1 (PE.out.below (below_alloc w9 (.cells #[.slice s0 l0 h0, .slice s1 l1 h1] 24))) 24)
          simp only [decide_true, World.size_alloc] at C
          go_wp2_with fail
          refine C.mono ?_
          rintro e w10 ⟨rfl, B⟩
          replace B := blift2 B
          replace BW := hid (bel_step BW.out B); replace BGw := hid (bel_step BGw.out B); replace BCw := hid (bel_step BCw.out B)
          clear z0 z1 z2 y0 y1 y2 C B XE PE
          obtain ⟨z0, z1, z2, z3, z4, z5, z6, z7, z8⟩ := (Z9.out.keep BGw.out).cells
          have C := lown_is _ _ _ _ _ _ ga w10 (GG.out.keep BGw.out).is
          have nf := hid (mown_fits ga)
          generalize mown ga = na at *
          unfold mval at C
          go_wp2_with fail
          refine C.mono ?_
          rintro e w11 ⟨⟨b0, b1, b2, b3, b4, b5, rfl, NX⟩, B⟩
          obtain ⟨i0, j0, g0, i1, j1, g1, i2, j2, g2, i3, j3, g3, i4, j4, g4, i5, j5, g5, rfl, rfl, rfl, rfl, rfl, rfl⟩ := NX.forms
          have s11 : w10.heap.size ≤ w11.heap.size := B.size
          replace B := bel_step B (below_alloc w11 (.cells #[.slice i0 j0 g0, .slice i1 j1 g1, .slice i2 j2 g2, .slice i3 j3 g3, .bool na.oldest, .int .i64 na.at_, .slice i4 j4 g4, .slice i5 j5 g5] 26))
          have N1 := hid (NX.keep (below_alloc w11 (.cells #[.slice i0 j0 g0, .slice i1 j1 g1, .slice i2 j2 g2, .slice i3 j3 g3, .bool na.oldest, .int .i64 na.at_, .slice i4 j4 g4, .slice i5 j5 g5] 26)))
          have Z20 := hid (MZ.new w11 (.slice i0 j0 g0) (.slice i1 j1 g1) (.slice i2 j2 g2) (.slice i3 j3 g3) (.bool na.oldest) (.int .i64 na.at_) (.slice i4 j4 g4) (.slice i5 j5 g5))
          have s10 : We.heap.size ≤ w10.heap.size := BW.out.size
          replace BW := hid (bel_step BW.out B); replace BGw := hid (bel_step BGw.out B); replace BCw := hid (bel_step BCw.out B)
          clear z0 z1 z2 z3 z4 z5 z6 z7 z8 C B NX
          go_upto_region 26 with fail
          generalize (w11.alloc (.cells #[.slice i0 j0 g0, .slice i1 j1 g1, .slice i2 j2 g2, .slice i3 j3 g3, .bool na.oldest, .int .i64 na.at_, .slice i4 j4 g4, .slice i5 j5 g5] 26)) = W11 at *
          generalize w11.heap.size = T20 at *
          have sg := BGw.out.size
          have sC := BCw.out.size
          have sg2 : Wg.heap.size ≤ We.heap.size := BG.out.size
          have sc2 : Wc.heap.size ≤ Wg.heap.size := BC.out.size
          obtain ⟨z0, z1, z2, z3, z4, z5, z6, z7, z8⟩ := (Z9.out.keep BGw.out).cells
          have C : Calls Try.prog 33 #[.agg #[.slice r0 k0 f0, .slice r1 k1 f1, .slice r2 k2 f2, .slice r3 k3 f3, .bool ga.oldest, .int .i64 ga.at_, .slice r4 k4 f4, .slice r5 k5 f5]] W11 fun e w' => e = .returned (.tuple #[]) ∧ Keeps (fun k => k < Wc.heap.size ∨ Wg.heap.size ≤ k) W11 w' :=
            lspoil_any Wc.heap.size Wg.heap.size _ _ _ _ _ _ _ _ _ _ _ _ _ _ _ _ _ _ _ _ W11 (GG.out.o.a.some' _ (Nat.le_refl _) BGw.out) (GG.out.o.d.some' _ (Nat.le_refl _) BGw.out) (GG.out.n.a.some' _ (Nat.le_refl _) BGw.out) (GG.out.n.d.some' _ (Nat.le_refl _) BGw.out) (GG.out.u.a.some' _ (Nat.le_refl _) BGw.out) (GG.out.u.d.some' _ (Nat.le_refl _) BGw.out) sg
          go_wp2_with fail
          refine C.mono ?_
          rintro e w12 ⟨rfl, KS⟩
          clear z0 z1 z2 z3 z4 z5 z6 z7 z8 C
          replace BCw := hid (bel_keep BCw.out KS (fun k hk => Or.inl hk))
          replace N1 := hid (N1.out.keepK KS (fun k hk => Or.inr (by omega)))
          replace Z20 := hid (Z20.out.keepK KS (Or.inr (by omega)))
          have X12b := hid ((X12.out.keep BW.out).keepK KS (Or.inr (by omega)))
          have TA := hid ((TE.out.a.some' We.heap.size (Nat.le_refl _) BW.out).keepK KS (fun k h1 h2 => Or.inr h1))
          have TD := hid ((TE.out.d.some' We.heap.size (Nat.le_refl _) BW.out).keepK KS (fun k h1 h2 => Or.inr h1))
          have s12' := KS.size
          obtain ⟨z0, z1, z2⟩ := X12b.out
          have C : Calls Try.prog 33 #[.agg #[.slice none 0 0, .slice none 0 0, .slice none 0 0, .slice none 0 0, .bool false, .int .i64 0, .slice s0 l0 h0, .slice s1 l1 h1]] w12 fun e w' => e = .returned (.tuple #[]) ∧ Keeps (fun k => k < Wg.heap.size ∨ We.heap.size ≤ k) w12 w' :=
            lspoil_any Wg.heap.size We.heap.size _ _ _ _ _ _ _ _ _ _ _ _ _ _ _ _ _ _ _ _ w12 PSome.nil PSome.nil PSome.nil PSome.nil TA.out TD.out (by have := BW.out.size; omega)
          go_wp2_with fail
          refine C.mono ?_
          rintro e w13 ⟨rfl, KT⟩
          clear z0 z1 z2 C
          replace BCw := hid (bel_keep BCw.out KT (fun k hk => Or.inl (by omega)))
          replace N1 := hid (N1.out.keepK KT (fun k hk => Or.inr (by omega)))
          replace Z20 := hid (Z20.out.keepK KT (Or.inr (by omega)))
          clear KS KT TA TD X12b BW BGw
          obtain ⟨z0, z1, z2, z3, z4, z5, z6, z7, z8⟩ := (Z5.out.keep BCw.out).cells
          obtain ⟨y0, y1, y2, y3, y4, y5, y6, y7, y8⟩ := (Z8.out.keep BCw.out).cells
          have C := msame_any _ _ _ _ _ _ _ _ _ _ _ _ mo mo w13 (MM.out.keep BCw.out).is (WW.out.keep BCw.out).is
          unfold mval at C
          simp only [decide_true] at C
          go_wp2_with fail
          refine C.mono ?_
          rintro e w14 ⟨rfl, B⟩
          clear z0 z1 z2 z3 z4 z5 z6 z7 z8 y0 y1 y2 y3 y4 y5 y6 y7 y8 C
          replace BCw := hid (bel_step BCw.out B)
          replace N1 := hid (N1.out.keep B)
          replace Z20 := hid (Z20.out.keep B)
          clear B
          by_cases hg : gc = 0
          · subst hg
            obtain ⟨z0, z1, z2, z3, z4, z5, z6, z7, z8⟩ := (Z5.out.keep BCw.out).cells
            obtain ⟨y0, y1, y2, y3, y4, y5, y6, y7, y8⟩ := Z20.out.cells
            obtain ⟨f0', f1', f2', f3', f4', f5', f6', f7'⟩ := (Z5.out.keep BCw.out).free
            obtain ⟨W2, hW2, m2, k2⟩ := (Z5.out.keep BCw.out).set (.slice i0 j0 g0) (.slice i1 j1 g1) (.slice i2 j2 g2) (.slice i3 j3 g3) (.bool na.oldest) (.int .i64 na.at_) (.slice i4 j4 g4) (.slice i5 j5 g5)
            have FIN := hid (show LI w T W2 from ⟨bel_keep (bel_step BEL.out BCw.out) k2 (fun k hk => by have := LO.out; omega), LO.out, na, _, _, _, _, _, _, m2, (N1.out.keepK k2 (fun k hk => by have := ltH Z5.out; omega)).weaken (by have := BEL.out.size; omega), nf.out⟩)
            clear m2 k2
            go_wp2_with fail
            exact ⟨⟨k + 1, by simp, hgo, FIN⟩, by simp [intOf]; omega⟩
          · have hg' : (gc == 0) = false := by simpa using hg
            clear hg
            have FIN := hid (show LI w T w14 from ⟨bel_step BEL.out BCw.out, LO.out, mo, _, _, _, _, _, _, Z5.out.keep BCw.out, MM.out.keep BCw.out, FI.out⟩)
            go_wp2_with fail
            exact ⟨⟨k + 1, by simp, hgo, FIN⟩, by simp [intOf]; omega⟩
    · have h1' : ¬ (k : Int) < (l.length : Int) := by omega
      clear hgo
      go_wp2_with fail
      go_ret
      exact ⟨rfl, I.out.below⟩
end Go.Proofs.Ytlkdkhmdmgchbaa
