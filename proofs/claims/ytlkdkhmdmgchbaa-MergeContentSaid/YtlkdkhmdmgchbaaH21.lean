/- the laws' merges: own. -/
import Derived.Test.YtlkdkhmdmgchbaaH18
import Derived.Test.YtlkdkhmdmgchbaaH19
namespace Go.Proofs.Ytlkdkhmdmgchbaa
set_option linter.unusedSimpArgs false
set_option linter.unusedVariables false
open Go.RowKit

/-- a merge cut to what can be gone through. -/
def mown (m : Mg) : Mg := ⟨(m.older.1.take 24, m.older.2.take 24), (m.newer.1.take 24, m.newer.2.take 24), m.oldest, m.at_, (m.out.1.take 100, m.out.2.take 100)⟩
/-- behind the copy of what a merge has come to. -/
structure OC (w : World) (x0 x1 x2 x3 : Value) (ob : Bool) (n : Int) (x6 x7 : Value) (r : Tr) (T : Nat) (v1 v2 : Value) (W : World) : Prop where
  si : SI w x0 x1 x2 x3 ob n x6 x7 W
  hT : Vx T v1 v2 W
  nT : w.heap.size + 1 < T
  fr : TFr (w.heap.size + 1 + 1) W v1 v2 r
theorem OC.keep {w : World} {x0 x1 x2 x3 : Value} {ob : Bool} {n : Int} {x6 x7 : Value} {r : Tr} {T : Nat} {v1 v2 : Value} {W W' : World} (h : OC w x0 x1 x2 x3 ob n x6 x7 r T v1 v2 W) (B : Below W.heap.size W W') : OC w x0 x1 x2 x3 ob n x6 x7 r T v1 v2 W' := ⟨h.si.keep B, h.hT.keep B, h.nT, h.fr.below B⟩
theorem SI.keepT {w : World} {x0 x1 x2 x3 : Value} {ob : Bool} {n : Int} {x6 x7 : Value} {W W' : World} {T : Nat} (h : SI w x0 x1 x2 x3 ob n x6 x7 W) (k : Keeps (fun k => k ≠ T) W W') (hT : w.heap.size + 1 < T) : SI w x0 x1 x2 x3 ob n x6 x7 W' := by
  obtain ⟨⟨hb, s0, s1, s2, s3, s4, s5, s6, s7, s8⟩, hz⟩ := h
  exact ⟨⟨bel_keep hb k (fun k hk => by omega), (k.cell s8 (by omega)).trans s0, (k.cell s8 (by omega)).trans s1, (k.cell s8 (by omega)).trans s2, (k.cell s8 (by omega)).trans s3, (k.cell s8 (by omega)).trans s4, (k.cell s8 (by omega)).trans s5, (k.cell s8 (by omega)).trans s6, (k.cell s8 (by omega)).trans s7, by have := k.size; omega⟩, hz.keepK k (by omega)⟩
theorem OC.of_set {w W wa wb : World} {r : Tr} {ob : Bool} {n : Int} {T B1 B2 : Nat} {x0 x1 x2 x3 x6 x7 v1 v2 : Value} (hT : ZT T W) (st : SI w x0 x1 x2 x3 ob n x6 x7 W)
    (r1 : PFr B1 wa v1 r.1) (e1 : Below wa.heap.size wa W) (r2 : PFr B2 wb v2 r.2) (e2 : Below wb.heap.size wb W) (b1 : w.heap.size + 1 + 1 ≤ B1) (b2 : w.heap.size + 1 + 1 ≤ B2)
    (t1 : T < B1 ∨ wa.heap.size ≤ T) (t2 : T < B2 ∨ wb.heap.size ≤ T) (nT : w.heap.size + 1 < T) :
    OC w x0 x1 x2 x3 ob n x6 x7 r T v1 v2 ((W.setCell ⟨T, 0, none⟩ v1).setCell ⟨T, 1, none⟩ v2) := by
  have k := set2_keeps W T v1 v2
  obtain ⟨a, b⟩ := hT.set v1 v2
  refine ⟨st.keepT k nT, ⟨a, b, by have := k.size; have := hT.2.2.2.2; omega⟩, nT, ?_, ?_⟩
  · rcases t1 with t | t
    · exact ((r1.below e1).keepK k (fun k hk => by omega)).weaken b1
    · exact (r1.below (bel_keep e1 k (fun k hk => by omega))).weaken b1
  · rcases t2 with t | t
    · exact ((r2.below e2).keepK k (fun k hk => by omega)).weaken b2
    · exact (r2.below (bel_keep e2 k (fun k hk => by omega))).weaken b2
theorem OC.of_alloc {w W wa wb : World} {r : Tr} {ob : Bool} {n : Int} {B1 B2 : Nat} {x0 x1 x2 x3 x6 x7 v1 v2 : Value} (st : SI w x0 x1 x2 x3 ob n x6 x7 W)
    (r1 : PFr B1 wa v1 r.1) (e1 : Below wa.heap.size wa W) (r2 : PFr B2 wb v2 r.2) (e2 : Below wb.heap.size wb W) (b1 : w.heap.size + 1 + 1 ≤ B1) (b2 : w.heap.size + 1 + 1 ≤ B2) :
    OC w x0 x1 x2 x3 ob n x6 x7 r W.heap.size v1 v2 (W.alloc (.cells #[v1, v2] 24)) :=
  ⟨st.keep (below_alloc _ _), Vx.new _ _ _ _, ltH st.hz, (r1.below (bel_step e1 (below_alloc _ _))).weaken b1, (r2.below (bel_step e2 (below_alloc _ _))).weaken b2⟩

set_option maxRecDepth 100000 in
set_option maxHeartbeats 4000000 in
theorem lown_any (oA oD nA nD uA uD : Value) (m : Mg) (w : World) (h : MIs w oA oD nA nD uA uD m) :
    Calls Try.prog 25 #[mval oA oD nA nD uA uD m.oldest m.at_] w fun e w' => (∃ oA' oD' nA' nD' vA vD, e = .returned (mval oA' oD' nA' nD' vA vD m.oldest m.at_) ∧ MFr w.heap.size w' oA' oD' nA' nD' vA vD (mown m)) ∧ Below w.heap.size w w' := by
  obtain ⟨p0, c0, rfl⟩ := h.o.1.form
  obtain ⟨p1, c1, rfl⟩ := h.o.2.form
  obtain ⟨p2, c2, rfl⟩ := h.n.1.form
  obtain ⟨p3, c3, rfl⟩ := h.n.2.form
  obtain ⟨p4, c4, rfl⟩ := h.u.1.form
  obtain ⟨p5, c5, rfl⟩ := h.u.2.form
  obtain ⟨q0, k0, r0⟩ := h.u.1.cutAt 100 100 rfl
  obtain ⟨q1, k1, r1⟩ := h.u.2.cutAt 100 100 rfl
  have C1 := hid (fun (W : World) (B : Below w.heap.size w W) => clone_any _ _ W (r0.below B) (by simp; omega))
  have C2 := hid (fun (W : World) (B : Below w.heap.size w W) => clone_any _ _ W (r1.below B) (by simp; omega))
  have O1 := hid (fun (W : World) (B : Below w.heap.size w W) => lowntier_any _ _ m.older W (h.o.below B))
  have O2 := hid (fun (W : World) (B : Below w.heap.size w W) => lowntier_any _ _ m.newer W (h.n.below B))
  clear h r0 r1
  obtain ⟨m0, a0, b0, d0⟩ := k0
  obtain ⟨m1, a1, b1, d1⟩ := k1
  unfold mval
  obtain ⟨t, u, ob, K, r⟩ := m
  simp only [mown] at *
  generalize r.1.take 100 = ra at *
  generalize r.2.take 100 = rb at *
  generalize t.1.take 24 = la at *
  generalize t.2.take 24 = lb at *
  generalize u.1.take 24 = lc at *
  generalize u.2.take 24 = ld at *
  have st1 := SI.new w (.slice p0 t.1.length c0) (.slice p1 t.2.length c1) (.slice p2 u.1.length c2) (.slice p3 u.2.length c3) ob K (.slice p4 r.1.length c4) (.slice p5 r.2.length c5)
  go_enter Try.func25, Try.ntmps25
  go_upto_region 1 with fail
  generalize ((w.alloc (.cells #[.slice p0 t.1.length c0, .slice p1 t.2.length c1, .slice p2 u.1.length c2, .slice p3 u.2.length c3, .bool ob, .int .i64 K, .slice p4 r.1.length c4, .slice p5 r.2.length c5] 26)).alloc (.cells #[.slice none 0 0, .slice none 0 0, .slice none 0 0, .slice none 0 0, .bool false, .int .i64 0, .slice none 0 0, .slice none 0 0] 26)) = w1 at *
  have st := st1.keep (below_drew _)
  go_cut [3] (fun s3 wc => ∃ (T : Nat) (v1 v2 : Value), s3 = .pointer (some ⟨T, 0, none⟩) ∧ Hid (OC w (.slice p0 t.1.length c0) (.slice p1 t.2.length c1) (.slice p2 u.1.length c2) (.slice p3 u.2.length c3) ob K (.slice p4 r.1.length c4) (.slice p5 r.2.length c5) (ra, rb) T v1 v2 wc))
  case first =>
    obtain ⟨hb, s0, s1, s2, s3, s4, s5, s6, s7, s8⟩ := id st.box
    obtain ⟨-, x0, x1, x2, x3, x4, x5, x6, x7, -⟩ := id st1.box
    have i0 : w.heap.size + 1 < w1.heap.size := ltH st1.hz
    go_region_held3 (fun W => W.cell? ⟨w.heap.size, 6, none⟩ = some (.slice p4 r.1.length c4) ∧ W.cell? ⟨w.heap.size, 7, none⟩ = some (.slice p5 r.2.length c5)) (first | (refine ⟨?_, ?_⟩ <;> (repeat' (first | with_reducible assumption | with_reducible refine cell_set_ne (by omega) ?_ | with_reducible refine cell_alloc ?_ | with_reducible refine cell_drew ?_))))
      (first | (go_at_call 98; refine (C1.out _ (by first | with_reducible exact hb | exact (st1.box.1.alloc st1.box.1.size _).drew)).mono ?_; rintro e wa ⟨⟨v1, rfl, r1⟩, B⟩; (first | (have st := st.keep B) | (have hT := (ZT.new w1 24).keep (undrew B); have st := (st1.keep (below_alloc _ _)).keep (undrew B))); obtain ⟨hb, s0, s1, s2, s3, s4, s5, s6, s7, s8⟩ := id st.box; have e1 := Below.refl wa.heap.size wa; have i1 : w.heap.size + 1 < wa.heap.size := ltH st.hz; obtain ⟨q0, d0, rfl⟩ := r1.row.form; clear C1; have z1 := B.size; clear B) | (go_at_call 98; refine (C2.out _ (by first | with_reducible exact hb | exact hb.alloc hb.size _)).mono ?_; rintro e wb ⟨⟨v2, rfl, r2⟩, B⟩; (first | (have hT := hT.keep B) | (have hT := (ZT.new wa 24).keep B) | skip); (first | (have st := st.keep B) | (have st := (st.keep (below_alloc _ _)).keep B)); (first | (have e1 := bel_step e1 B) | (have e1 := bel_step (bel_step e1 (below_alloc _ _)) B)); obtain ⟨hb, s0, s1, s2, s3, s4, s5, s6, s7, s8⟩ := id st.box; have e2 := Below.refl wb.heap.size wb; have i2 : w.heap.size + 1 < wb.heap.size := ltH st.hz; obtain ⟨q1, d1, rfl⟩ := r2.row.form; clear C2; have z2 := B.size; clear B; (try obtain ⟨h0, h1, h2, h3, h4⟩ := id hT)))
    all_goals
      go_wp2_with fail
      go_meet
      have n1 := ltH st.hz
      try simp at z1
      try simp at z2
      first
        | (have F := hid (OC.of_alloc (r := (ra, rb)) st r1.fr e1 r2.fr e2 (by first | omega | (simp <;> omega)) (by first | omega | (simp <;> omega))); exact ⟨_, _, _, rfl, F⟩)
        | (have F := hid (OC.of_set (r := (ra, rb)) hT st r1.fr e1 r2.fr e2 (by first | omega | (simp <;> omega)) (by first | omega | (simp <;> omega)) (by first | omega | (simp <;> omega)) (by first | omega | (simp <;> omega)) (by first | omega | (simp <;> omega))); exact ⟨_, _, _, rfl, F⟩)
  case rest =>
    obtain ⟨T, v1, v2, rfl, PC⟩ := hcut
    clear st st1
    obtain ⟨q0, n0, d0, rfl⟩ : ∃ p n c, v1 = .slice p n c := (by obtain ⟨p, c, e⟩ := PC.out.fr.a.1.form; exact ⟨p, _, c, e⟩)
    obtain ⟨q1, n1, d1, rfl⟩ : ∃ p n c, v2 = .slice p n c := (by obtain ⟨p, c, e⟩ := PC.out.fr.d.1.form; exact ⟨p, _, c, e⟩)
    clear m0 m1 a0 a1 b0 b1
    have i0 : w.heap.size + 1 < wc.heap.size := ltH PC.out.si.hz
    go_upto_region 2 with fail
    have st : OC w (.slice p0 t.1.length c0) (.slice p1 t.2.length c1) (.slice p2 u.1.length c2) (.slice p3 u.2.length c3) ob K (.slice p4 r.1.length c4) (.slice p5 r.2.length c5) (ra, rb) T (.slice q0 n0 d0) (.slice q1 n1 d1) wc.drew := PC.out.keep (below_drew _)
    obtain ⟨hb, s0, s1, s2, s3, s4, s5, s6, s7, s8⟩ := id st.si.box
    obtain ⟨t0, t1, t2⟩ := id st.hT
    have nT := st.nT
    go_region_held3 (fun W => W.cell? ⟨w.heap.size, 0, none⟩ = some (.slice p0 t.1.length c0) ∧ W.cell? ⟨w.heap.size, 1, none⟩ = some (.slice p1 t.2.length c1) ∧ W.cell? ⟨w.heap.size, 2, none⟩ = some (.slice p2 u.1.length c2) ∧ W.cell? ⟨w.heap.size, 3, none⟩ = some (.slice p3 u.2.length c3) ∧ W.cell? ⟨w.heap.size, 4, none⟩ = some (.bool ob) ∧ W.cell? ⟨w.heap.size, 5, none⟩ = some (.int .i64 K) ∧ W.cell? ⟨T, 0, none⟩ = some (.slice q0 n0 d0) ∧ W.cell? ⟨T, 1, none⟩ = some (.slice q1 n1 d1)) (first | (refine ⟨?_, ?_, ?_, ?_, ?_, ?_, ?_, ?_⟩ <;> (repeat' (first | with_reducible assumption | with_reducible refine cell_set_ne (by omega) ?_ | with_reducible refine cell_alloc ?_ | with_reducible refine cell_drew ?_))))
      (first | (go_at_call 39; refine (O1.out _ hb).mono ?_; rintro e wa ⟨⟨v3, v4, rfl, r3⟩, B⟩; replace st := st.keep B; clear hb s0 s1 s2 s3 s4 s5 s6 s7 s8 t0 t1 t2; obtain ⟨hb, s0, s1, s2, s3, s4, s5, s6, s7, s8⟩ := id st.si.box; obtain ⟨t0, t1, t2⟩ := id st.hT; have e1 := Below.refl wa.heap.size wa; have i1 : w.heap.size + 1 < wa.heap.size := ltH st.si.hz; obtain ⟨q2, d2, rfl⟩ := r3.a.1.form; obtain ⟨q3, d3, rfl⟩ := r3.d.1.form; clear O1 B) | (go_at_call 39; refine (O2.out _ hb).mono ?_; rintro e wb ⟨⟨v5, v6, rfl, r4⟩, B⟩; have st := st.keep B; obtain ⟨hb, s0, s1, s2, s3, s4, s5, s6, s7, s8⟩ := id st.si.box; obtain ⟨t0, t1, t2⟩ := id st.hT; have e2 := Below.refl wb.heap.size wb; have e1 := bel_step e1 B; have i2 : w.heap.size + 1 < wb.heap.size := ltH st.si.hz; obtain ⟨q4, d4, rfl⟩ := r4.a.1.form; obtain ⟨q5, d5, rfl⟩ := r4.d.1.form; clear O2 B; obtain ⟨y0, y1, y2, y3, y4, y5, y6, y7, y8⟩ := st.si.hz.cells; obtain ⟨f0, f1, f2, f3, f4, f5, f6, f7⟩ := st.si.hz.free))
    all_goals
      obtain ⟨W2, hW2, m2, k2⟩ := st.si.hz.set (.slice q2 la.length d2) (.slice q3 lb.length d3) (.slice q4 lc.length d4) (.slice q5 ld.length d5) (.bool ob) (.int .i64 K) (.slice q0 n0 d0) (.slice q1 n1 d1)
      rw [hW2]
      have Fin : Hid (MFr w.heap.size W2 (.slice q2 la.length d2) (.slice q3 lb.length d3) (.slice q4 lc.length d4) (.slice q5 ld.length d5) (.slice q0 n0 d0) (.slice q1 n1 d1) ⟨(la, lb), (lc, ld), ob, K, (ra, rb)⟩ ∧ Below w.heap.size w W2) :=
        ⟨⟨((r3.below e1).fin (Below.refl _ _) k2 (Or.inl (by first | omega | (simp <;> omega)))).weaken (by first | omega | (simp <;> omega)), (r4.fin e2 k2 (Or.inl (by first | omega | (simp <;> omega)))).weaken (by first | omega | (simp <;> omega)), (st.fr.fin (Below.refl _ _) k2 (Or.inl (by omega))).weaken (by omega)⟩, bel_keep hb k2 (fun k hk => by omega)⟩
      have hm := m2.cells
      clear hW2 y0 y1 y2 y3 y4 y5 y6 y7 y8 f0 f1 f2 f3 f4 f5 f6 f7 k2 m2 r3 r4 e1 e2
      obtain ⟨z0, z1, z2, z3, z4, z5, z6, z7, z8⟩ := hm
      go_wp2_with fail
      exact ⟨rfl, .agg #[.slice q2 la.length d2, .slice q3 lb.length d3, .slice q4 lc.length d4, .slice q5 ld.length d5, .bool ob, .int .i64 K, .slice q0 n0 d0, .slice q1 n1 d1], by simp [results, Try.results25, go_sem, z0, z1, z2, z3, z4, z5, z6, z7], ⟨_, _, _, _, _, _, rfl, Fin.out.1⟩, Fin.out.2⟩
end Go.Proofs.Ytlkdkhmdmgchbaa
