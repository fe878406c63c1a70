/- the program's merges: Same, ownTier. -/
import Derived.Test.YtlkdkhmdmgchbaaH13
namespace Go.Proofs.Ytlkdkhmdmgchbaa
set_option linter.unusedSimpArgs false
set_option linter.unusedVariables false
open Go.RowKit

set_option maxRecDepth 100000 in
set_option maxHeartbeats 4000000 in
theorem pmsame_any (oA oD nA nD uA uD oA' oD' nA' nD' uA' uD' : Value) (m m' : Mg) (w : World) (h : MIs w oA oD nA nD uA uD m) (h' : MIs w oA' oD' nA' nD' uA' uD' m') :
    Calls Try.prog 35 #[mval oA oD nA nD uA uD m.oldest m.at_, mval oA' oD' nA' nD' uA' uD' m'.oldest m'.at_] w fun e w' => e = .returned (.bool (decide (m = m'))) ∧ Below w.heap.size w w' := by
  obtain ⟨p0, c0, rfl⟩ := h.o.1.form
  obtain ⟨p1, c1, rfl⟩ := h.o.2.form
  obtain ⟨p2, c2, rfl⟩ := h.n.1.form
  obtain ⟨p3, c3, rfl⟩ := h.n.2.form
  obtain ⟨p4, c4, rfl⟩ := h.u.1.form
  obtain ⟨p5, c5, rfl⟩ := h.u.2.form
  obtain ⟨q0, d0, rfl⟩ := h'.o.1.form
  obtain ⟨q1, d1, rfl⟩ := h'.o.2.form
  obtain ⟨q2, d2, rfl⟩ := h'.n.1.form
  obtain ⟨q3, d3, rfl⟩ := h'.n.2.form
  obtain ⟨q4, d4, rfl⟩ := h'.u.1.form
  obtain ⟨q5, d5, rfl⟩ := h'.u.2.form
  have P1 := hid (fun (W : World) (B : Below w.heap.size w W) => psametier_any _ _ _ _ m.older m'.older W (h.o.below B) (h'.o.below B))
  have P2 := hid (fun (W : World) (B : Below w.heap.size w W) => psametier_any _ _ _ _ m.newer m'.newer W (h.n.below B) (h'.n.below B))
  have P3 := hid (fun (W : World) (B : Below w.heap.size w W) => psametier_any _ _ _ _ m.out m'.out W (h.u.below B) (h'.u.below B))
  have E : Hid (decide (m = m') = (decide (m.oldest = m'.oldest) && decide (m.at_ = m'.at_) && decide (m.older = m'.older) && decide (m.newer = m'.newer) && decide (m.out = m'.out))) := by
    show _ = _
    obtain ⟨t, u, ob, n, r⟩ := m
    obtain ⟨t', u', ob', n', r'⟩ := m'
    rw [Bool.eq_iff_iff]
    simp [Mg.mk.injEq]
    constructor
    · rintro ⟨a, b, c, d, e⟩; exact ⟨⟨⟨⟨c, d⟩, a⟩, b⟩, e⟩
    · rintro ⟨⟨⟨⟨c, d⟩, a⟩, b⟩, e⟩; exact ⟨a, b, c, d, e⟩
  rw [E.out]
  clear h h' E
  unfold mval
  obtain ⟨t, u, ob, n, r⟩ := m
  obtain ⟨t', u', ob', n', r'⟩ := m'
  simp only at *
  generalize decide (t = t') = e1 at *
  generalize decide (u = u') = e2 at *
  generalize decide (r = r') = e3 at *
  have st := hid ((MB.new w (.slice p0 t.1.length c0) (.slice p1 t.2.length c1) (.slice p2 u.1.length c2) (.slice p3 u.2.length c3) ob n (.slice p4 r.1.length c4) (.slice p5 r.2.length c5) 26).keep (below_alloc _ (.cells #[.slice q0 t'.1.length d0, .slice q1 t'.2.length d1, .slice q2 u'.1.length d2, .slice q3 u'.2.length d3, .bool ob', .int .i64 n', .slice q4 r'.1.length d4, .slice q5 r'.2.length d5] 26)))
  have su := hid (MB.new (w.alloc (.cells #[.slice p0 t.1.length c0, .slice p1 t.2.length c1, .slice p2 u.1.length c2, .slice p3 u.2.length c3, .bool ob, .int .i64 n, .slice p4 r.1.length c4, .slice p5 r.2.length c5] 26)) (.slice q0 t'.1.length d0) (.slice q1 t'.2.length d1) (.slice q2 u'.1.length d2) (.slice q3 u'.2.length d3) ob' n' (.slice q4 r'.1.length d4) (.slice q5 r'.2.length d5) 26)
  by_cases hb : ob = ob'
  · subst hb
    by_cases hn : n = n'
    · subst hn
      go_enter Try.func35, Try.ntmps35
      go_wp2_with fail
      refine (P1.out _ st.out.1).mono ?_
      rintro e w1 ⟨rfl, B⟩
      replace st := hid (st.out.keep B)
      replace su := hid (su.out.keep B)
      cases e1
      · go_wp2_with fail
        go_ret
        exact ⟨by simp, st.out.1⟩
      · obtain ⟨-, a0, a1, a2, a3, a4, a5, a6, a7, a8⟩ := st.out
        obtain ⟨-, b0, b1, b2, b3, b4, b5, b6, b7, b8⟩ := su.out
        simp only [World.size_alloc] at b0 b1 b2 b3 b4 b5 b6 b7 b8
        go_wp2_with fail
        refine (P2.out _ st.out.1).mono ?_
        rintro e w2 ⟨rfl, B⟩
        replace st := hid (st.out.keep B)
        replace su := hid (su.out.keep B)
        clear a0 a1 a2 a3 a4 a5 a6 a7 a8 b0 b1 b2 b3 b4 b5 b6 b7 b8
        cases e2
        · go_wp2_with fail
          go_ret
          exact ⟨by simp, st.out.1⟩
        · obtain ⟨-, a0, a1, a2, a3, a4, a5, a6, a7, a8⟩ := st.out
          obtain ⟨-, b0, b1, b2, b3, b4, b5, b6, b7, b8⟩ := su.out
          simp only [World.size_alloc] at b0 b1 b2 b3 b4 b5 b6 b7 b8
          go_wp2_with fail
          refine (P3.out _ st.out.1).mono ?_
          rintro e w3 ⟨rfl, B⟩
          replace st := hid (st.out.keep B)
          clear a0 a1 a2 a3 a4 a5 a6 a7 a8 b0 b1 b2 b3 b4 b5 b6 b7 b8
          go_wp2_with fail
          go_ret
          exact ⟨by simp, st.out.1⟩
    · have q : (n == n') = false := by simpa using hn
      have qd : decide (n = n') = false := by simpa using hn
      rw [qd]
      clear hn qd
      go_enter Try.func35, Try.ntmps35
      go_wp2_with fail
      go_ret
      exact ⟨by simp, st.out.1⟩
  · have q : (ob == ob') = false := by simpa using hb
    have qd : decide (ob = ob') = false := by simpa using hb
    rw [qd]
    clear hb qd
    go_enter Try.func35, Try.ntmps35
    go_wp2_with fail
    go_ret
    exact ⟨by simp, st.out.1⟩

/-- both rows of a tier in blocks of the call's own. -/
structure TFr (B : Nat) (w : World) (vA vD : Value) (t : Tr) : Prop where
  a : PFr B w vA t.1
  d : PFr B w vD t.2
theorem TFr.pair {B : Nat} {w : World} {vA vD : Value} {t : Tr} (h : TFr B w vA vD t) : TPair w vA vD t := ⟨h.a.1, h.d.1⟩
theorem TFr.below {B : Nat} {w w' : World} {vA vD : Value} {t : Tr} (h : TFr B w vA vD t) (hb : Below w.heap.size w w') : TFr B w' vA vD t := ⟨h.a.below hb, h.d.below hb⟩
theorem TFr.weaken {B B' : Nat} {w : World} {vA vD : Value} {t : Tr} (h : TFr B w vA vD t) (hB : B' ≤ B) : TFr B' w vA vD t := ⟨h.a.weaken hB, h.d.weaken hB⟩
theorem PFr.nil (B : Nat) (w : World) : PFr B w (.slice none 0 0) [] := ⟨PRow.nil w, fun h => by simp at h⟩
theorem TFr.nil (B : Nat) (w : World) : TFr B w (.slice none 0 0) (.slice none 0 0) ([], []) := ⟨PFr.nil B w, PFr.nil B w⟩
/-- the tier's box and the result's. -/
abbrev OT (w : World) (x y : Value) (W : World) : Prop := Below w.heap.size w W ∧ w.heap.size < W.heap.size ∧ w.heap.size + 1 < W.heap.size ∧ W.cell? ⟨w.heap.size, 0, none⟩ = some x ∧ W.cell? ⟨w.heap.size, 1, none⟩ = some y ∧ W.cell? ⟨w.heap.size + 1, 0, none⟩ = some (.slice none 0 0) ∧ W.cell? ⟨w.heap.size + 1, 1, none⟩ = some (.slice none 0 0) ∧ W.frozen? ⟨w.heap.size + 1, 0, none⟩ = false ∧ W.frozen? ⟨w.heap.size + 1, 1, none⟩ = false
theorem OT.keep {w : World} {x y : Value} {W W' : World} (h : OT w x y W) (B : Below W.heap.size W W') : OT w x y W' := by
  obtain ⟨h0, h1', h1, h2, h3, h4, h5, h6, h7⟩ := h
  have := B.size
  exact ⟨bel_step h0 B, by omega, by omega, cellB B h2, cellB B h3, cellB B h4, cellB B h5, ((bcell B).2 _ _ (by omega)).trans h6, ((bcell B).2 _ _ (by omega)).trans h7⟩
theorem OT.new (w : World) (x y : Value) : OT w x y ((w.alloc (.cells #[x, y] 24)).alloc (.cells #[.slice none 0 0, .slice none 0 0] 24)) :=
  ⟨by
    show Below _ _ _
    repeat' (first | exact Below.refl _ _ | with_reducible refine Below.alloc ?_ ?_ _ | with_reducible refine Below.setCell ?_ ?_ _ | with_reducible refine Below.drew ?_ | with_reducible refine below_drewN ?_ _ | refine Below.trans ?_ (Below.mono (by assumption) ?_))
    all_goals (first | omega | (simp <;> omega))
    , by simp <;> omega, by simp, by go_simp, by go_simp, by go_simp, by go_simp, by go_simp, by go_simp⟩

set_option maxRecDepth 100000 in
set_option maxHeartbeats 2000000 in
theorem powntier_any (vA vD : Value) (t : Tr) (w : World) (h : TPair w vA vD t) (l1 : t.1.length ≤ 100000000) (l2 : t.2.length ≤ 100000000) :
    Calls Try.prog 100 #[.agg #[vA, vD]] w fun e w' => (∃ uA uD, e = .returned (.agg #[uA, uD]) ∧ TFr w.heap.size w' uA uD t) ∧ Below w.heap.size w w' := by
  have C1 := hid (fun (W : World) (B : Below w.heap.size w W) => clone_any vA t.1 W (h.1.below B) l1)
  have C2 := hid (fun (W : World) (B : Below w.heap.size w W) => clone_any vD t.2 W (h.2.below B) l2)
  obtain ⟨p0, c0, rfl⟩ := h.1.form
  obtain ⟨p1, c1, rfl⟩ := h.2.form
  have st := OT.new w (.slice p0 t.1.length c0) (.slice p1 t.2.length c1)
  clear h l1 l2
  go_enter Try.func100, Try.ntmps100
  go_wp2_with fail
  generalize ((w.alloc (.cells #[.slice p0 t.1.length c0, .slice p1 t.2.length c1] 24)).alloc (.cells #[.slice none 0 0, .slice none 0 0] 24)) = W0 at *
  replace st : OT w (.slice p0 t.1.length c0) (.slice p1 t.2.length c1) W0.drew := st.keep (below_drew _)
  obtain ⟨z0, z0', z1, z2, z3, z4, z5, z6, z7⟩ := id st
  go_region_held3 (fun W => W.cell? ⟨w.heap.size, 0, none⟩ = some (.slice p0 t.1.length c0) ∧ W.cell? ⟨w.heap.size, 1, none⟩ = some (.slice p1 t.2.length c1)) (first | exact ⟨by assumption, by assumption⟩ | assumption | go_keep)
    (first | (go_at_call 98; first | (refine (C1.out _ (st.1)).mono ?_; rintro e wa ⟨⟨v1, rfl, h1⟩, B⟩; have hx := OT.keep st B; obtain ⟨q0, d0, rfl⟩ := h1.row.form; have g1 := hid (h1.fr.weaken (show w.heap.size + 2 ≤ _ from st.2.2.1)); clear h1 B) | (refine (C2.out _ (hx.1)).mono ?_; rintro e wb ⟨⟨v2, rfl, h2⟩, B2⟩; have hy := OT.keep hx B2; obtain ⟨q1, d1, rfl⟩ := h2.row.form; have g2 := hid (h2.fr.weaken (show w.heap.size + 2 ≤ _ from hx.2.2.1)); have g3 := hid (g1.out.below B2); clear h2 B2 g1; obtain ⟨y0, y0', y1, y2, y3, y4, y5, y6, y7⟩ := id hy)))
  all_goals
    have ks : Keeps (fun k => k ≠ w.heap.size + 1) wb ((wb.setCell ⟨w.heap.size + 1, 0, none⟩ (.slice q0 t.1.length d0)).setCell ⟨w.heap.size + 1, 1, none⟩ (.slice q1 t.2.length d1)) :=
      ((Keeps.refl _ _).setCell (Or.inr (by simp)) _).setCell (Or.inr (by simp)) _
    have n0 : ((wb.setCell ⟨w.heap.size + 1, 0, none⟩ (.slice q0 t.1.length d0)).setCell ⟨w.heap.size + 1, 1, none⟩ (.slice q1 t.2.length d1)).cell? ⟨w.heap.size + 1, 0, none⟩ = some (.slice q0 t.1.length d0) := by go_simp
    have n1 : ((wb.setCell ⟨w.heap.size + 1, 0, none⟩ (.slice q0 t.1.length d0)).setCell ⟨w.heap.size + 1, 1, none⟩ (.slice q1 t.2.length d1)).cell? ⟨w.heap.size + 1, 1, none⟩ = some (.slice q1 t.2.length d1) := by go_simp
    generalize ((wb.setCell ⟨w.heap.size + 1, 0, none⟩ (.slice q0 t.1.length d0)).setCell ⟨w.heap.size + 1, 1, none⟩ (.slice q1 t.2.length d1)) = W2 at *
    have F : Hid (TFr w.heap.size W2 (.slice q0 t.1.length d0) (.slice q1 t.2.length d1) t ∧ Below w.heap.size w W2) :=
      ⟨⟨(g3.out.keepK ks (fun k hk => by omega)).weaken (by omega), (g2.out.keepK ks (fun k hk => by omega)).weaken (by omega)⟩, bel_keep y0 ks (fun k hk => by omega)⟩
    clear ks y0 y0' y1 y2 y3 y4 y5 y6 y7 z0 z0' z1 z2 z3 z4 z5 z6 z7 C1 C2 g2 g3
    go_wp2_with fail
    refine ⟨rfl, .agg #[.slice q0 t.1.length d0, .slice q1 t.2.length d1], by simp [results, Try.results100, go_sem, n0, n1], ⟨_, _, rfl, F.out.1⟩, F.out.2⟩
end Go.Proofs.Ytlkdkhmdmgchbaa
