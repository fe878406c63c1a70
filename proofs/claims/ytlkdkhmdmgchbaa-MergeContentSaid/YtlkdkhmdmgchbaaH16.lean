/- the program's merges: Left, End. -/
import Derived.Test.YtlkdkhmdmgchbaaH15
namespace Go.Proofs.Ytlkdkhmdmgchbaa
set_option linter.unusedSimpArgs false
set_option linter.unusedVariables false
open Go.RowKit

/-- how many steps are left, of a merge that may be. -/
def leftL (m : Mg) : Int := if mright m then ((pairsL m.older m.newer).length : Int) - m.at_ else 0
theorem mright_at {m : Mg} (h : mright m = true) : 0 ≤ m.at_ ∧ m.at_ ≤ (pairsL m.older m.newer).length ∧ oneL m.older = true ∧ oneL m.newer = true ∧ m.out = outL m.older m.newer m.oldest m.at_.toNat := by
  unfold mright at h
  simp only [Bool.and_eq_true, decide_eq_true_eq] at h
  obtain ⟨⟨⟨⟨h1, h2⟩, h3⟩, h4⟩, h5⟩ := h
  exact ⟨h3, h4, h1, h2, h5⟩

set_option maxRecDepth 100000 in
set_option maxHeartbeats 4000000 in
theorem pleft_any (oA oD nA nD uA uD : Value) (m : Mg) (w : World) (h : MIs w oA oD nA nD uA uD m) (hs : m.small) :
    Calls Try.prog 38 #[mval oA oD nA nD uA uD m.oldest m.at_] w fun e w' => e = .returned (.int .i64 (leftL m)) ∧ Below w.heap.size w w' := by
  obtain ⟨p0, c0, rfl⟩ := h.o.1.form
  obtain ⟨p1, c1, rfl⟩ := h.o.2.form
  obtain ⟨p2, c2, rfl⟩ := h.n.1.form
  obtain ⟨p3, c3, rfl⟩ := h.n.2.form
  obtain ⟨p4, c4, rfl⟩ := h.u.1.form
  obtain ⟨p5, c5, rfl⟩ := h.u.2.form
  have C := hid (fun (W : World) (B : Below w.heap.size w W) => pcheck_any _ _ _ _ _ _ m W (h.below B) hs)
  have P := hid (fun (W : World) (B : Below w.heap.size w W) => ppairs_any _ _ _ _ _ _ m W (h.below B) hs)
  have PL := hid (pairsL_len m.older m.newer)
  have HS := hid hs
  clear h hs
  unfold mval at P C ⊢
  cases hr : mright m
  · have HR := hid hr
    rw [hr] at C
    have E0 : Hid (leftL m = 0) := by show _ = _; unfold leftL; rw [hr]; rfl
    rw [E0.out]
    obtain ⟨t, u, ob, n, r⟩ := m
    simp only at *
    have st := hid (MB.new w (.slice p0 t.1.length c0) (.slice p1 t.2.length c1) (.slice p2 u.1.length c2) (.slice p3 u.2.length c3) ob n (.slice p4 r.1.length c4) (.slice p5 r.2.length c5) 26)
    clear hr P HR
    go_enter Try.func38, Try.ntmps38
    go_wp2_with fail
    refine (C.out _ st.out.1).mono ?_
    rintro e w1 ⟨rfl, B⟩
    replace st := hid (st.out.keep B)
    clear B C
    go_wp2_with fail
    go_ret
    exact ⟨rfl, st.out.1⟩
  · rw [hr] at C
    obtain ⟨k0, k1, ht, hu, -⟩ := mright_at hr
    rw [oneL_pairs ht hu] at P
    have E0 : Hid (leftL m = ((pairsL m.older m.newer).length : Int) - m.at_) := by show _ = _; unfold leftL; rw [hr]; rfl
    rw [E0.out]
    clear hr ht hu E0
    obtain ⟨t, u, ob, n, r⟩ := m
    simp only at *
    have hw : Hid (IntKind.i64.wrap (((pairsL t u).length : Int) - n) = ((pairsL t u).length : Int) - n) := i64_ok _ (by omega) (by have := PL.out; have := HS.out.1; have := HS.out.2.1; have := HS.out.2.2.1; have := HS.out.2.2.2; simp only at *; omega)
    have st := hid (MB.new w (.slice p0 t.1.length c0) (.slice p1 t.2.length c1) (.slice p2 u.1.length c2) (.slice p3 u.2.length c3) ob n (.slice p4 r.1.length c4) (.slice p5 r.2.length c5) 26)
    clear k0 k1 PL HS
    go_enter Try.func38, Try.ntmps38
    go_wp2_with fail
    refine (C.out _ st.out.1).mono ?_
    rintro e w1 ⟨rfl, B⟩
    replace st := hid (st.out.keep B)
    clear B C
    go_wp2_with fail
    replace st : MB w w.heap.size (.slice p0 t.1.length c0) (.slice p1 t.2.length c1) (.slice p2 u.1.length c2) (.slice p3 u.2.length c3) ob n (.slice p4 r.1.length c4) (.slice p5 r.2.length c5) w1.drew := st.out.keep (below_drew _)
    have hw := hw.out
    go_region_held3 (fun W => Below w.heap.size w W ∧ W.cell? ⟨w.heap.size, 0, none⟩ = some (.slice p0 t.1.length c0) ∧ W.cell? ⟨w.heap.size, 1, none⟩ = some (.slice p1 t.2.length c1) ∧ W.cell? ⟨w.heap.size, 2, none⟩ = some (.slice p2 u.1.length c2) ∧ W.cell? ⟨w.heap.size, 3, none⟩ = some (.slice p3 u.2.length c3) ∧ W.cell? ⟨w.heap.size, 4, none⟩ = some (.bool ob) ∧ W.cell? ⟨w.heap.size, 5, none⟩ = some (.int .i64 n) ∧ W.cell? ⟨w.heap.size, 6, none⟩ = some (.slice p4 r.1.length c4) ∧ W.cell? ⟨w.heap.size, 7, none⟩ = some (.slice p5 r.2.length c5) ∧ w.heap.size < W.heap.size) (first | assumption | go_keep)
      (first | (go_at_call 99; refine (P.out _ st.1).mono ?_; rintro e wa ⟨⟨v1, rfl, h1⟩, B⟩; obtain ⟨p9, c9, rfl⟩ := h1.row.form; clear h1; have hx := MB.keep st B; clear B))
    all_goals
      go_wp2_with fail
      go_ret
      exact ⟨rfl, hx.1⟩

/-- what End tells. -/
def endL (m : Mg) : Tr × Int := if mright m then (if 0 < leftL m then (([], []), 221) else (m.out, 0)) else (([], []), 220)
/-- a tier's box that is empty and may be written. -/
abbrev ZT (T : Nat) (W : World) : Prop := W.cell? ⟨T, 0, none⟩ = some (.slice none 0 0) ∧ W.cell? ⟨T, 1, none⟩ = some (.slice none 0 0) ∧ W.frozen? ⟨T, 0, none⟩ = false ∧ W.frozen? ⟨T, 1, none⟩ = false ∧ T < W.heap.size
theorem ZT.keep {T : Nat} {W W' : World} (h : ZT T W) (B : Below W.heap.size W W') : ZT T W' := by
  obtain ⟨h1, h2, h3, h4, h5⟩ := h
  have := B.size
  exact ⟨cellB B h1, cellB B h2, ((bcell B).2 _ _ h5).trans h3, ((bcell B).2 _ _ h5).trans h4, by omega⟩
theorem ZT.new (W : World) (t : Nat) : ZT W.heap.size (W.alloc (.cells #[.slice none 0 0, .slice none 0 0] t)) := ⟨by go_simp, by go_simp, by go_simp, by go_simp, by simp⟩
theorem set2_keeps (W : World) (T : Nat) (a b : Value) : Keeps (fun k => k ≠ T) W ((W.setCell ⟨T, 0, none⟩ a).setCell ⟨T, 1, none⟩ b) := ((Keeps.refl _ _).setCell (Or.inr (by simp)) _).setCell (Or.inr (by simp)) _
theorem ZT.set {T : Nat} {W : World} (h : ZT T W) (a b : Value) : ((W.setCell ⟨T, 0, none⟩ a).setCell ⟨T, 1, none⟩ b).cell? ⟨T, 0, none⟩ = some a ∧ ((W.setCell ⟨T, 0, none⟩ a).setCell ⟨T, 1, none⟩ b).cell? ⟨T, 1, none⟩ = some b := by
  obtain ⟨h1, h2, h3, h4, h5⟩ := h
  exact ⟨by go_simp, by go_simp⟩
set_option maxRecDepth 100000 in
set_option maxHeartbeats 4000000 in
theorem pend_any (oA oD nA nD uA uD : Value) (m : Mg) (w : World) (h : MIs w oA oD nA nD uA uD m) (hs : m.small) (hu : m.out.1.length ≤ 100000000 ∧ m.out.2.length ≤ 100000000) :
    Calls Try.prog 27 #[mval oA oD nA nD uA uD m.oldest m.at_] w fun e w' => (∃ vA vD, e = .returned (.tuple #[.agg #[vA, vD], (.int .i64 ((endL m).2))]) ∧ TFr w.heap.size w' vA vD (endL m).1) ∧ Below w.heap.size w w' := by
  obtain ⟨p0, c0, rfl⟩ := h.o.1.form
  obtain ⟨p1, c1, rfl⟩ := h.o.2.form
  obtain ⟨p2, c2, rfl⟩ := h.n.1.form
  obtain ⟨p3, c3, rfl⟩ := h.n.2.form
  obtain ⟨p4, c4, rfl⟩ := h.u.1.form
  obtain ⟨p5, c5, rfl⟩ := h.u.2.form
  have C := hid (fun (W : World) (B : Below w.heap.size w W) => pcheck_any _ _ _ _ _ _ m W (h.below B) hs)
  have LF := hid (fun (W : World) (B : Below w.heap.size w W) => pleft_any _ _ _ _ _ _ m W (h.below B) hs)
  have OW := hid (fun (W : World) (B : Below w.heap.size w W) => powntier_any _ _ m.out W (h.u.below B) hu.1 hu.2)
  clear h hs hu
  unfold mval at LF C ⊢
  have st := hid ((MB.new w (.slice p0 m.older.1.length c0) (.slice p1 m.older.2.length c1) (.slice p2 m.newer.1.length c2) (.slice p3 m.newer.2.length c3) m.oldest m.at_ (.slice p4 m.out.1.length c4) (.slice p5 m.out.2.length c5) 26).keep (below_alloc _ (.cells #[.slice none 0 0, .slice none 0 0] 24)))
  have zt := hid (ZT.new (w.alloc (.cells #[.slice p0 m.older.1.length c0, .slice p1 m.older.2.length c1, .slice p2 m.newer.1.length c2, .slice p3 m.newer.2.length c3, .bool m.oldest, .int .i64 m.at_, .slice p4 m.out.1.length c4, .slice p5 m.out.2.length c5] 26)) 24)
  simp only [World.size_alloc] at zt
  obtain ⟨a, b, hE⟩ : ∃ a b, endL m = (a, b) := ⟨_, _, rfl⟩
  rw [hE]
  have HE := hid hE; clear hE
  unfold endL at HE
  cases hr : mright m
  · rw [hr] at C HE
    obtain ⟨rfl, rfl⟩ : a = ([], []) ∧ b = 220 := by have := HE.out; simp at this; exact ⟨this.1.symm, this.2.symm⟩
    clear hr LF OW HE
    obtain ⟨t, u, ob, n, r⟩ := m
    simp only at *
    go_enter Try.func27, Try.ntmps27
    go_wp2_with fail
    refine (C.out _ st.out.1).mono ?_
    rintro e w1 ⟨rfl, B⟩
    replace st := hid (st.out.keep B)
    replace zt := hid (zt.out.keep B)
    clear B C
    obtain ⟨y0, y1, y2, y3, y4⟩ := zt.out
    go_wp2_with fail
    have ks := set2_keeps w1 (w.heap.size + 1) (.slice none 0 0) (.slice none 0 0)
    obtain ⟨n0, n1⟩ := zt.out.set (.slice none 0 0) (.slice none 0 0)
    exact ⟨rfl, .tuple #[.agg #[.slice none 0 0, .slice none 0 0], (.int .i64 (220))], by simp [results, Try.results27, go_sem, n0, n1], ⟨_, _, rfl, TFr.nil _ _⟩, bel_keep st.out.1 ks (fun k hk => by omega)⟩
  · rw [hr] at C HE
    clear hr
    by_cases hl : 0 < leftL m
    · obtain ⟨rfl, rfl⟩ : a = ([], []) ∧ b = 221 := by have := HE.out; simp [hl] at this; exact ⟨this.1.symm, this.2.symm⟩
      have g1 : decide (0 < leftL m) = true := by simpa using hl
      have HL := hid g1
      generalize leftL m = d at *
      clear OW HE hl
      obtain ⟨t, u, ob, n, r⟩ := m
      simp only at *
      go_enter Try.func27, Try.ntmps27
      go_wp2_with fail
      refine (C.out _ st.out.1).mono ?_
      rintro e w1 ⟨rfl, B⟩
      replace st := hid (st.out.keep B)
      replace zt := hid (zt.out.keep B)
      clear B C
      obtain ⟨z0, z1, z2, z3, z4, z5, z6, z7, z8, z9⟩ := st.out
      go_wp2_with fail
      clear z0 z1 z2 z3 z4 z5 z6 z7 z8 z9
      refine (LF.out _ st.out.1).mono ?_
      rintro e w2 ⟨rfl, B⟩
      replace st := hid (st.out.keep B)
      replace zt := hid (zt.out.keep B)
      clear B LF
      have g1 := HL.out
      simp only [decide_eq_true_eq] at g1
      obtain ⟨y0, y1, y2, y3, y4⟩ := zt.out
      go_wp2_with fail
      have ks := set2_keeps w2 (w.heap.size + 1) (.slice none 0 0) (.slice none 0 0)
      obtain ⟨n0, n1⟩ := zt.out.set (.slice none 0 0) (.slice none 0 0)
      exact ⟨rfl, .tuple #[.agg #[.slice none 0 0, .slice none 0 0], (.int .i64 (221))], by simp [results, Try.results27, go_sem, n0, n1], ⟨_, _, rfl, TFr.nil _ _⟩, bel_keep st.out.1 ks (fun k hk => by omega)⟩
    · obtain ⟨rfl, rfl⟩ : a = m.out ∧ b = 0 := by have := HE.out; simp [hl] at this; exact ⟨this.1.symm, this.2.symm⟩
      have HL := hid hl
      generalize leftL m = d at *
      clear HE hl
      obtain ⟨t, u, ob, n, r⟩ := m
      simp only at *
      go_enter Try.func27, Try.ntmps27
      go_wp2_with fail
      refine (C.out _ st.out.1).mono ?_
      rintro e w1 ⟨rfl, B⟩
      replace st := hid (st.out.keep B)
      replace zt := hid (zt.out.keep B)
      clear B C
      obtain ⟨z0, z1, z2, z3, z4, z5, z6, z7, z8, z9⟩ := st.out
      go_wp2_with fail
      clear z0 z1 z2 z3 z4 z5 z6 z7 z8 z9
      refine (LF.out _ st.out.1).mono ?_
      rintro e w2 ⟨rfl, B⟩
      replace st := hid (st.out.keep B)
      replace zt := hid (zt.out.keep B)
      clear B LF
      have g1 : ¬ (0 < d) := by have := HL.out; omega
      obtain ⟨z0, z1, z2, z3, z4, z5, z6, z7, z8, z9⟩ := st.out
      go_wp2_with fail
      refine (OW.out _ st.out.1).mono ?_
      rintro e w3 ⟨⟨vA, vD, rfl, h1⟩, B⟩
      have F := hid (h1.weaken (show w.heap.size + 2 ≤ w2.heap.size from zt.out.2.2.2.2))
      obtain ⟨q0, d0, rfl⟩ := h1.a.1.form
      obtain ⟨q1, d1, rfl⟩ := h1.d.1.form
      replace st := hid (st.out.keep B)
      replace zt := hid (zt.out.keep B)
      clear z0 z1 z2 z3 z4 z5 z6 z7 z8 z9 OW
      clear h1 B
      obtain ⟨y0, y1, y2, y3, y4⟩ := zt.out
      go_wp2_with fail
      have ks := set2_keeps w3 (w.heap.size + 1) (.slice q0 r.1.length d0) (.slice q1 r.2.length d1)
      obtain ⟨n0, n1⟩ := zt.out.set (.slice q0 r.1.length d0) (.slice q1 r.2.length d1)
      exact ⟨rfl, .tuple #[.agg #[.slice q0 r.1.length d0, .slice q1 r.2.length d1], (.int .i64 (0))], by simp [results, Try.results27, go_sem, n0, n1], ⟨_, _, rfl, ⟨(F.out.a.keepK ks (fun k hk => by omega)).weaken (by omega), (F.out.d.keepK ks (fun k hk => by omega)).weaken (by omega)⟩⟩, bel_keep st.out.1 ks (fun k hk => by omega)⟩
end Go.Proofs.Ytlkdkhmdmgchbaa
