/- the document's merges: the walk of Out. -/
import Derived.Test.YtlkdkhmdmgchbaaF9
namespace Go.Proofs.Ytlkdkhmdmgchbaa
set_option linter.unusedSimpArgs false
set_option linter.unusedVariables false
open Go.RowKit

/-- a merge as a value. -/
def mval (oA oD nA nD uA uD : Value) (ob : Bool) (n : Int) : Value := .agg #[oA, oD, nA, nD, .bool ob, .int .i64 n, uA, uD]

set_option maxRecDepth 100000 in
set_option maxHeartbeats 4000000 in
theorem out_own (oA oD nA nD uA uD : Value) (ob : Bool) (n : Int) (t u r : Tr) (at_ : Nat) (w : World) (h : TPair w oA oD t) (h' : TPair w nA nD u) (h'' : TPair w uA uD r)
    (l1 : t.1.length ≤ 200000) (l2 : t.2.length ≤ 200000) (l3 : u.1.length ≤ 200000) (l4 : u.2.length ≤ 200000) (hat : at_ ≤ (pairsL t u).length) :
    Calls Try.prog 104 #[mval oA oD nA nD uA uD ob n, (.int .i64 (at_))] w fun e w' => (∃ vA vD, e = .returned (.agg #[vA, vD]) ∧ POwn w.heap.size w' vA (outL t u ob at_).1 ∧ POwn w.heap.size w' vD (outL t u ob at_).2) ∧ Below w.heap.size w w' := by
  obtain ⟨pA, cA, rfl⟩ := h.1.form
  obtain ⟨pD, cD, rfl⟩ := h.2.form
  obtain ⟨pB, cB, rfl⟩ := h'.1.form
  obtain ⟨pE, cE, rfl⟩ := h'.2.form
  obtain ⟨pF, cF, rfl⟩ := h''.1.form
  obtain ⟨pG, cG, rfl⟩ := h''.2.form
  have H := hid h; have H' := hid h'
  have LL := hid (And.intro l1 (And.intro l2 (And.intro l3 l4)))
  clear h h' h'' l1 l2 l3 l4
  unfold mval
  go_enter Try.func104, Try.ntmps104
  go_wp2_with fail
  have BEL : Hid (Below w.heap.size w ((((w.alloc (.cells #[.slice pA t.1.length cA, .slice pD t.2.length cD, .slice pB u.1.length cB, .slice pE u.2.length cE, .bool ob, .int .i64 n, .slice pF r.1.length cF, .slice pG r.2.length cG] 26)).alloc (.cells #[.slice none 0 0, .slice none 0 0] 24)).alloc (.cells #[.slice none 0 0, .slice none 0 0] 24)).alloc (.cells #[.slice pA t.1.length cA, .slice pD t.2.length cD, .slice pB u.1.length cB, .slice pE u.2.length cE] 24))) := by
    show Below _ _ _
    repeat' (first | exact Below.refl _ _ | with_reducible refine Below.alloc ?_ ?_ _ | with_reducible refine Below.setCell ?_ ?_ _ | with_reducible refine Below.drew ?_ | with_reducible refine below_drewN ?_ _ | refine Below.trans ?_ (Below.mono (by assumption) ?_))
    all_goals (first | omega | (simp <;> omega))
  have q0 : Hid (∀ W, W = ((((w.alloc (.cells #[.slice pA t.1.length cA, .slice pD t.2.length cD, .slice pB u.1.length cB, .slice pE u.2.length cE, .bool ob, .int .i64 n, .slice pF r.1.length cF, .slice pG r.2.length cG] 26)).alloc (.cells #[.slice none 0 0, .slice none 0 0] 24)).alloc (.cells #[.slice none 0 0, .slice none 0 0] 24)).alloc (.cells #[.slice pA t.1.length cA, .slice pD t.2.length cD, .slice pB u.1.length cB, .slice pE u.2.length cE] 24)) → W.cell? ⟨w.heap.size, 4, none⟩ = some (.bool ob) ∧
     W.cell? ⟨(w.heap.size + 1), 0, none⟩ = some (.slice none 0 0) ∧ W.cell? ⟨(w.heap.size + 1), 1, none⟩ = some (.slice none 0 0) ∧ W.frozen? ⟨(w.heap.size + 1), 0, none⟩ = false ∧ W.frozen? ⟨(w.heap.size + 1), 1, none⟩ = false ∧
     W.cell? ⟨(w.heap.size + 1 + 1), 0, none⟩ = some (.slice none 0 0) ∧ W.cell? ⟨(w.heap.size + 1 + 1), 1, none⟩ = some (.slice none 0 0) ∧ W.frozen? ⟨(w.heap.size + 1 + 1), 0, none⟩ = false ∧ W.frozen? ⟨(w.heap.size + 1 + 1), 1, none⟩ = false ∧
     W.cell? ⟨(w.heap.size + 1 + 1 + 1), 0, none⟩ = some (.slice pA t.1.length cA) ∧ W.cell? ⟨(w.heap.size + 1 + 1 + 1), 1, none⟩ = some (.slice pD t.2.length cD) ∧ W.cell? ⟨(w.heap.size + 1 + 1 + 1), 2, none⟩ = some (.slice pB u.1.length cB) ∧ W.cell? ⟨(w.heap.size + 1 + 1 + 1), 3, none⟩ = some (.slice pE u.2.length cE) ∧ (w.heap.size + 1 + 1 + 1) < W.heap.size) := by
    rintro W rfl
    refine ⟨by go_simp, by go_simp, by go_simp, by go_simp, by go_simp, by go_simp, by go_simp, by go_simp, by go_simp, by go_simp, by go_simp, by go_simp, by go_simp, by simp⟩
  generalize ((((w.alloc (.cells #[.slice pA t.1.length cA, .slice pD t.2.length cD, .slice pB u.1.length cB, .slice pE u.2.length cE, .bool ob, .int .i64 n, .slice pF r.1.length cF, .slice pG r.2.length cG] 26)).alloc (.cells #[.slice none 0 0, .slice none 0 0] 24)).alloc (.cells #[.slice none 0 0, .slice none 0 0] 24)).alloc (.cells #[.slice pA t.1.length cA, .slice pD t.2.length cD, .slice pB u.1.length cB, .slice pE u.2.length cE] 24)) = W1 at *
  have Q0 := hid (q0.out W1 rfl)
  clear q0
  refine (pairs_any _ _ _ _ t u _ (H.out.below BEL.out) (H'.out.below BEL.out) LL.out.1 LL.out.2.1 LL.out.2.2.1 LL.out.2.2.2).mono ?_
  rintro e W2 ⟨⟨v18, rfl, hp⟩, B⟩
  have PS := hid hp
  have Q1 : Hid (W2.cell? ⟨w.heap.size, 4, none⟩ = some (.bool ob) ∧ (W2.cell? ⟨(w.heap.size + 1), 0, none⟩ = some (.slice none 0 0) ∧ W2.cell? ⟨(w.heap.size + 1), 1, none⟩ = some (.slice none 0 0) ∧ W2.frozen? ⟨(w.heap.size + 1), 0, none⟩ = false ∧ W2.frozen? ⟨(w.heap.size + 1), 1, none⟩ = false) ∧
     OutI W2 (w.heap.size + 1 + 1) [] [] (.slice none 0 0) (.slice none 0 0) W2 ∧
     (W2.cell? ⟨(w.heap.size + 1 + 1 + 1), 0, none⟩ = some (.slice pA t.1.length cA) ∧ W2.cell? ⟨(w.heap.size + 1 + 1 + 1), 1, none⟩ = some (.slice pD t.2.length cD) ∧ W2.cell? ⟨(w.heap.size + 1 + 1 + 1), 2, none⟩ = some (.slice pB u.1.length cB) ∧ W2.cell? ⟨(w.heap.size + 1 + 1 + 1), 3, none⟩ = some (.slice pE u.2.length cE)) ∧ (w.heap.size + 1 + 1 + 1) < W1.heap.size ∧ (w.heap.size + 1 + 1 + 1) < W2.heap.size) := by
    obtain ⟨a0, a1, a2, a3, a4, a5, a6, a7, a8, a9, b0, b1, b2, b3⟩ := Q0.out
    have hs := B.size
    refine ⟨cellB B a0, ⟨cellB B a1, cellB B a2, (B.frozen (p := ⟨(w.heap.size + 1), 0, none⟩) (show w.heap.size + 1 < _ by omega)).trans a3, (B.frozen (p := ⟨(w.heap.size + 1), 1, none⟩) (show w.heap.size + 1 < _ by omega)).trans a4⟩,
      ⟨Keeps.refl _ _, cellB B a5, cellB B a6, (B.frozen (p := ⟨(w.heap.size + 1 + 1), 0, none⟩) (show w.heap.size + 1 + 1 < _ by omega)).trans a7, (B.frozen (p := ⟨(w.heap.size + 1 + 1), 1, none⟩) (show w.heap.size + 1 + 1 < _ by omega)).trans a8, POwn.nil _ _, POwn.nil _ _, fun k e => (by cases e), by omega⟩,
      ⟨cellB B a9, cellB B b0, cellB B b1, cellB B b2⟩, b3, by omega⟩
  clear Q0 hp
  replace BEL := hid (bel_step BEL.out B)
  clear B
  obtain ⟨p18, c18, rfl⟩ := PS.out.row.form
  have hcap : (at_ : Int) ≤ (c18 : Int) := by
    obtain ⟨p', cap', e, h1, _⟩ := PS.out.row
    simp only [Value.slice.injEq, true_and] at e
    omega
  have HAT := hid hat
  clear hat
  go_wp2_with fail
  go_loopw [22] (fun v22 wr => ∃ (k : Nat) (vA vD : Value), v22 = (.int .i64 (k)) ∧ k ≤ at_ ∧ Hid (OutI W2 (w.heap.size + 1 + 1) (outL t u ob k).1 (outL t u ob k).2 vA vD wr)) (fun v22 _ => at_ - (intOf v22).toNat)
  case atStart => exact ⟨0, _, _, rfl, Nat.zero_le _, Q1.out.2.2.1⟩
  case round =>
    obtain ⟨k, vA, vD, rfl, hk, I⟩ := hrel
    have BELR := hid (bel_keep BEL.out I.out.keep (fun k hk e => by omega))
    have PSR : Hid (PRow wr (.slice p18 at_ c18) ((pairsL t u).take at_)) := by
      have q : POwn W1.heap.size wr (.slice p18 (pairsL t u).length c18) (pairsL t u) := PS.out.keepK I.out.keep (fun k e e' => by
        have := PS.out.lt k e
        have := Q1.out.2.2.2.2.1
        omega)
      exact q.row.take at_ HAT.out
    have S3W := Q1.out.2.2.2.2.2
    have hs2 := I.out.keep.size
    obtain ⟨z0, z1, z2, z3⟩ := Q1.out.2.2.2.1
    have k0 := (I.out.keep.cell (b := w.heap.size + 1 + 1 + 1) (o := 0) (by omega) (by omega)).trans z0
    have k1 := (I.out.keep.cell (b := w.heap.size + 1 + 1 + 1) (o := 1) (by omega) (by omega)).trans z1
    have k2 := (I.out.keep.cell (b := w.heap.size + 1 + 1 + 1) (o := 2) (by omega) (by omega)).trans z2
    have k3 := (I.out.keep.cell (b := w.heap.size + 1 + 1 + 1) (o := 3) (by omega) (by omega)).trans z3
    have TW : Hid (TRow wr (.slice (some ⟨(w.heap.size + 1 + 1 + 1), 0, none⟩) 2 2) [t, u]) := TRow.of2 k0 k1 k2 k3 (H.out.below BELR.out) (H'.out.below BELR.out)
    have OB : Hid (wr.cell? ⟨w.heap.size, 4, none⟩ = some (.bool ob) ∧ w.heap.size < wr.heap.size) := ⟨(I.out.keep.cell (by omega) (by omega)).trans Q1.out.1, by omega⟩
    clear k0 k1 k2 k3 z0 z1 z2 z3
    by_cases hgo : k < at_
    · have hgo' : (k : Int) < (at_ : Int) := by omega
      have hlen : ((pairsL t u).take at_).length = at_ := by have := HAT.out; rw [List.length_take]; omega
      have hwk : IntKind.i64.wrap ((k : Int) + 1) = ((k + 1 : Nat) : Int) := by
        have := PSR.out.len
        rw [hlen] at this
        rw [i64_ok _ (by omega) (by omega)]; omega
      have hgl : k < ((pairsL t u).take at_).length := by omega
      obtain ⟨g, o, cap, hv, hcell⟩ := PSR.out.cell (by omega)
      simp only [Value.slice.injEq] at hv
      obtain ⟨hv, -, -⟩ := hv
      subst hv
      obtain ⟨d0, d1⟩ := hcell k hgl
      have hgp : k < (pairsL t u).length := by have := HAT.out; omega
      have ts : (pairsL t u).take (k + 1) = (pairsL t u).take k ++ [((pairsL t u).take at_)[k]] := by
        rw [List.take_succ_eq_append_getElem hgp, List.getElem_take]
      generalize ((pairsL t u).take at_)[k] = x at *
      obtain ⟨x0, x1⟩ := x
      simp only at d0 d1
      have FA := hid (filter_take_succ (fun p => decide (saysL [t, u] p = 1)) ts)
      have FD := hid (filter_take_succ (fun p => !(decide (saysL [t, u] p = 1)) && !ob) ts)
      have LA : Hid (((outL t u ob k).1).length ≤ 800000 ∧ ((outL t u ob k).2).length ≤ 800000) := by
        have a := pairsL_len t u
        have b := LL.out
        have c := filter_take_len (pairsL t u) (fun p => decide (saysL [t, u] p = 1)) k
        have d := filter_take_len (pairsL t u) (fun p => !(decide (saysL [t, u] p = 1)) && !ob) k
        exact ⟨Nat.le_trans c (by omega), Nat.le_trans d (by omega)⟩
      clear hcell ts hlen hgl hgp
      go_wp2_with fail
      refine (says_any _ [t, u] x0 x1 _ (TW.out.below (below_alloc _ _))).mono ?_
      rintro e w3 ⟨rfl, B⟩
      have bE := hid ((Bx.new wr x0 x1 52).keep B)
      replace B := blift B
      have I2 := hid (I.out.below B)
      have OB2 : Hid (w3.cell? ⟨w.heap.size, 4, none⟩ = some (.bool ob)) := cellB B OB.out.1
      clear d0 d1 TW I PSR B OB BELR
      obtain ⟨E, hE⟩ : ∃ E, E = wr.heap.size := ⟨_, rfl⟩
      rw [← hE] at bE ⊢
      clear hE
      obtain ⟨e0, e1, eS⟩ := bE.out
      have ob2 := OB2.out
      have c0 := I2.out.c0
      have c1 := I2.out.c1
      have f0 := I2.out.f0
      have f1 := I2.out.f1
      obtain ⟨pa, ca, hA⟩ := I2.out.oA.row.form
      obtain ⟨pd, cd, hD⟩ := I2.out.oD.row.form
      subst hA
      subst hD
      have size3 := I2.out.keep.size
      by_cases hs : saysL [t, u] (x0, x1) = 1
      · have hs' : (saysL [t, u] (x0, x1) == 1) = true := by simpa using hs
        have hd : decide (saysL [t, u] (x0, x1) = 1) = true := by simpa using hs
        rw [hd, if_pos rfl] at FA
        simp only [hd, Bool.not_true, Bool.false_and, Bool.false_eq_true, if_false, List.append_nil] at FD
        have E1 : Hid (outL t u ob (k + 1) = ((outL t u ob k).1 ++ [(x0, x1)], (outL t u ob k).2)) := Prod.ext FA.out FD.out
        clear hs hd FA FD
        generalize saysL [t, u] (x0, x1) = s at *
        go_wp2_with (first | (at_builtin; refine appK rfl _ _ rfl W2.heap.size (.slice pa (outL t u ob k).1.length ca) (outL t u ob k).1 x0 x1 w3 rfl rfl rfl I2.out.oA size3 ?_ ?_))
        · have := LA.out.1; omega
        · intro v' w4 hown hkk hb
          have hT := World.lt_of_cell I2.out.c0
          have nT : some (w.heap.size + 1 + 1) ≠ (Value.slice pa (outL t u ob k).1.length ca).ownBlock := fun e => I2.out.oA.fresh I2.out.lt e.symm
          have g0 := (hkk.cell hT nT).trans c0
          have g1 := (hkk.cell hT nT).trans c1
          have g2 := (hkk.frozen hT nT).trans f0
          have g3 := (hkk.frozen hT nT).trans f1
          have I3 := hid (I2.out.addA hown hkk hb)
          obtain ⟨pn, cn, hn⟩ := hown.row.form
          subst hn
          clear hown hkk hb nT c0 c1 f0 f1 e0 e1 ob2 bE
          go_wp2_with fail
          have I4 := I3.out
          rw [List.length_append, List.length_singleton] at I4
          refine ⟨⟨k + 1, .slice pn ((outL t u ob k).1.length + 1) cn, .slice pd (outL t u ob k).2.length cd, by simp, hgo, ?_⟩, by simp [intOf]; omega⟩
          show OutI _ _ _ _ _ _ _
          rw [E1.out]
          exact I4
      · have hs' : (saysL [t, u] (x0, x1) == 1) = false := by simpa using hs
        have hd : decide (saysL [t, u] (x0, x1) = 1) = false := by simpa using hs
        rw [hd] at FA
        simp only [Bool.false_eq_true, if_false, List.append_nil] at FA
        have EO : Hid ((ob = false → outL t u ob (k + 1) = ((outL t u ob k).1, (outL t u ob k).2 ++ [(x0, x1)])) ∧ (ob = true → outL t u ob (k + 1) = outL t u ob k)) := by
          refine ⟨fun ho => ?_, fun ho => ?_⟩
          · have hc : (!(decide (saysL [t, u] (x0, x1) = 1)) && !ob) = true := by rw [hd, ho]; rfl
            have b := FD.out
            rw [if_pos hc] at b
            exact Prod.ext FA.out b
          · have hc : ¬ (!(decide (saysL [t, u] (x0, x1) = 1)) && !ob) = true := by rw [hd, ho]; simp
            have b := FD.out
            rw [if_neg hc, List.append_nil] at b
            exact Prod.ext FA.out b
        clear FA FD
        generalize saysL [t, u] (x0, x1) = s at *
        clear hs hd
        rcases (Bool.eq_false_or_eq_true ob).symm with hob | hob
        · have E1 := hid (EO.out.1 hob)
          rw [hob] at ob2
          clear EO hob
          go_wp2_with (first | (at_builtin; refine appK rfl _ _ rfl W2.heap.size (.slice pd (outL t u ob k).2.length cd) (outL t u ob k).2 x0 x1 w3 rfl rfl rfl I2.out.oD size3 ?_ ?_))
          · have := LA.out.2; omega
          · intro v' w4 hown hkk hb
            have hT := World.lt_of_cell I2.out.c0
            have nT : some (w.heap.size + 1 + 1) ≠ (Value.slice pd (outL t u ob k).2.length cd).ownBlock := fun e => I2.out.oD.fresh I2.out.lt e.symm
            have g0 := (hkk.cell hT nT).trans c0
            have g1 := (hkk.cell hT nT).trans c1
            have g2 := (hkk.frozen hT nT).trans f0
            have g3 := (hkk.frozen hT nT).trans f1
            have I3 := hid (I2.out.addD hown hkk hb)
            obtain ⟨pn, cn, hn⟩ := hown.row.form
            subst hn
            clear hown hkk hb nT c0 c1 f0 f1 e0 e1 ob2 bE
            go_wp2_with fail
            have I4 := I3.out
            rw [List.length_append, List.length_singleton] at I4
            refine ⟨⟨k + 1, .slice pa (outL t u ob k).1.length ca, .slice pn ((outL t u ob k).2.length + 1) cn, by simp, hgo, ?_⟩, by simp [intOf]; omega⟩
            show OutI _ _ _ _ _ _ _
            rw [E1.out]
            exact I4
        · have E1 := hid (EO.out.2 hob)
          rw [hob] at ob2
          clear EO hob
          go_wp2_with fail
          refine ⟨⟨k + 1, .slice pa (outL t u ob k).1.length ca, .slice pd (outL t u ob k).2.length cd, by simp, hgo, ?_⟩, by simp [intOf]; omega⟩
          show OutI _ _ _ _ _ _ _
          rw [E1.out]
          exact I2.out
    · have h1 : ¬ (k : Int) < (at_ : Int) := by omega
      obtain rfl : k = at_ := by omega
      clear hgo TW OB PSR
      obtain ⟨pa, ca, hA⟩ := I.out.oA.row.form
      obtain ⟨pd, cd, hD⟩ := I.out.oD.row.form
      subst hA
      subst hD
      have c0 := I.out.c0
      have c1 := I.out.c1
      obtain ⟨y0, y1, y2, y3⟩ := Q1.out.2.1
      have r0 := (I.out.keep.cell (b := w.heap.size + 1) (o := 0) (by omega) (by omega)).trans y0
      have r1 := (I.out.keep.cell (b := w.heap.size + 1) (o := 1) (by omega) (by omega)).trans y1
      have r2 := (I.out.keep.frozen (b := w.heap.size + 1) (o := 0) (by omega) (by omega)).trans y2
      have r3 := (I.out.keep.frozen (b := w.heap.size + 1) (o := 1) (by omega) (by omega)).trans y3
      clear y0 y1 y2 y3
      go_wp2_with fail
      have kA : Keeps (fun j => j ≠ w.heap.size + 1) wr ((wr.setCell ⟨(w.heap.size + 1), 0, none⟩ (.slice pa (outL t u ob k).1.length ca)).setCell ⟨(w.heap.size + 1), 1, none⟩ (.slice pd (outL t u ob k).2.length cd)) := ((Keeps.refl _ _).setCell (Or.inr (by simp)) _).setCell (Or.inr (by simp)) _
      refine bodyPost_ret (v := .agg #[.slice pa (outL t u ob k).1.length ca, .slice pd (outL t u ob k).2.length cd]) (by simp [results, Try.results104, go_sem, r0, r1]) rfl ⟨⟨_, _, rfl, ?_, ?_⟩, ?_⟩
      · exact (I.out.oA.keepK kA (fun j e e' => by have := I.out.oA.lt j e; omega)).weaken BEL.out.size
      · exact (I.out.oD.keepK kA (fun j e e' => by have := I.out.oD.lt j e; omega)).weaken BEL.out.size
      · exact (BELR.out.setCell (by simp) _).setCell (by simp) _
theorem out_any (oA oD nA nD uA uD : Value) (ob : Bool) (n : Int) (t u r : Tr) (at_ : Nat) (w : World) (h : TPair w oA oD t) (h' : TPair w nA nD u) (h'' : TPair w uA uD r)
    (l1 : t.1.length ≤ 200000) (l2 : t.2.length ≤ 200000) (l3 : u.1.length ≤ 200000) (l4 : u.2.length ≤ 200000) (hat : at_ ≤ (pairsL t u).length) :
    Calls Try.prog 104 #[mval oA oD nA nD uA uD ob n, (.int .i64 (at_))] w fun e w' => (∃ vA vD, e = .returned (.agg #[vA, vD]) ∧ TPair w' vA vD (outL t u ob at_)) ∧ Below w.heap.size w w' := by
  refine (out_own oA oD nA nD uA uD ob n t u r at_ w h h' h'' l1 l2 l3 l4 hat).mono ?_
  rintro e w' ⟨⟨vA, vD, rfl, h1, h2⟩, hb⟩
  exact ⟨⟨_, _, rfl, h1.row, h2.row⟩, hb⟩
end Go.Proofs.Ytlkdkhmdmgchbaa
