/- the program's merges: Check. -/
import Derived.Test.YtlkdkhmdmgchbaaH14
import Derived.Deep.QuietTactic
import Derived.BigQuiet
namespace Go.Proofs.Ytlkdkhmdmgchbaa
set_option linter.unusedSimpArgs false
set_option linter.unusedVariables false
open Go.RowKit

theorem putL_is {t u : Tr} (ht : oneL t = true) (hu : oneL u = true) (ob : Bool) (k : Nat) : (((pairsL t u).take k).filter (fun p => addsL t u p), ((pairsL t u).take k).filter (fun p => !addsL t u p && !ob)) = outL t u ob k := by
  unfold outL
  have e1 : (fun p => addsL t u p) = (fun p => decide (saysL [t, u] p = 1)) := funext fun p => addsL_is ht hu p
  have e2 : (fun p => !addsL t u p && !ob) = (fun p => !(decide (saysL [t, u] p = 1)) && !ob) := funext fun p => by rw [addsL_is ht hu p]
  rw [e1, e2]

set_option maxRecDepth 100000 in
set_option maxHeartbeats 4000000 in
theorem pcheck_any (oA oD nA nD uA uD : Value) (m : Mg) (w : World) (h : MIs w oA oD nA nD uA uD m) (hs : m.small) :
    Calls Try.prog 34 #[mval oA oD nA nD uA uD m.oldest m.at_] w fun e w' => e = .returned (errno (mright m) 220) ∧ Below w.heap.size w w' := by
  obtain ⟨p0, c0, rfl⟩ := h.o.1.form
  obtain ⟨p1, c1, rfl⟩ := h.o.2.form
  obtain ⟨p2, c2, rfl⟩ := h.n.1.form
  obtain ⟨p3, c3, rfl⟩ := h.n.2.form
  obtain ⟨p4, c4, rfl⟩ := h.u.1.form
  obtain ⟨p5, c5, rfl⟩ := h.u.2.form
  have TC := hid (fun (W : World) (v : Value) (hT : TRow W v [m.older, m.newer]) => tcheck_any v [m.older, m.newer] W hT (by obtain ⟨h1, h2, h3, h4⟩ := hs; intro t ht; simp only [List.mem_cons, List.not_mem_nil, or_false] at ht; rcases ht with rfl | rfl <;> omega) (by simp))
  have P := hid (fun (W : World) (B : Below w.heap.size w W) => ppairs_any _ _ _ _ _ _ m W (h.below B) hs)
  have H := hid h; have HS := hid hs
  clear h hs
  have E : Hid (mright m = (([m.older, m.newer].all oneL) && decide (0 ≤ m.at_) && decide (m.at_ ≤ (pairsL m.older m.newer).length) && decide (m.out = outL m.older m.newer m.oldest m.at_.toNat))) := by
    show _ = _
    simp [mright, Bool.and_assoc]
  rw [E.out]
  clear E
  unfold mval at P ⊢
  obtain ⟨t, u, ob, n, r⟩ := m
  simp only at *
  have st := MB.new w (.slice p0 t.1.length c0) (.slice p1 t.2.length c1) (.slice p2 u.1.length c2) (.slice p3 u.2.length c3) ob n (.slice p4 r.1.length c4) (.slice p5 r.2.length c5) 26
  have st := hid (st.keep (below_alloc _ (.cells #[.slice p0 t.1.length c0, .slice p1 t.2.length c1, .slice p2 u.1.length c2, .slice p3 u.2.length c3] 24)))
  have HT := hid (fun (W : World) (B : Below w.heap.size w W) (g : Nat) (a0 : W.cell? ⟨g, 0, none⟩ = _) (a1 : W.cell? ⟨g, 1, none⟩ = _) (a2 : W.cell? ⟨g, 2, none⟩ = _) (a3 : W.cell? ⟨g, 3, none⟩ = _) => TRow.of2 a0 a1 a2 a3 (H.out.o.below B) (H.out.n.below B))
  cases hT : [t, u].all oneL
  · rw [hT] at TC
    clear hT P
    go_enter Try.func34, Try.ntmps34
    go_wp2_with fail
    refine (TC.out _ _ (HT.out _ st.out.1 _ (by go_simp) (by go_simp) (by go_simp) (by go_simp))).mono ?_
    rintro e w1 ⟨rfl, B⟩
    replace st := hid (st.out.keep B)
    clear B TC HT
    go_wp2_with fail
    go_ret
    exact ⟨by simp, st.out.1⟩
  · rw [hT] at TC
    obtain ⟨ht, hu⟩ : oneL t = true ∧ oneL u = true := by simpa using hT
    have EQ := hid (fun (k : Nat) => putL_is ht hu ob k)
    have PU := hid (fun (va vb : Value) (W : World) (B : Below w.heap.size w W) (v : Value) (l : List Pr) (hl : PRow W v l) (hlen : l.length ≤ 1000000) => put_any (.slice none 0 0) (.slice none 0 0) (.slice p0 t.1.length c0) (.slice p1 t.2.length c1) (.slice p2 u.1.length c2) (.slice p3 u.2.length c3) (.slice p4 r.1.length c4) (.slice p5 r.2.length c5) v ob n ([], []) t u l W ⟨PRow.nil W, PRow.nil W⟩ (H.out.o.below B) (H.out.n.below B) hl ⟨⟨_, _, _, rfl⟩, ⟨_, _, _, rfl⟩⟩ (oneL_rises ht).1 (oneL_rises hu).1 (oneL_rises hu).2 (by simp) (by simp) hlen (by have := HS.out.1; simp only at this; omega) (by have := HS.out.2.2.1; simp only at this; omega) (by have := HS.out.2.2.2; simp only at this; omega))
    rw [oneL_pairs ht hu] at P
    have PL := hid (pairsL_len t u)
    have PT := hid (fun (W : World) (B : Below w.heap.size w W) => H.out.u.below B)
    unfold mval at PU
    simp only [List.nil_append] at PU
    clear hT ht hu
    go_enter Try.func34, Try.ntmps34
    go_wp2_with fail
    refine (TC.out _ _ (HT.out _ st.out.1 _ (by go_simp) (by go_simp) (by go_simp) (by go_simp))).mono ?_
    rintro e w1 ⟨rfl, B⟩
    replace st := hid (st.out.keep B)
    clear B TC HT
    obtain ⟨z0, z1, z2, z3, z4, z5, z6, z7, z8, z9⟩ := st.out
    go_wp2_with fail
    refine (P.out _ st.out.1).mono ?_
    rintro e w2 ⟨⟨v1, rfl, h1⟩, B⟩
    replace st := hid (st.out.keep B)
    clear z0 z1 z2 z3 z4 z5 z6 z7 z8 z9 B P
    have R1 := hid h1.row
    obtain ⟨p9, c9, rfl⟩ := h1.row.form
    clear h1
    have LE : Hid ((pairsL t u).length ≤ 800000) := by
      have := PL.out; obtain ⟨h1, h2, h3, h4⟩ := HS.out; simp only at *; show _ ≤ _; omega
    have CA : Hid ((pairsL t u).length ≤ c9) := by
      obtain ⟨p', cap', e, h1, _⟩ := R1.out
      simp only [Value.slice.injEq, true_and] at e
      show _ ≤ _; omega
    obtain ⟨L, hLL⟩ : ∃ L, pairsL t u = L := ⟨_, rfl⟩
    rw [hLL] at LE CA R1 EQ ⊢
    have HE := hid hLL; clear hLL PL
    go_wp2_with fail
    have g0 : decide ((1048576 : Int) < (L.length : Int)) = false := by have := LE.out; simp; omega
    obtain ⟨z0, z1, z2, z3, z4, z5, z6, z7, z8, z9⟩ := st.out
    by_cases hn : n < 0
    · have HN : Hid (decide (0 ≤ n) = false) := by show _ = _; simp; omega
      have g1 : decide (n < 0) = true := by simpa using hn
      go_quiet (fail)
      all_goals
        go_wp2_with fail
        go_ret
        exact ⟨by simp [HN.out], below_drewN st.out.1 _⟩
    · obtain ⟨k, rfl⟩ := Int.eq_ofNat_of_zero_le (show 0 ≤ n by omega)
      have g1 : decide ((k : Int) < 0) = false := by simp
      by_cases hl : k ≤ L.length
      · have HL : Hid (decide ((k : Int) ≤ (L.length : Int)) = true) := by show _ = _; simpa using hl
        have g3 : decide ((L.length : Int) < (k : Int)) = false := by simp; omega
        have g2 : decide (L.length < k) = false := by simp; omega
        have g2' : Hid (k ≤ L.length) := hl
        have g4 : (0 : Int) ≤ (k : Int) := by omega
        have g5 : (k : Int) ≤ (c9 : Int) := by have := CA.out; omega
        have g6 : k ≤ c9 := by have := CA.out; omega
        have HK : Hid ((L.take k).length ≤ 1000000) := by have := LE.out; show _ ≤ _; rw [List.length_take]; omega
        have EK := hid (EQ.out k)
        replace R1 := hid ((R1.out.take k hl).below (below_drew _))
        clear hn hl
        replace st : MB w w.heap.size (.slice p0 t.1.length c0) (.slice p1 t.2.length c1) (.slice p2 u.1.length c2) (.slice p3 u.2.length c3) ob k (.slice p4 r.1.length c4) (.slice p5 r.2.length c5) w2.drew := st.out.keep (below_drew _)
        go_region_held3 (fun W => Below w.heap.size w W ∧ W.cell? ⟨w.heap.size, 0, none⟩ = some (.slice p0 t.1.length c0) ∧ W.cell? ⟨w.heap.size, 1, none⟩ = some (.slice p1 t.2.length c1) ∧ W.cell? ⟨w.heap.size, 2, none⟩ = some (.slice p2 u.1.length c2) ∧ W.cell? ⟨w.heap.size, 3, none⟩ = some (.slice p3 u.2.length c3) ∧ W.cell? ⟨w.heap.size, 4, none⟩ = some (.bool ob) ∧ W.cell? ⟨w.heap.size, 5, none⟩ = some (.int .i64 (k : Int)) ∧ W.cell? ⟨w.heap.size, 6, none⟩ = some (.slice p4 r.1.length c4) ∧ W.cell? ⟨w.heap.size, 7, none⟩ = some (.slice p5 r.2.length c5) ∧ w.heap.size < W.heap.size) (first | assumption | go_keep)
          (first | (go_at_call 101; refine (PU.out undef undef _ st.1 (.slice p9 k c9) (L.take k) R1.out HK.out).mono ?_; rintro e wa ⟨⟨vA, vD, rfl, h1, h2⟩, B⟩; have hx := MB.keep st B; have TP : Hid (TPair wa vA vD (outL t u ob k)) := (by rw [← EK.out]; exact ⟨h1.1, h2.1⟩); obtain ⟨q1, d1, rfl⟩ := h1.1.form; obtain ⟨q2, d2, rfl⟩ := h2.1.form; clear h1 h2 B) | (go_at_call 106; refine (psametier_any _ _ _ _ r (outL t u ob k) _ (PT.out _ hx.1) TP.out).mono ?_; rintro e wb ⟨rfl, B⟩; have hy := MB.keep hx B; clear B))
        all_goals
          go_wp2_with fail
          all_goals
            go_ret
            rename_i hq
            refine ⟨?_, hy.1⟩
            simp at hq
            simp [HE.out, g2'.out, hq]
      · have HL : Hid (decide ((k : Int) ≤ (L.length : Int)) = false) := by show _ = _; simpa using hl
        have g3 : decide ((L.length : Int) < (k : Int)) = true := by simp; omega
        have g2 : decide (L.length < k) = true := by simp; omega
        have g2' : Hid (L.length < k) := (by show _ < _; omega)
        go_quiet (fail)
        all_goals
          go_wp2_with fail
          go_ret
          exact ⟨by have := g2'.out; simp [HE.out]; intros; omega, below_drewN st.out.1 _⟩
end Go.Proofs.Ytlkdkhmdmgchbaa
