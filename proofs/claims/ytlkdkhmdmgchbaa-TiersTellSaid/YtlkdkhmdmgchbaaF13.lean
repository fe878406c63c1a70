/- the document's merges: Right. -/
import Derived.Test.YtlkdkhmdmgchbaaF12
namespace Go.Proofs.Ytlkdkhmdmgchbaa
set_option linter.unusedSimpArgs false
set_option linter.unusedVariables false
open Go.RowKit

/-- may a merge be? -/
def mright (m : Mg) : Bool := oneL m.older && oneL m.newer && decide (0 ≤ m.at_) && decide (m.at_ ≤ (pairsL m.older m.newer).length) && decide (m.out = outL m.older m.newer m.oldest m.at_.toNat)

set_option maxRecDepth 100000 in
set_option maxHeartbeats 4000000 in
theorem mright_any (oA oD nA nD uA uD : Value) (m : Mg) (w : World) (h : MIs w oA oD nA nD uA uD m) (hs : m.small) :
    Calls Try.prog 28 #[mval oA oD nA nD uA uD m.oldest m.at_] w fun e w' => e = .returned (.bool (mright m)) ∧ Below w.heap.size w w' := by
  obtain ⟨p0, c0, rfl⟩ := h.o.1.form
  obtain ⟨p1, c1, rfl⟩ := h.o.2.form
  obtain ⟨p2, c2, rfl⟩ := h.n.1.form
  obtain ⟨p3, c3, rfl⟩ := h.n.2.form
  obtain ⟨p4, c4, rfl⟩ := h.u.1.form
  obtain ⟨p5, c5, rfl⟩ := h.u.2.form
  have O1 := hid (fun (W : World) (B : Below w.heap.size w W) => one_any _ _ m.older W (h.o.below B) (by have := hs.1; omega))
  have O2 := hid (fun (W : World) (B : Below w.heap.size w W) => one_any _ _ m.newer W (h.n.below B) (by have := hs.2.2.1; omega))
  have P := hid (fun (W : World) (B : Below w.heap.size w W) => pairs_any _ _ _ _ m.older m.newer W (h.o.below B) (h.n.below B) hs.1 hs.2.1 hs.2.2.1 hs.2.2.2)
  have H := hid h; have HS := hid hs
  clear h hs
  have E : Hid (mright m = (oneL m.older && oneL m.newer && decide (0 ≤ m.at_) && decide (m.at_ ≤ (pairsL m.older m.newer).length) && decide (m.out = outL m.older m.newer m.oldest m.at_.toNat))) := rfl
  rw [E.out]
  clear E
  unfold mval
  obtain ⟨t, u, ob, n, r⟩ := m
  simp only at *
  have st := MB.new w (.slice p0 t.1.length c0) (.slice p1 t.2.length c1) (.slice p2 u.1.length c2) (.slice p3 u.2.length c3) ob n (.slice p4 r.1.length c4) (.slice p5 r.2.length c5) 26
  have st := st.keep (below_drew _)
  go_enter Try.func28, Try.ntmps28
  go_wp2_with fail
  generalize (w.alloc (.cells #[.slice p0 t.1.length c0, .slice p1 t.2.length c1, .slice p2 u.1.length c2, .slice p3 u.2.length c3, .bool ob, .int .i64 n, .slice p4 r.1.length c4, .slice p5 r.2.length c5] 26)) = W0 at *
  obtain ⟨s0, a0, a1, a2, a3, a4, a5, a6, a7, a8⟩ := id st
  cases h1 : oneL t
  · have HR := hid h1
    rw [h1] at O1
    clear h1 st
    go_region_with (first | (go_at_call 37; refine (O1.out _ s0).mono ?_; rintro e wa ⟨rfl, B⟩; have hx := MB.keep ⟨s0, a0, a1, a2, a3, a4, a5, a6, a7, a8⟩ B; clear B; rename_i K hK; refine hK _ _ ?_; clear hK K; refine wpAny_take (i := 3) (v := .bool true) rfl (by kernel_rfl) (by kernel_rfl) (by kernel_rfl) (fun _ _ _ h => h) (Or.inl ⟨by kernel_rfl, fun w => by go_simp⟩) ?_; refine wpAny_take (i := 4) (v := .bool true) rfl (by kernel_rfl) (by kernel_rfl) (by kernel_rfl) (fun _ _ _ h => h) (Or.inl ⟨by kernel_rfl, fun w => by go_simp⟩) ?_; refine wpAny_take (i := 5) (v := undef) rfl (by kernel_rfl) (by kernel_rfl) (by kernel_rfl) (fun _ _ _ h => h) (Or.inr ⟨by kernel_rfl, rfl⟩) ?_; refine wpAny_take (i := 6) (v := undef) rfl (by kernel_rfl) (by kernel_rfl) (by kernel_rfl) (fun _ _ _ h => h) (Or.inr ⟨by kernel_rfl, rfl⟩) ?_; refine wpAny_ready (rs := [7]) (by kernel_rfl) (by simp) ?_; refine AllReady.cons rfl (fun K hK => ?_) AllReady.nil; go_simp; refine hK _ _ ?_; clear hK K; refine wpAny_take (i := 8) (v := undef) rfl (by kernel_rfl) (by kernel_rfl) (by kernel_rfl) (fun _ _ _ h => h) (Or.inr ⟨by kernel_rfl, rfl⟩) ?_; refine wpAny_take (i := 9) (v := .bool true) rfl (by kernel_rfl) (by kernel_rfl) (by kernel_rfl) (fun _ _ _ h => h) (Or.inl ⟨by kernel_rfl, fun w => by go_simp⟩) ?_; refine wpAny_take (i := 10) (v := .bool true) rfl (by kernel_rfl) (by kernel_rfl) (by kernel_rfl) (fun _ _ _ h => h) (Or.inl ⟨by kernel_rfl, fun w => by go_simp⟩) ?_; refine wpAny_take (i := 11) (v := undef) rfl (by kernel_rfl) (by kernel_rfl) (by kernel_rfl) (fun _ _ _ h => h) (Or.inr ⟨by kernel_rfl, rfl⟩) ?_; refine wpAny_take (i := 12) (v := undef) rfl (by kernel_rfl) (by kernel_rfl) (by kernel_rfl) (fun _ _ _ h => h) (Or.inr ⟨by kernel_rfl, rfl⟩) ?_; refine wpAny_take (i := 13) (v := undef) rfl (by kernel_rfl) (by kernel_rfl) (by kernel_rfl) (fun _ _ _ h => h) (Or.inr ⟨by kernel_rfl, rfl⟩) ?_; refine wpAny_take (i := 14) (v := .bool true) rfl (by kernel_rfl) (by kernel_rfl) (by kernel_rfl) (fun _ _ _ h => h) (Or.inl ⟨by kernel_rfl, fun w => by go_simp⟩) ?_; refine wpAny_take (i := 15) (v := .bool true) rfl (by kernel_rfl) (by kernel_rfl) (by kernel_rfl) (fun _ _ _ h => h) (Or.inl ⟨by kernel_rfl, fun w => by go_simp⟩) ?_; refine wpAny_take (i := 16) (v := undef) rfl (by kernel_rfl) (by kernel_rfl) (by kernel_rfl) (fun _ _ _ h => h) (Or.inr ⟨by kernel_rfl, rfl⟩) ?_; refine wpAny_take (i := 17) (v := undef) rfl (by kernel_rfl) (by kernel_rfl) (by kernel_rfl) (fun _ _ _ h => h) (Or.inr ⟨by kernel_rfl, rfl⟩) ?_; refine wpAny_take (i := 18) (v := undef) rfl (by kernel_rfl) (by kernel_rfl) (by kernel_rfl) (fun _ _ _ h => h) (Or.inr ⟨by kernel_rfl, rfl⟩) ?_; refine wpAny_take (i := 19) (v := undef) rfl (by kernel_rfl) (by kernel_rfl) (by kernel_rfl) (fun _ _ _ h => h) (Or.inr ⟨by kernel_rfl, rfl⟩) ?_; refine wpAny_take (i := 20) (v := undef) rfl (by kernel_rfl) (by kernel_rfl) (by kernel_rfl) (fun _ _ _ h => h) (Or.inr ⟨by kernel_rfl, rfl⟩) ?_; refine wpAny_take (i := 21) (v := undef) rfl (by kernel_rfl) (by kernel_rfl) (by kernel_rfl) (fun _ _ _ h => h) (Or.inr ⟨by kernel_rfl, rfl⟩) ?_; refine wpAny_ready (rs := [22]) (by kernel_rfl) (by simp) ?_; refine AllReady.cons rfl (fun K hK => ?_) AllReady.nil; go_simp; refine hK _ _ ?_; clear hK K; refine wpAny_ready (rs := [23]) (by kernel_rfl) (by simp) ?_; refine AllReady.cons rfl (fun K hK => ?_) AllReady.nil; go_simp; refine hK _ _ ?_; clear hK K; refine wpAny_take (i := 24) (v := undef) rfl (by kernel_rfl) (by kernel_rfl) (by kernel_rfl) (fun _ _ _ h => h) (Or.inr ⟨by kernel_rfl, rfl⟩) ?_; refine wpAny_take (i := 25) (v := .bool true) rfl (by kernel_rfl) (by kernel_rfl) (by kernel_rfl) (fun _ _ _ h => h) (Or.inl ⟨by kernel_rfl, fun w => by go_simp⟩) ?_))
    all_goals
      go_wp2_with fail
      go_ret
      exact ⟨by simp [HR.out], hx.1⟩
  · have HR := hid h1
    rw [h1] at O1
    clear h1
    cases h2 : oneL u
    · have HR2 := hid h2
      rw [h2] at O2
      clear h2 st
      go_region_with (first | (go_at_call 37; refine (O1.out _ s0).mono ?_; clear O1; rintro e wa ⟨rfl, B⟩; have hx := MB.keep ⟨s0, a0, a1, a2, a3, a4, a5, a6, a7, a8⟩ B; clear B; obtain ⟨z0, z1, z2, z3, z4, z5, z6, z7, z8, z9⟩ := id hx) | (go_at_call 37; refine (O2.out _ hx.1).mono ?_; rintro e wb ⟨rfl, B⟩; have hy := MB.keep hx B; clear B; rename_i K hK; refine hK _ _ ?_; clear hK K; refine wpAny_take (i := 8) (v := .bool true) rfl (by kernel_rfl) (by kernel_rfl) (by kernel_rfl) (fun _ _ _ h => h) (Or.inl ⟨by kernel_rfl, fun w => by go_simp⟩) ?_; refine wpAny_take (i := 9) (v := .bool true) rfl (by kernel_rfl) (by kernel_rfl) (by kernel_rfl) (fun _ _ _ h => h) (Or.inl ⟨by kernel_rfl, fun w => by go_simp⟩) ?_; refine wpAny_take (i := 10) (v := .bool true) rfl (by kernel_rfl) (by kernel_rfl) (by kernel_rfl) (fun _ _ _ h => h) (Or.inl ⟨by kernel_rfl, fun w => by go_simp⟩) ?_; refine wpAny_take (i := 11) (v := undef) rfl (by kernel_rfl) (by kernel_rfl) (by kernel_rfl) (fun _ _ _ h => h) (Or.inr ⟨by kernel_rfl, rfl⟩) ?_; refine wpAny_take (i := 12) (v := undef) rfl (by kernel_rfl) (by kernel_rfl) (by kernel_rfl) (fun _ _ _ h => h) (Or.inr ⟨by kernel_rfl, rfl⟩) ?_; refine wpAny_take (i := 13) (v := undef) rfl (by kernel_rfl) (by kernel_rfl) (by kernel_rfl) (fun _ _ _ h => h) (Or.inr ⟨by kernel_rfl, rfl⟩) ?_; refine wpAny_take (i := 14) (v := .bool true) rfl (by kernel_rfl) (by kernel_rfl) (by kernel_rfl) (fun _ _ _ h => h) (Or.inl ⟨by kernel_rfl, fun w => by go_simp⟩) ?_; refine wpAny_take (i := 15) (v := .bool true) rfl (by kernel_rfl) (by kernel_rfl) (by kernel_rfl) (fun _ _ _ h => h) (Or.inl ⟨by kernel_rfl, fun w => by go_simp⟩) ?_; refine wpAny_take (i := 16) (v := undef) rfl (by kernel_rfl) (by kernel_rfl) (by kernel_rfl) (fun _ _ _ h => h) (Or.inr ⟨by kernel_rfl, rfl⟩) ?_; refine wpAny_take (i := 17) (v := undef) rfl (by kernel_rfl) (by kernel_rfl) (by kernel_rfl) (fun _ _ _ h => h) (Or.inr ⟨by kernel_rfl, rfl⟩) ?_; refine wpAny_take (i := 18) (v := undef) rfl (by kernel_rfl) (by kernel_rfl) (by kernel_rfl) (fun _ _ _ h => h) (Or.inr ⟨by kernel_rfl, rfl⟩) ?_; refine wpAny_take (i := 19) (v := undef) rfl (by kernel_rfl) (by kernel_rfl) (by kernel_rfl) (fun _ _ _ h => h) (Or.inr ⟨by kernel_rfl, rfl⟩) ?_; refine wpAny_take (i := 20) (v := undef) rfl (by kernel_rfl) (by kernel_rfl) (by kernel_rfl) (fun _ _ _ h => h) (Or.inr ⟨by kernel_rfl, rfl⟩) ?_; refine wpAny_take (i := 21) (v := undef) rfl (by kernel_rfl) (by kernel_rfl) (by kernel_rfl) (fun _ _ _ h => h) (Or.inr ⟨by kernel_rfl, rfl⟩) ?_; refine wpAny_ready (rs := [22]) (by kernel_rfl) (by simp) ?_; refine AllReady.cons rfl (fun K hK => ?_) AllReady.nil; go_simp; refine hK _ _ ?_; clear hK K; refine wpAny_ready (rs := [23]) (by kernel_rfl) (by simp) ?_; refine AllReady.cons rfl (fun K hK => ?_) AllReady.nil; go_simp; refine hK _ _ ?_; clear hK K; refine wpAny_take (i := 24) (v := undef) rfl (by kernel_rfl) (by kernel_rfl) (by kernel_rfl) (fun _ _ _ h => h) (Or.inr ⟨by kernel_rfl, rfl⟩) ?_; refine wpAny_take (i := 25) (v := .bool true) rfl (by kernel_rfl) (by kernel_rfl) (by kernel_rfl) (fun _ _ _ h => h) (Or.inl ⟨by kernel_rfl, fun w => by go_simp⟩) ?_))
      all_goals
        go_wp2_with fail
        go_ret
        exact ⟨by simp [HR.out, HR2.out], hy.1⟩
    · have HR2 := hid h2
      rw [h2] at O2
      clear h2
      by_cases hn : n < 0
      · have HN : Hid (decide (0 ≤ n) = false) := by show _ = _; simp; omega
        clear st
        go_region_with (first | (go_at_call 37; refine (O1.out _ s0).mono ?_; clear O1; rintro e wa ⟨rfl, B⟩; have hx := MB.keep ⟨s0, a0, a1, a2, a3, a4, a5, a6, a7, a8⟩ B; clear B; obtain ⟨z0, z1, z2, z3, z4, z5, z6, z7, z8, z9⟩ := id hx) | (go_at_call 37; refine (O2.out _ hx.1).mono ?_; rintro e wb ⟨rfl, B⟩; have hy := MB.keep hx B; clear B; obtain ⟨y0, y1, y2, y3, y4, y5, y6, y7, y8, y9⟩ := id hy; rename_i K hK; refine hK _ _ ?_; clear hK K; refine wpAny_take (i := 8) (v := .bool false) rfl (by kernel_rfl) (by kernel_rfl) (by kernel_rfl) (fun _ _ _ h => h) (Or.inl ⟨by kernel_rfl, fun w => by go_simp⟩) ?_; refine wpAny_take (i := 9) (v := .bool false) rfl (by kernel_rfl) (by kernel_rfl) (by kernel_rfl) (fun _ _ _ h => h) (Or.inl ⟨by kernel_rfl, fun w => by go_simp⟩) ?_; refine wpAny_take (i := 10) (v := .bool false) rfl (by kernel_rfl) (by kernel_rfl) (by kernel_rfl) (fun _ _ _ h => h) (Or.inl ⟨by kernel_rfl, fun w => by go_simp⟩) ?_; refine wpAny_take (i := 11) (v := .pointer (some ⟨w.heap.size, 5, none⟩)) rfl (by kernel_rfl) (by kernel_rfl) (by kernel_rfl) (fun _ _ _ h => h) (Or.inl ⟨by kernel_rfl, fun w => by go_simp⟩) ?_; refine wpAny_ready (rs := [12]) (by kernel_rfl) (by simp) ?_; refine AllReady.cons rfl (fun K hK => ?_) AllReady.nil; go_simp; refine hK _ _ ?_; clear hK K; refine wpAny_take (i := 13) (v := .bool true) rfl (by kernel_rfl) (by kernel_rfl) (by kernel_rfl) (fun _ _ _ h => h) (Or.inl ⟨by kernel_rfl, fun w => by go_simp⟩) ?_; refine wpAny_take (i := 14) (v := .bool true) rfl (by kernel_rfl) (by kernel_rfl) (by kernel_rfl) (fun _ _ _ h => h) (Or.inl ⟨by kernel_rfl, fun w => by go_simp⟩) ?_; refine wpAny_take (i := 15) (v := .bool true) rfl (by kernel_rfl) (by kernel_rfl) (by kernel_rfl) (fun _ _ _ h => h) (Or.inl ⟨by kernel_rfl, fun w => by go_simp⟩) ?_; refine wpAny_take (i := 16) (v := undef) rfl (by kernel_rfl) (by kernel_rfl) (by kernel_rfl) (fun _ _ _ h => h) (Or.inr ⟨by kernel_rfl, rfl⟩) ?_; refine wpAny_take (i := 17) (v := undef) rfl (by kernel_rfl) (by kernel_rfl) (by kernel_rfl) (fun _ _ _ h => h) (Or.inr ⟨by kernel_rfl, rfl⟩) ?_; refine wpAny_take (i := 18) (v := undef) rfl (by kernel_rfl) (by kernel_rfl) (by kernel_rfl) (fun _ _ _ h => h) (Or.inr ⟨by kernel_rfl, rfl⟩) ?_; refine wpAny_take (i := 19) (v := undef) rfl (by kernel_rfl) (by kernel_rfl) (by kernel_rfl) (fun _ _ _ h => h) (Or.inr ⟨by kernel_rfl, rfl⟩) ?_; refine wpAny_take (i := 20) (v := undef) rfl (by kernel_rfl) (by kernel_rfl) (by kernel_rfl) (fun _ _ _ h => h) (Or.inr ⟨by kernel_rfl, rfl⟩) ?_; refine wpAny_take (i := 21) (v := undef) rfl (by kernel_rfl) (by kernel_rfl) (by kernel_rfl) (fun _ _ _ h => h) (Or.inr ⟨by kernel_rfl, rfl⟩) ?_; refine wpAny_ready (rs := [22]) (by kernel_rfl) (by simp) ?_; refine AllReady.cons rfl (fun K hK => ?_) AllReady.nil; go_simp; refine hK _ _ ?_; clear hK K; refine wpAny_ready (rs := [23]) (by kernel_rfl) (by simp) ?_; refine AllReady.cons rfl (fun K hK => ?_) AllReady.nil; go_simp; refine hK _ _ ?_; clear hK K; refine wpAny_take (i := 24) (v := undef) rfl (by kernel_rfl) (by kernel_rfl) (by kernel_rfl) (fun _ _ _ h => h) (Or.inr ⟨by kernel_rfl, rfl⟩) ?_; refine wpAny_take (i := 25) (v := .bool true) rfl (by kernel_rfl) (by kernel_rfl) (by kernel_rfl) (fun _ _ _ h => h) (Or.inl ⟨by kernel_rfl, fun w => by go_simp⟩) ?_))
        all_goals
          go_wp2_with fail
          go_ret
          exact ⟨by simp [HR.out, HR2.out, HN.out], hy.1⟩
      · obtain ⟨k, rfl⟩ := Int.eq_ofNat_of_zero_le (show 0 ≤ n by omega)
        have HN : Hid (decide (0 ≤ (k : Int)) = true) := by show _ = _; simp
        have K0 : ¬ ((k : Int) < 0) := by omega
        clear a0 a1 a2 a3 a4 a5 a6 a7 a8 s0 hn
        by_cases hl : k ≤ (pairsL t u).length
        · have HL : Hid (decide ((k : Int) ≤ ((pairsL t u).length : Int)) = true) := by show _ = _; simpa using hl
          have OT := hid (fun (W : World) (B : Below w.heap.size w W) => out_any _ _ _ _ _ _ ob k t u r k W (H.out.o.below B) (H.out.n.below B) (H.out.u.below B) HS.out.1 HS.out.2.1 HS.out.2.2.1 HS.out.2.2.2 hl)
          have UR := hid (fun (W : World) (B : Below w.heap.size w W) => H.out.u.below B)
          simp only [mval] at OT
          have hl' : ¬ ((pairsL t u).length < k) := by omega
          have hl2 : ¬ (((pairsL t u).length : Int) < (k : Int)) := by omega
          clear hl
          go_region_held3 (fun W => Below w.heap.size w W ∧ W.cell? ⟨w.heap.size, 0, none⟩ = some (.slice p0 t.1.length c0) ∧ W.cell? ⟨w.heap.size, 1, none⟩ = some (.slice p1 t.2.length c1) ∧ W.cell? ⟨w.heap.size, 2, none⟩ = some (.slice p2 u.1.length c2) ∧ W.cell? ⟨w.heap.size, 3, none⟩ = some (.slice p3 u.2.length c3) ∧ W.cell? ⟨w.heap.size, 4, none⟩ = some (.bool ob) ∧ W.cell? ⟨w.heap.size, 5, none⟩ = some (.int .i64 (k : Int)) ∧ W.cell? ⟨w.heap.size, 6, none⟩ = some (.slice p4 r.1.length c4) ∧ W.cell? ⟨w.heap.size, 7, none⟩ = some (.slice p5 r.2.length c5) ∧ w.heap.size < W.heap.size) (first | assumption | go_keep)
            (first | (go_at_call 37; refine (O1.out _ st.1).mono ?_; clear O1; rintro e wa ⟨rfl, B⟩; have hx := MB.keep st B; clear B) | (go_at_call 37; refine (O2.out _ hx.1).mono ?_; rintro e wb ⟨rfl, B⟩; have hy := MB.keep hx B; clear B) | (go_at_call 102; refine (P.out _ hy.1).mono ?_; rintro e wc ⟨⟨v1, rfl, h1⟩, B⟩; obtain ⟨p9, c9, rfl⟩ := h1.row.form; clear h1; have hz := MB.keep hy B; clear B))
          all_goals
            clear st
            go_wp2_with fail
            replace hz := hz.keep (below_drew wc)
            go_region_held3 (fun W => w.heap.size < W.heap.size ∧ W.cell? ⟨w.heap.size, 0, none⟩ = some (.slice p0 t.1.length c0) ∧ W.cell? ⟨w.heap.size, 1, none⟩ = some (.slice p1 t.2.length c1) ∧ W.cell? ⟨w.heap.size, 2, none⟩ = some (.slice p2 u.1.length c2) ∧ W.cell? ⟨w.heap.size, 3, none⟩ = some (.slice p3 u.2.length c3) ∧ W.cell? ⟨w.heap.size, 4, none⟩ = some (.bool ob) ∧ W.cell? ⟨w.heap.size, 5, none⟩ = some (.int .i64 (k : Int)) ∧ W.cell? ⟨w.heap.size, 6, none⟩ = some (.slice p4 r.1.length c4) ∧ W.cell? ⟨w.heap.size, 7, none⟩ = some (.slice p5 r.2.length c5)) (first | assumption | go_keep)
              (first | (go_at_call 104; refine (OT.out _ hz.1).mono ?_; rintro e wd ⟨⟨vA, vD, rfl, h5⟩, B⟩; obtain ⟨p7, c7, rfl⟩ := h5.1.form; obtain ⟨p8, c8, rfl⟩ := h5.2.form; have hv := MB.keep hz B; have h6 := hid h5; clear h5 B) | (go_at_call 103; refine (sametier_any _ _ _ _ r (outL t u ob k) _ (UR.out _ hv.1) h6.out).mono ?_; rintro e we ⟨rfl, B⟩; have hq := MB.keep hv B; clear B))
            all_goals
              go_wp2_with fail
              go_ret
              exact ⟨by simp [HR.out, HR2.out, HN.out, HL.out] <;> (intros; omega), hq.1⟩
        · have HL : Hid (decide ((k : Int) ≤ ((pairsL t u).length : Int)) = false) := by show _ = _; simpa using hl
          have hl' : (pairsL t u).length < k := by omega
          have hl2 : ((pairsL t u).length : Int) < (k : Int) := by omega
          go_region_held3 (fun W => Below w.heap.size w W ∧ W.cell? ⟨w.heap.size, 0, none⟩ = some (.slice p0 t.1.length c0) ∧ W.cell? ⟨w.heap.size, 1, none⟩ = some (.slice p1 t.2.length c1) ∧ W.cell? ⟨w.heap.size, 2, none⟩ = some (.slice p2 u.1.length c2) ∧ W.cell? ⟨w.heap.size, 3, none⟩ = some (.slice p3 u.2.length c3) ∧ W.cell? ⟨w.heap.size, 4, none⟩ = some (.bool ob) ∧ W.cell? ⟨w.heap.size, 5, none⟩ = some (.int .i64 (k : Int)) ∧ W.cell? ⟨w.heap.size, 6, none⟩ = some (.slice p4 r.1.length c4) ∧ W.cell? ⟨w.heap.size, 7, none⟩ = some (.slice p5 r.2.length c5) ∧ w.heap.size < W.heap.size) (first | assumption | go_keep)
            (first | (go_at_call 37; refine (O1.out _ st.1).mono ?_; clear O1; rintro e wa ⟨rfl, B⟩; have hx := MB.keep st B; clear B) | (go_at_call 37; refine (O2.out _ hx.1).mono ?_; rintro e wb ⟨rfl, B⟩; have hy := MB.keep hx B; clear B) | (go_at_call 102; refine (P.out _ hy.1).mono ?_; rintro e wc ⟨⟨v1, rfl, h1⟩, B⟩; obtain ⟨p9, c9, rfl⟩ := h1.row.form; clear h1; have hz := MB.keep hy B; clear B))
          all_goals
            go_wp2_with fail
            go_ret
            exact ⟨by simp [HR.out, HR2.out, HN.out, HL.out] <;> (intros; omega), hz.1⟩
end Go.Proofs.Ytlkdkhmdmgchbaa
