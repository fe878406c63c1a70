/- the document's rows of pairs: Of, Union, Kept. -/
import Derived.Test.YtlkdkhmdmgchbaaF4
namespace Go.Proofs.Ytlkdkhmdmgchbaa
set_option linter.unusedSimpArgs false
set_option linter.unusedVariables false
open Go.RowKit

theorem fold_len (l : List Pr) : ∀ s : List Pr, (l.foldl withL s).length ≤ s.length + l.length := by
  induction l with
  | nil => intro s; simp
  | cons x l ih =>
    intro s
    have a := ih (withL s x)
    have b := withL_len s x
    simp only [List.foldl_cons, List.length_cons]
    omega
theorem ofL_len (l : List Pr) : (ofL l).length ≤ l.length := by have := fold_len l []; simpa [ofL] using this
theorem unionL_len (a b : List Pr) : (unionL a b).length ≤ a.length + b.length := by have := fold_len b (ofL a); have := ofL_len a; simp only [unionL]; omega
theorem fold_take_succ {l : List Pr} {k : Nat} {x : Pr} (s : List Pr) (h : l.take (k + 1) = l.take k ++ [x]) : (l.take (k + 1)).foldl withL s = withL ((l.take k).foldl withL s) x := by rw [h, List.foldl_append]; rfl

set_option maxRecDepth 100000 in
set_option maxHeartbeats 2000000 in
theorem of_any (v : Value) (l : List Pr) (w : World) (h : PRow w v l) (hlen : l.length ≤ 1000000) : Calls Try.prog 61 #[v] w fun e w' => (∃ v', e = .returned v' ∧ POwn w.heap.size w' v' (ofL l)) ∧ Below w.heap.size w w' := by
  obtain ⟨p, cap, rfl⟩ := h.form
  have H := hid h; clear h
  go_enter Try.func61, Try.ntmps61
  go_wp2_with fail
  go_loopw [3, 8] (fun v3 v8 wr => ∃ k : Nat, v8 = (.int .i64 (k)) ∧ k ≤ l.length ∧ Hid (POwn w.heap.size wr v3 ((l.take k).foldl withL [])) ∧ Hid (Below w.heap.size w wr)) (fun _ v8 _ => l.length - (intOf v8).toNat)
  case atStart => exact ⟨0, rfl, Nat.zero_le _, POwn.nil _ _, Below.refl _ _⟩
  case round =>
    obtain ⟨k, rfl, hk, N3, BEL⟩ := hrel
    by_cases hgo : k < l.length
    · have hgo' : (k : Int) < (l.length : Int) := by omega
      have hwk : IntKind.i64.wrap ((k : Int) + 1) = ((k + 1 : Nat) : Int) := by rw [i64_ok _ (by omega) (by omega)]; omega
      obtain ⟨g, o, cap, hv, hcell⟩ := (H.out.below BEL.out).cell (by omega)
      simp only [Value.slice.injEq] at hv
      obtain ⟨hv, -, -⟩ := hv
      first | subst hv | (simp only [Option.some.injEq, Addr.mk.injEq] at hv; obtain ⟨rfl, rfl, -⟩ := hv)
      obtain ⟨d0, d1⟩ := hcell k hgo
      have ts := List.take_succ_eq_append_getElem hgo
      obtain ⟨x, hx⟩ : ∃ x, l[k] = x := ⟨_, rfl⟩
      rw [hx] at d0 d1 ts
      have HX := hid hx; have TS := hid ts
      clear hx ts hcell
      obtain ⟨x0, x1⟩ := x
      simp only at d0 d1
      have FT := hid (fold_take_succ [] TS.out)
      have hL := fold_len (l.take k) []
      rw [List.length_take] at hL
      simp only [List.length_nil] at hL
      go_wp2_with fail
      refine (with_any _ _ x0 x1 _ (N3.out.row.below (below_alloc _ _)) (by omega)).mono ?_
      rintro e w2 ⟨⟨v', rfl, ho⟩, B⟩
      rw [← FT.out] at ho
      replace B := blift B
      have N3 := hid (ho.weaken (B' := w.heap.size) (by have := BEL.out.size; simp; omega))
      replace BEL := hid (bel_step BEL.out B)
      clear B
      clear ho d0 d1 hL
      go_wp2_with fail
      exact ⟨⟨k + 1, by simp, hgo, N3, BEL⟩, by simp [intOf]; omega⟩
    · have h1 : ¬ (k : Int) < (l.length : Int) := by omega
      rw [List.take_of_length_le (by omega)] at N3
      clear hgo
      go_wp2_with fail
      go_ret
      exact ⟨⟨_, rfl, N3.out⟩, BEL.out⟩

set_option maxRecDepth 100000 in
set_option maxHeartbeats 2000000 in
theorem union_any (v u : Value) (m l : List Pr) (w : World) (h' : PRow w v m) (h : PRow w u l) (hlen' : m.length ≤ 1000000) (hlen : l.length ≤ 1000000) : Calls Try.prog 78 #[v, u] w fun e w' => (∃ v', e = .returned v' ∧ POwn w.heap.size w' v' (unionL m l)) ∧ Below w.heap.size w w' := by
  obtain ⟨p, cap, rfl⟩ := h.form
  obtain ⟨p', cap', rfl⟩ := h'.form
  have H := hid h; clear h
  have H' := hid h'; clear h'
  go_enter Try.func78, Try.ntmps78
  go_wp2_with fail
  refine (of_any _ m _ H'.out hlen').mono ?_
  rintro e w1 ⟨⟨v1, rfl, ho⟩, B⟩
  have N5 := hid ho
  have BEL := hid B
  clear ho B
  go_wp2_with fail
  go_loopw [5, 12] (fun v3 v8 wr => ∃ k : Nat, v8 = (.int .i64 (k)) ∧ k ≤ l.length ∧ Hid (POwn w.heap.size wr v3 ((l.take k).foldl withL (ofL m))) ∧ Hid (Below w.heap.size w wr)) (fun _ v8 _ => l.length - (intOf v8).toNat)
  case atStart => exact ⟨0, rfl, Nat.zero_le _, N5, BEL⟩
  case round =>
    clear N5 BEL
    obtain ⟨k, rfl, hk, N3, BEL⟩ := hrel
    by_cases hgo : k < l.length
    · have hgo' : (k : Int) < (l.length : Int) := by omega
      have hwk : IntKind.i64.wrap ((k : Int) + 1) = ((k + 1 : Nat) : Int) := by rw [i64_ok _ (by omega) (by omega)]; omega
      obtain ⟨g, o, cap, hv, hcell⟩ := (H.out.below BEL.out).cell (by omega)
      simp only [Value.slice.injEq] at hv
      obtain ⟨hv, -, -⟩ := hv
      first | subst hv | (simp only [Option.some.injEq, Addr.mk.injEq] at hv; obtain ⟨rfl, rfl, -⟩ := hv)
      obtain ⟨d0, d1⟩ := hcell k hgo
      have ts := List.take_succ_eq_append_getElem hgo
      obtain ⟨x, hx⟩ : ∃ x, l[k] = x := ⟨_, rfl⟩
      rw [hx] at d0 d1 ts
      have HX := hid hx; have TS := hid ts
      clear hx ts hcell
      obtain ⟨x0, x1⟩ := x
      simp only at d0 d1
      have FT := hid (fold_take_succ (ofL m) TS.out)
      have hL := fold_len (l.take k) (ofL m)
      have hM := ofL_len m
      rw [List.length_take] at hL
      go_wp2_with fail
      refine (with_any _ _ x0 x1 _ (N3.out.row.below (below_alloc _ _)) (by omega)).mono ?_
      rintro e w2 ⟨⟨v', rfl, ho⟩, B⟩
      rw [← FT.out] at ho
      replace B := blift B
      have N3 := hid (ho.weaken (B' := w.heap.size) (by have := BEL.out.size; simp; omega))
      replace BEL := hid (bel_step BEL.out B)
      clear B
      clear ho d0 d1 hL hM
      go_wp2_with fail
      exact ⟨⟨k + 1, by simp, hgo, N3, BEL⟩, by simp [intOf]; omega⟩
    · have h1 : ¬ (k : Int) < (l.length : Int) := by omega
      rw [List.take_of_length_le (by omega)] at N3
      clear hgo
      go_wp2_with fail
      go_ret
      exact ⟨⟨_, rfl, N3.out⟩, BEL.out⟩

set_option maxRecDepth 100000 in
set_option maxHeartbeats 2000000 in
theorem kept_any (v u : Value) (l m : List Pr) (has : Bool) (w : World) (h : PRow w v l) (h' : PRow w u m) (hlen : l.length ≤ 1000000) : Calls Try.prog 79 #[v, u, .bool has] w fun e w' => (∃ v', e = .returned v' ∧ POwn w.heap.size w' v' (keptL l m has)) ∧ Below w.heap.size w w' := by
  obtain ⟨p, cap, rfl⟩ := h.form
  obtain ⟨p', cap', rfl⟩ := h'.form
  have H := hid h; clear h
  have H' := hid h'; clear h'
  go_enter Try.func79, Try.ntmps79
  go_wp2_with fail
  go_loopw [7, 12] (fun v7 v12 wr => ∃ k : Nat, v12 = (.int .i64 (k)) ∧ k ≤ l.length ∧ Hid (POwn w.heap.size wr v7 ((l.take k).filter (fun p => decide (p ∈ m) == has))) ∧ Hid (Below w.heap.size w wr)) (fun _ v12 _ => l.length - (intOf v12).toNat)
  case atStart => exact ⟨0, rfl, Nat.zero_le _, POwn.nil _ _, Below.refl _ _⟩
  case round =>
    obtain ⟨k, rfl, hk, OW, BEL⟩ := hrel
    by_cases hgo : k < l.length
    · have hgo' : (k : Int) < (l.length : Int) := by omega
      have hwk : IntKind.i64.wrap ((k : Int) + 1) = ((k + 1 : Nat) : Int) := by rw [i64_ok _ (by omega) (by omega)]; omega
      obtain ⟨g, o, cap, hv, hcell⟩ := (H.out.below BEL.out).cell (by omega)
      simp only [Value.slice.injEq] at hv
      obtain ⟨hv, -, -⟩ := hv
      first | subst hv | (simp only [Option.some.injEq, Addr.mk.injEq] at hv; obtain ⟨rfl, rfl, -⟩ := hv)
      obtain ⟨d0, d1⟩ := hcell k hgo
      have ts := List.take_succ_eq_append_getElem hgo
      obtain ⟨x, hx⟩ : ∃ x, l[k] = x := ⟨_, rfl⟩
      rw [hx] at d0 d1 ts
      have HX := hid hx; have TS := hid ts
      clear hx ts hcell
      obtain ⟨x0, x1⟩ := x
      simp only at d0 d1
      have FT := hid (filter_take_succ (fun p => decide (p ∈ m) == has) TS.out)
      go_wp2_with fail
      refine (has_any _ m x0 x1 _ ((H'.out.below BEL.out).below (below_alloc _ _))).mono ?_
      rintro e w2 ⟨rfl, B⟩
      have bE := hid ((Bx.new wr x0 x1 52).keep B)
      replace B := blift B
      clear d0 d1
      replace BEL := hid (bel_step BEL.out B)
      replace OW := hid (OW.out.below B)
      clear B
      obtain ⟨bE_0, bE_1, bE_s⟩ := bE.out
      have size := BEL.out.size
      obtain ⟨E, hE⟩ : ∃ E, E = wr.heap.size := ⟨_, rfl⟩
      rw [← hE] at bE bE_0 bE_1 bE_s ⊢
      clear hE
      generalize decide ((x0, x1) ∈ m) = r at *
      cases hr : (r == has)
      · rw [hr] at FT
        simp only [Bool.false_eq_true, if_false, List.append_nil] at FT
        rw [← FT.out] at OW
        go_wp2_with fail
        exact ⟨⟨k + 1, by simp, hgo, OW, BEL⟩, by simp [intOf]; omega⟩
      · rw [hr, if_pos rfl] at FT
        go_wp2_with (first | (at_builtin; refine app1 rfl _ _ rfl (w.heap.size) u7 _ x0 x1 w2 rfl rfl rfl OW.out (by omega) ?_ ?_))
        · have := filter_take_len l (fun p => decide (p ∈ m) == has) k; omega
        · intro v' w3 hown hbel
          have OW := hid hown
          rw [← FT.out] at OW
          have BEL := hid (BEL.out.trans hbel)
          clear hown hbel
          go_wp2_with fail
          exact ⟨⟨k + 1, by simp, hgo, OW, BEL⟩, by simp [intOf]; omega⟩
    · have h1 : ¬ (k : Int) < (l.length : Int) := by omega
      rw [List.take_of_length_le (by omega)] at OW
      clear hgo
      go_wp2_with fail
      go_ret
      exact ⟨⟨_, rfl, OW.out⟩, BEL.out⟩
end Go.Proofs.Ytlkdkhmdmgchbaa
