/- the document's rows of pairs: With, Of, Union, Kept. -/
import Derived.Test.YtlkdkhmdmgchbaaF3
namespace Go.Proofs.Ytlkdkhmdmgchbaa
set_option linter.unusedSimpArgs false
set_option linter.unusedVariables false
open Go.RowKit

/-- a row in order with a pair more. -/
def withL (l : List Pr) (p : Pr) : List Pr := l.filter (fun x => decide (lt x p)) ++ [p] ++ l.filter (fun x => decide (lt p x))
def ofL (l : List Pr) : List Pr := l.foldl withL []
def unionL (a b : List Pr) : List Pr := b.foldl withL (ofL a)
def keptL (a b : List Pr) (has : Bool) : List Pr := a.filter (fun p => decide (p ∈ b) == has)
theorem filter_take_succ {l : List Pr} {k : Nat} {x : Pr} (f : Pr → Bool) (h : l.take (k + 1) = l.take k ++ [x]) : (l.take (k + 1)).filter f = (l.take k).filter f ++ (if f x then [x] else []) := by
  rw [h, List.filter_append]
  congr 1
  cases hx : f x <;> simp [hx]
theorem filter_take_len (l : List Pr) (f : Pr → Bool) (k : Nat) : ((l.take k).filter f).length ≤ l.length := by
  have := List.length_filter_le f (l.take k)
  rw [List.length_take] at this
  omega
theorem withL_len (l : List Pr) (p : Pr) : (withL l p).length ≤ l.length + 1 := by
  induction l with
  | nil => simp [withL]
  | cons x l ih =>
    simp only [withL, List.filter_cons, List.length_append, List.length_cons, List.length_nil] at ih ⊢
    have : ¬ (decide (lt x p) = true ∧ decide (lt p x) = true) := fun ⟨a, b⟩ => lt_asymm (by simpa using a) (by simpa using b)
    split <;> split <;> simp_all <;> omega

theorem Bx.keepN {T n : Nat} {x y : Int} {W W' : World} (h : Bx T x y W) (B : Below n W W') (hT : T < n) : Bx T x y W' :=
  ⟨(B.cell (p := ⟨T, 0, none⟩) hT).trans h.1, (B.cell (p := ⟨T, 1, none⟩) hT).trans h.2.1, by have := B.size; have := h.2.2; omega⟩

set_option maxRecDepth 100000 in
set_option maxHeartbeats 4000000 in
theorem with_any (v : Value) (l : List Pr) (a b : Int) (w : World) (h : PRow w v l) (hlen : l.length ≤ 10000000) : Calls Try.prog 119 #[v, .agg #[(.int .u64 (a)), (.int .u64 (b))]] w fun e w' => (∃ v', e = .returned v' ∧ POwn w.heap.size w' v' (withL l (a, b))) ∧ Below w.heap.size w w' := by
  obtain ⟨p, cap, rfl⟩ := h.form
  have H := hid h; clear h
  go_enter Try.func119, Try.ntmps119
  go_wp2_with fail
  have b3 := hid (Bx.new w a b 52)
  have BEL := hid (below_alloc w (.cells #[(.int .u64 (a)), (.int .u64 (b))] 52))
  go_loopw [5, 12] (fun v5 v12 wr => ∃ k : Nat, v12 = (.int .i64 (k)) ∧ k ≤ l.length ∧ Hid (POwn (w.heap.size + 1) wr v5 ((l.take k).filter (fun x => decide (lt x (a, b))))) ∧ Hid (Bx w.heap.size a b wr) ∧ Hid (Below w.heap.size w wr)) (fun _ v12 _ => l.length - (intOf v12).toNat)
  case atStart => exact ⟨0, rfl, Nat.zero_le _, POwn.nil _ _, b3, BEL⟩
  case round =>
    clear b3 BEL
    obtain ⟨k, rfl, hk, OW, b3, BEL⟩ := hrel
    by_cases hgo : k < l.length
    · have hgo' : (k : Int) < (l.length : Int) := by omega
      have hwk : IntKind.i64.wrap ((k : Int) + 1) = ((k + 1 : Nat) : Int) := by rw [i64_ok _ (by omega) (by omega)]; omega
      obtain ⟨g, o, cap, hv, hcell⟩ := (H.out.below BEL.out).cell (by omega)
      simp only [Value.slice.injEq] at hv
      obtain ⟨hv, -, -⟩ := hv
      first | subst hv | (simp only [Option.some.injEq, Addr.mk.injEq] at hv; obtain ⟨rfl, rfl, -⟩ := hv)
      obtain ⟨d0, d1⟩ := hcell k hgo
      have ts := List.take_succ_eq_append_getElem hgo
      obtain ⟨x, hx⟩ : ∃ x, l[k] = x := ⟨_, rfl⟩
      rw [hx] at d0 d1 ts
      have HX := hid hx; have TS := hid ts
      clear hx ts hcell
      obtain ⟨x0, x1⟩ := x
      simp only at d0 d1
      have FT := hid (filter_take_succ (fun x => decide (lt x (a, b))) TS.out)
      obtain ⟨b3_0, b3_1, b3_s⟩ := b3.out
      go_wp2_with fail
      refine (ahead_any x0 x1 a b _).mono ?_
      rintro e w2 ⟨rfl, B⟩
      have bE := hid ((Bx.new wr x0 x1 52).keep B)
      replace B := blift B
      clear b3_0 b3_1 b3_s d0 d1
      replace BEL := hid (bel_step BEL.out B)
      replace OW := hid (OW.out.below B)
      replace b3 := hid (b3.out.keep B)
      clear B
      obtain ⟨bE_0, bE_1, bE_s⟩ := bE.out
      have size := BEL.out.size
      have s0 := b3.out.2.2
      obtain ⟨E, hE⟩ : ∃ E, E = wr.heap.size := ⟨_, rfl⟩
      rw [← hE] at bE bE_0 bE_1 bE_s ⊢
      clear hE
      by_cases hlt : lt (x0, x1) (a, b)
      · have e : decide (lt (x0, x1) (a, b)) = true := by simpa using hlt
        rw [e, if_pos rfl] at FT
        rw [e]
        clear hlt e
        go_wp2_with (first | (at_builtin; refine app1 rfl _ _ rfl (w.heap.size + 1) _ _ x0 x1 w2 rfl rfl rfl OW.out (by omega) ?_ ?_))
        · have := filter_take_len l (fun x => decide (lt x (a, b))) k; omega
        · intro v' w3 hown hbel
          have OW := hid hown
          rw [← FT.out] at OW
          have BEL := hid (BEL.out.trans (hbel.mono (by omega)))
          have b3 := hid (b3.out.keepN hbel (by omega))
          clear hown hbel
          go_wp2_with fail
          exact ⟨⟨k + 1, by simp, hgo, OW, b3, BEL⟩, by simp [intOf]; omega⟩
      · have e : decide (lt (x0, x1) (a, b)) = false := by simpa using hlt
        rw [e] at FT
        simp only [Bool.false_eq_true, if_false, List.append_nil] at FT
        rw [e]
        rw [← FT.out] at OW
        clear hlt e
        go_wp2_with fail
        exact ⟨⟨k + 1, by simp, hgo, OW, b3, BEL⟩, by simp [intOf]; omega⟩
    · have h1 : ¬ (k : Int) < (l.length : Int) := by omega
      rw [List.take_of_length_le (by omega)] at OW
      have s0 := b3.out.2.2
      have lenF : (l.filter (fun x => decide (lt x (a, b)))).length ≤ l.length := List.length_filter_le _ _
      obtain ⟨b3_0, b3_1, b3_s⟩ := b3.out
      clear hgo
      go_wp2_with (first | (at_builtin; refine app1 rfl _ _ rfl (w.heap.size + 1) _ _ a b wr rfl rfl rfl OW.out (by omega) (by omega) ?_))
      intro v' w3 hown hbel
      have OW := hid hown
      replace BEL := hid (BEL.out.trans (hbel.mono (by omega)))
      replace b3 := hid (b3.out.keepN hbel (by omega))
      clear hown hbel b3_0 b3_1 b3_s
      go_wp2_with fail
      go_loopw [5, 30] (fun v5 v30 wr => ∃ k : Nat, v30 = (.int .i64 (k)) ∧ k ≤ l.length ∧ Hid (POwn (w.heap.size + 1) wr v5 (l.filter (fun x => decide (lt x (a, b))) ++ [(a, b)] ++ (l.take k).filter (fun x => decide (lt (a, b) x)))) ∧ Hid (Bx w.heap.size a b wr) ∧ Hid (Below w.heap.size w wr)) (fun _ v30 _ => l.length - (intOf v30).toNat)
      case atStart => exact ⟨0, rfl, Nat.zero_le _, by simpa using OW, b3, BEL⟩
      case round =>
        clear b3 BEL OW hk h1 s0
        obtain ⟨k, rfl, hk, OW, b3, BEL⟩ := hrel
        by_cases hgo : k < l.length
        · have hgo' : (k : Int) < (l.length : Int) := by omega
          have hwk : IntKind.i64.wrap ((k : Int) + 1) = ((k + 1 : Nat) : Int) := by rw [i64_ok _ (by omega) (by omega)]; omega
          obtain ⟨g, o, cap, hv, hcell⟩ := (H.out.below BEL.out).cell (by omega)
          simp only [Value.slice.injEq] at hv
          obtain ⟨hv, -, -⟩ := hv
          first | subst hv | (simp only [Option.some.injEq, Addr.mk.injEq] at hv; obtain ⟨rfl, rfl, -⟩ := hv)
          obtain ⟨d0, d1⟩ := hcell k hgo
          have ts := List.take_succ_eq_append_getElem hgo
          obtain ⟨x, hx⟩ : ∃ x, l[k] = x := ⟨_, rfl⟩
          rw [hx] at d0 d1 ts
          have HX := hid hx; have TS := hid ts
          clear hx ts hcell
          obtain ⟨x0, x1⟩ := x
          simp only at d0 d1
          have FT := hid (filter_take_succ (fun x => decide (lt (a, b) x)) TS.out)
          obtain ⟨b3_0, b3_1, b3_s⟩ := b3.out
          go_wp2_with fail
          refine (ahead_any a b x0 x1 _).mono ?_
          rintro e w2 ⟨rfl, B⟩
          have bE := hid ((Bx.new wr x0 x1 52).keep B)
          replace B := blift B
          clear b3_0 b3_1 b3_s d0 d1
          replace BEL := hid (bel_step BEL.out B)
          replace OW := hid (OW.out.below B)
          replace b3 := hid (b3.out.keep B)
          clear B
          obtain ⟨bE_0, bE_1, bE_s⟩ := bE.out
          have size := BEL.out.size
          have s0 := b3.out.2.2
          obtain ⟨E, hE⟩ : ∃ E, E = wr.heap.size := ⟨_, rfl⟩
          rw [← hE] at bE bE_0 bE_1 bE_s ⊢
          clear hE
          by_cases hlt : lt (a, b) (x0, x1)
          · have e : decide (lt (a, b) (x0, x1)) = true := by simpa using hlt
            rw [e, if_pos rfl] at FT
            rw [e]
            clear hlt e
            go_wp2_with (first | (at_builtin; refine app1 rfl _ _ rfl (w.heap.size + 1) _ _ x0 x1 w2 rfl rfl rfl OW.out (by omega) ?_ ?_))
            · have := filter_take_len l (fun x => decide (lt (a, b) x)) k; simp only [List.length_append, List.length_singleton]; omega
            · intro v' w3 hown hbel
              have OW := hid hown
              have BEL := hid (BEL.out.trans (hbel.mono (by omega)))
              have b3 := hid (b3.out.keepN hbel (by omega))
              clear hown hbel
              go_wp2_with fail
              exact ⟨⟨k + 1, by simp, hgo, hid (by first | exact OW.out | (rw [FT.out]; simpa using OW.out)), b3, BEL⟩, by simp [intOf]; omega⟩
          · have e : decide (lt (a, b) (x0, x1)) = false := by simpa using hlt
            rw [e] at FT
            simp only [Bool.false_eq_true, if_false, List.append_nil] at FT
            rw [e]
            rw [← FT.out] at OW
            clear hlt e
            go_wp2_with fail
            exact ⟨⟨k + 1, by simp, hgo, hid (by first | exact OW.out | (rw [FT.out]; simpa using OW.out)), b3, BEL⟩, by simp [intOf]; omega⟩
        · have h1 : ¬ (k : Int) < (l.length : Int) := by omega
          rw [List.take_of_length_le (by omega)] at OW
          clear hgo
          go_wp2_with fail
          go_ret
          exact ⟨⟨_, rfl, POwn.weaken (by simpa [withL] using OW.out) (by omega)⟩, BEL.out⟩
end Go.Proofs.Ytlkdkhmdmgchbaa
