/- tiers: a tier as a value, rows of tiers; the document's One, Says. -/
import Derived.Test.YtlkdkhmdmgchbaaF5
namespace Go.Proofs.Ytlkdkhmdmgchbaa
set_option linter.unusedSimpArgs false
set_option linter.unusedVariables false
open Go.RowKit

abbrev Tr := List Pr × List Pr
/-- the two slices of a tier read as these rows. -/
def TPair (w : World) (vA vD : Value) (t : Tr) : Prop := PRow w vA t.1 ∧ PRow w vD t.2
theorem TPair.below {w w' : World} {vA vD : Value} {t : Tr} (h : TPair w vA vD t) (hb : Below w.heap.size w w') : TPair w' vA vD t := ⟨h.1.below hb, h.2.below hb⟩
/-- the slice reads as these tiers. -/
def TRow (w : World) (v : Value) (l : List Tr) : Prop :=
  ∃ p cap, v = .slice p l.length cap ∧ l.length ≤ cap ∧ (p = none → cap = 0) ∧ cap ≤ 9223372036854775807 ∧ (0 < l.length → ∃ g o : Nat, p = some ⟨g, o, none⟩ ∧ ∀ j t, l[j]? = some t → ∃ vA vD, w.cell? ⟨g, o + j * 2, none⟩ = some vA ∧ w.cell? ⟨g, o + j * 2 + 1, none⟩ = some vD ∧ TPair w vA vD t)
theorem TRow.below {w w' : World} {v : Value} {l : List Tr} (h : TRow w v l) (hb : Below w.heap.size w w') : TRow w' v l := by
  obtain ⟨p, cap, e, h1, h2, h4, h3⟩ := h
  refine ⟨p, cap, e, h1, h2, h4, fun hl => ?_⟩
  obtain ⟨g, o, e, h3⟩ := h3 hl
  refine ⟨g, o, e, fun j t hj => ?_⟩
  obtain ⟨vA, vD, c0, c1, ht⟩ := h3 j t hj
  exact ⟨vA, vD, cellB hb c0, cellB hb c1, ht.below hb⟩
theorem TRow.form {w : World} {v : Value} {l : List Tr} (h : TRow w v l) : ∃ p cap, v = .slice p l.length cap := by
  obtain ⟨p, cap, e, _⟩ := h
  exact ⟨p, cap, e⟩
theorem TRow.len {w : World} {v : Value} {l : List Tr} (h : TRow w v l) : (l.length : Int) ≤ 9223372036854775807 := by
  obtain ⟨p, cap, e, h1, h2, h4, _⟩ := h
  omega
theorem TRow.cell {w : World} {v : Value} {l : List Tr} (h : TRow w v l) (hl : 0 < l.length) : ∃ g o cap : Nat, v = .slice (some ⟨g, o, none⟩) l.length cap ∧ ∀ k (hk : k < l.length), ∃ vA vD, w.cell? ⟨g, o + k * 2, none⟩ = some vA ∧ w.cell? ⟨g, o + k * 2 + 1, none⟩ = some vD ∧ TPair w vA vD l[k] := by
  obtain ⟨p, cap, e, h1, h2, h4, hx⟩ := h
  obtain ⟨g, o, rfl, hx'⟩ := hx hl
  exact ⟨g, o, cap, e, fun k hk => hx' k _ (List.getElem?_eq_getElem hk)⟩
/-- a row of tiers that the call has laid. -/
theorem TRow.of1 {w : World} {g : Nat} {vA vD : Value} {t : Tr} (c0 : w.cell? ⟨g, 0, none⟩ = some vA) (c1 : w.cell? ⟨g, 1, none⟩ = some vD) (h : TPair w vA vD t) : TRow w (.slice (some ⟨g, 0, none⟩) 1 1) [t] :=
  ⟨_, 1, rfl, Nat.le_refl _, fun h => (by cases h), by omega, fun _ => ⟨g, 0, rfl, fun j x hj => by
    match j, hj with
    | 0, hj => simp at hj; subst hj; exact ⟨vA, vD, by simpa using c0, by simpa using c1, h⟩
    | j + 1, hj => simp at hj⟩⟩
theorem TRow.of2 {w : World} {g : Nat} {vA vD vB vE : Value} {t u : Tr} (c0 : w.cell? ⟨g, 0, none⟩ = some vA) (c1 : w.cell? ⟨g, 1, none⟩ = some vD) (c2 : w.cell? ⟨g, 2, none⟩ = some vB) (c3 : w.cell? ⟨g, 3, none⟩ = some vE) (h : TPair w vA vD t) (h' : TPair w vB vE u) : TRow w (.slice (some ⟨g, 0, none⟩) 2 2) [t, u] :=
  ⟨_, 2, rfl, Nat.le_refl _, fun h => (by cases h), by omega, fun _ => ⟨g, 0, rfl, fun j x hj => by
    match j, hj with
    | 0, hj => simp at hj; subst hj; exact ⟨vA, vD, by simpa using c0, by simpa using c1, h⟩
    | 1, hj => simp at hj; subst hj; exact ⟨vB, vE, by simpa using c2, by simpa using c3, h'⟩
    | j + 2, hj => simp at hj⟩⟩
/-- a box of two values. -/
abbrev Vx (T : Nat) (x y : Value) (W : World) : Prop := W.cell? ⟨T, 0, none⟩ = some x ∧ W.cell? ⟨T, 1, none⟩ = some y ∧ T < W.heap.size
theorem Vx.keep {T : Nat} {x y : Value} {W W' : World} (h : Vx T x y W) (B : Below W.heap.size W W') : Vx T x y W' :=
  ⟨cellB B h.1, cellB B h.2.1, by have := B.size; have := h.2.2; omega⟩
theorem Vx.new (W : World) (x y : Value) (t : Nat) : Vx W.heap.size x y (W.alloc (.cells #[x, y] t)) := ⟨by go_simp, by go_simp, by simp⟩

/-- may a tier be? -/
def oneL (t : Tr) : Bool := rightL t.1 && rightL t.2 && decide ((keptL t.1 t.2 true).length = 0)
/-- what tiers say of a pair. -/
def saysL (l : List Tr) (p : Pr) : Int := l.foldl (fun out t => if p ∈ t.2 then 2 else if p ∈ t.1 then 1 else out) 0

set_option maxRecDepth 100000 in
set_option maxHeartbeats 2000000 in
theorem one_any (vA vD : Value) (t : Tr) (w : World) (h : TPair w vA vD t) (hlen : t.1.length ≤ 1000000) : Calls Try.prog 37 #[.agg #[vA, vD]] w fun e w' => e = .returned (.bool (oneL t)) ∧ Below w.heap.size w w' := by
  obtain ⟨A, D⟩ := t
  obtain ⟨hA, hD⟩ := h
  simp only at hA hD hlen
  obtain ⟨pA, cA, rfl⟩ := hA.form
  obtain ⟨pD, cD, rfl⟩ := hD.form
  have HA := hid hA; have HD := hid hD; clear hA hD
  have b1 := hid (Vx.new w (.slice pA A.length cA) (.slice pD D.length cD) 24)
  have BEL := hid (below_alloc w (.cells #[.slice pA A.length cA, .slice pD D.length cD] 24))
  have E : Hid (oneL (A, D) = (rightL A && rightL D && decide ((keptL A D true).length = 0))) := rfl
  rw [E.out]
  go_enter Try.func37, Try.ntmps37
  go_wp2_with fail
  refine (right_any _ A _ (HA.out.below BEL.out)).mono ?_
  rintro e w1 ⟨rfl, B⟩
  replace BEL := hid (bel_step BEL.out B)
  replace b1 := hid (b1.out.keep B)
  clear B
  cases hr : rightL A
  · have HR := hid hr
    clear hr
    go_wp2_with fail
    go_ret
    exact ⟨by simp [HR.out], BEL.out⟩
  · have HR := hid hr
    clear hr
    obtain ⟨b1_0, b1_1, b1_s⟩ := b1.out
    go_wp2_with fail
    refine (right_any _ D _ (HD.out.below BEL.out)).mono ?_
    rintro e w2 ⟨rfl, B⟩
    clear b1_0 b1_1 b1_s
    replace BEL := hid (bel_step BEL.out B)
    replace b1 := hid (b1.out.keep B)
    clear B
    cases hd : rightL D
    · have HS := hid hd
      clear hd
      go_wp2_with fail
      go_ret
      exact ⟨by simp [HR.out, HS.out], BEL.out⟩
    · have HS := hid hd
      clear hd
      obtain ⟨b1_0, b1_1, b1_s⟩ := b1.out
      go_wp2_with fail
      refine (kept_any _ _ A D true _ (HA.out.below BEL.out) (HD.out.below BEL.out) hlen).mono ?_
      rintro e w3 ⟨⟨v3, rfl, h3⟩, B⟩
      obtain ⟨p3, c3, rfl⟩ := h3.row.form
      clear b1_0 b1_1 b1_s
      replace BEL := hid (bel_step BEL.out B)
      replace b1 := hid (b1.out.keep B)
      clear B
      go_wp2_with fail
      go_ret
      refine ⟨?_, BEL.out⟩
      simp only [HR.out, HS.out, Bool.true_and]
      have q : ((↑(keptL A D true).length : Int) == 0) = decide ((keptL A D true).length = 0) := by rw [Bool.eq_iff_iff]; simp
      rw [← q]
      rfl

set_option maxRecDepth 100000 in
set_option maxHeartbeats 2000000 in
theorem says_any (v : Value) (l : List Tr) (a b : Int) (w : World) (h : TRow w v l) : Calls Try.prog 96 #[v, .agg #[(.int .u64 (a)), (.int .u64 (b))]] w fun e w' => e = .returned (.int .i64 (saysL l (a, b))) ∧ Below w.heap.size w w' := by
  have HL := h.len
  obtain ⟨p, cap, rfl⟩ := h.form
  have H := hid h; clear h
  go_enter Try.func96, Try.ntmps96
  go_wp2_with fail
  have b3 := hid (Bx.new w a b 52)
  have BEL := hid (below_alloc w (.cells #[(.int .u64 (a)), (.int .u64 (b))] 52))
  go_loopw [5, 10] (fun v5 v10 wr => ∃ (k : Nat) (o : Int), v10 = (.int .i64 (k)) ∧ k ≤ l.length ∧ v5 = (.int .i64 (o)) ∧ Hid (o = saysL (l.take k) (a, b)) ∧ Hid (Bx w.heap.size a b wr) ∧ Hid (Below w.heap.size w wr)) (fun _ v10 _ => l.length - (intOf v10).toNat)
  case atStart => exact ⟨0, 0, rfl, Nat.zero_le _, rfl, rfl, b3, BEL⟩
  case round =>
    clear b3 BEL
    obtain ⟨k, out, rfl, hk, rfl, OUT, b3, BEL⟩ := hrel
    by_cases hgo : k < l.length
    · have hgo' : (k : Int) < (l.length : Int) := by omega
      have hwk : IntKind.i64.wrap ((k : Int) + 1) = ((k + 1 : Nat) : Int) := by rw [i64_ok _ (by omega) (by omega)]; omega
      obtain ⟨g, o, cap, hv, hcell⟩ := (H.out.below BEL.out).cell (by omega)
      simp only [Value.slice.injEq] at hv
      obtain ⟨hv, -, -⟩ := hv
      subst hv
      obtain ⟨vA, vD, d0, d1, hA, hD⟩ := hcell k hgo
      have ts := List.take_succ_eq_append_getElem hgo
      generalize l[k] = t at *
      obtain ⟨A, D⟩ := t
      simp only at hA hD
      have SS : Hid (saysL (l.take (k + 1)) (a, b) = if (a, b) ∈ D then 2 else if (a, b) ∈ A then 1 else saysL (l.take k) (a, b)) := by
        show _ = _
        rw [ts]; simp only [saysL, List.foldl_append, List.foldl_cons, List.foldl_nil]
      clear ts hcell
      obtain ⟨pA, cA, rfl⟩ := hA.form
      obtain ⟨pD, cD, rfl⟩ := hD.form
      have HA := hid hA; have HD := hid hD; clear hA hD
      obtain ⟨b3_0, b3_1, b3_s⟩ := b3.out
      go_wp2_with fail
      refine (has_any _ A a b _ (HA.out.below (below_alloc _ _))).mono ?_
      rintro e w2 ⟨rfl, B⟩
      have bT := hid ((Vx.new wr (.slice pA A.length cA) (.slice pD D.length cD) 24).keep B)
      replace B := blift B
      replace HD := hid (HD.out.below B)
      clear d0 d1 b3_0 b3_1 b3_s HA
      replace BEL := hid (bel_step BEL.out B)
      replace b3 := hid (b3.out.keep B)
      clear B
      obtain ⟨b3_0, b3_1, b3_s⟩ := b3.out
      obtain ⟨bT_0, bT_1, bT_s⟩ := bT.out
      obtain ⟨E, hE⟩ : ∃ E, E = wr.heap.size := ⟨_, rfl⟩
      rw [← hE] at bT bT_0 bT_1 bT_s ⊢
      clear hE
      have SS2 : Hid (saysL (l.take (k + 1)) (a, b) = if (a, b) ∈ D then 2 else if decide ((a, b) ∈ A) = true then 1 else out) := by
        show _ = _
        rw [SS.out, OUT.out]; simp
      clear SS
      generalize decide ((a, b) ∈ A) = rA at *
      cases rA
      all_goals
        go_wp2_with fail
        refine (has_any _ D a b _ HD.out).mono ?_
        rintro e w3 ⟨rfl, B⟩
        clear b3_0 b3_1 b3_s bT_0 bT_1 bT_s
        replace BEL := hid (bel_step BEL.out B)
        replace b3 := hid (b3.out.keep B)
        clear B
        by_cases hD' : (a, b) ∈ D
        · have e : decide ((a, b) ∈ D) = true := by simpa using hD'
          have SE : Hid (saysL (l.take (k + 1)) (a, b) = 2) := by show _ = _; rw [SS2.out, if_pos hD']
          rw [e]
          clear hD' e
          go_wp2_with fail
          exact ⟨⟨k + 1, 2, by simp, hgo, rfl, SE.out.symm, b3, BEL⟩, by simp [intOf]; omega⟩
        · have e : decide ((a, b) ∈ D) = false := by simpa using hD'
          have SE := hid (SS2.out.trans (if_neg hD'))
          rw [e]
          clear hD' e
          go_wp2_with fail
          exact ⟨⟨k + 1, _, by simp, hgo, rfl, hid (by have := SE.out; simp at this; exact this.symm), b3, BEL⟩, by simp [intOf]; omega⟩
    · have h1 : ¬ (k : Int) < (l.length : Int) := by omega
      rw [List.take_of_length_le (by omega)] at OUT
      clear hgo
      go_wp2_with fail
      go_ret
      exact ⟨by rw [← OUT.out]; rfl, BEL.out⟩
end Go.Proofs.Ytlkdkhmdmgchbaa
