/- Rows of pairs, tiers and merges as data; the contracts of the merge layer; equations for the simplifier. -/
import Derived.Test.YtlkdkhmdmgchbaaA15
import Derived.Test.YtlkdkhmdmgchbaaH23
namespace Go.Proofs.Ytlkdkhmdmgchbaa
set_option linter.unusedSimpArgs false
set_option linter.unusedVariables false
open Go.RowKit

abbrev PD (x : Pr) : List D := [.v (.int .u64 x.1), .v (.int .u64 x.2)]
abbrev RD (l : List Pr) : D := .s 2 (l.map PD)
abbrev TD (t : Tr) : DV := .agg [RD t.1, RD t.2]
abbrev TsD (l : List Tr) : D := .s 2 (l.map fun t => [RD t.1, RD t.2])
abbrev MD (m : Mg) : DV := .agg [RD m.older.1, RD m.older.2, RD m.newer.1, RD m.newer.2, .v (.bool m.oldest), .v (.int .i64 m.at_), RD m.out.1, RD m.out.2]
abbrev ID (l : List Int) : D := .s 1 (l.map fun n => [.v (.int .i64 n)])
abbrev dI (n : Int) : DV := .c (.v (.int .i64 n))
abbrev dB (b : Bool) : DV := .c (.v (.bool b))
section
variable {Z : Zone} {w w' : World} {v : Value}
theorem prow_of {l : List Pr} (h : RepD Z w v (RD l)) : PRow w v l := by
  obtain ⟨p, cap, e, h1, h2, h3⟩ := RepD.form h
  simp only [List.length_map] at e h1
  refine ⟨p, cap, e, h1, h3, h2, fun hl => ?_⟩
  obtain ⟨g, o, cap', vals, e', _, _, _, k⟩ := RepD.at h (by simpa using hl)
  rw [e] at e'
  simp only [Value.slice.injEq] at e'
  refine ⟨g, o, e'.1, fun j x hj => ?_⟩
  have hr : (l.map PD)[j]? = some (PD x) := by simp [hj]
  obtain ⟨_, c0, r0⟩ := k j _ 0 _ hr rfl
  obtain ⟨_, c1, r1⟩ := k j _ 1 _ hr rfl
  rw [r0.raw] at c0
  rw [r1.raw] at c1
  exact ⟨c0, c1⟩
theorem of_prow {l : List Pr} (h : PRow w v l) (hz : ∀ g o u, v.ownBlock = some g → w.cell? ⟨g, o, none⟩ = some u → Z g o) : RepD Z w v (RD l) := by
  obtain ⟨p, cap, e, h1, h2, h3, h4⟩ := h
  subst e
  by_cases hl : 0 < l.length
  · obtain ⟨g, o, rfl, k⟩ := h4 hl
    refine .row g o l.length cap 2 _ (fun i j => match l[i]? with | some x => if j = 0 then .int .u64 x.1 else .int .u64 x.2 | none => undef) (by simp) h1 h3 (fun i r hi => ?_) (fun i r j x hi hj => ?_) (fun i r j x hi hj => ?_)
    all_goals
      simp only [List.getElem?_map, Option.map_eq_some_iff] at hi
      obtain ⟨y, hy, rfl⟩ := hi
    · rfl
    · obtain ⟨c0, c1⟩ := k i y hy
      have hj2 : j < 2 := by have := (List.getElem?_eq_some_iff.1 hj).1; simpa [PD] using this
      rcases (show j = 0 ∨ j = 1 by omega) with rfl | rfl
      · simp only [hy]; exact ⟨hz _ _ _ rfl c0, c0⟩
      · simp only [hy]; exact ⟨hz _ _ _ rfl c1, c1⟩
    · have hj2 : j < 2 := by have := (List.getElem?_eq_some_iff.1 hj).1; simpa [PD] using this
      rcases (show j = 0 ∨ j = 1 by omega) with rfl | rfl
      · simp only [PD, List.getElem?_cons_zero, Option.some.injEq] at hj; subst hj; simp only [hy]; exact .v _
      · simp only [PD, List.getElem?_cons_succ, List.getElem?_cons_zero, Option.some.injEq] at hj; subst hj; simp only [hy]; exact .v _
  · obtain rfl : l = [] := List.eq_nil_of_length_eq_zero (by omega)
    cases p with
    | none =>
      have : cap = 0 := h2 rfl
      subst this
      exact .nil 2
    | some a => exact .emp a cap 2 h3
theorem trow_of {l : List Tr} (h : RepD Z w v (TsD l)) : TRow w v l := by
  obtain ⟨p, cap, e, h1, h2, h3⟩ := RepD.form h
  simp only [List.length_map] at e h1
  refine ⟨p, cap, e, h1, h3, h2, fun hl => ?_⟩
  obtain ⟨g, o, cap', vals, e', _, _, _, k⟩ := RepD.at h (by simpa using hl)
  rw [e] at e'
  simp only [Value.slice.injEq] at e'
  refine ⟨g, o, e'.1, fun j x hj => ?_⟩
  have hr : (l.map fun t => [RD t.1, RD t.2])[j]? = some [RD x.1, RD x.2] := by simp [hj]
  obtain ⟨_, c0, r0⟩ := k j _ 0 _ hr rfl
  obtain ⟨_, c1, r1⟩ := k j _ 1 _ hr rfl
  exact ⟨_, _, c0, c1, prow_of r0, prow_of r1⟩
theorem irow_of {l : List Int} (h : RepD Z w v (ID l)) : IRow w v l := by
  obtain ⟨p, cap, e, h1, h2, h3⟩ := RepD.form h
  simp only [List.length_map] at e h1
  refine ⟨p, cap, e, by unfold maxI at h2; omega, fun hl => ?_⟩
  obtain ⟨g, o, cap', vals, e', _, _, _, k⟩ := RepD.at h (by simpa using hl)
  rw [e] at e'
  simp only [Value.slice.injEq] at e'
  refine ⟨g, o, e'.1, fun j x hj => ?_⟩
  have hr : (l.map fun n => [D.v (.int .i64 n)])[j]? = some [D.v (.int .i64 x)] := by simp [hj]
  obtain ⟨_, c0, r0⟩ := k j _ 0 _ hr rfl
  rw [r0.raw] at c0
  simpa using c0
/-- the zone of what is new. -/
def newZ (w w' : World) : Zone := fun g _ => w.heap.size ≤ g ∧ Soft w' g
theorem newZ_ok : ∀ g o, newZ w w' g o → w.heap.size ≤ g ∧ Soft w' g := fun _ _ h => h
theorem of_pfr {l : List Pr} (h : PFr w.heap.size w' v l) : RepD (newZ w w') w' v (RD l) := by
  by_cases hl : 0 < l.length
  · obtain ⟨g, o, n, c, e, hb, cur, t, hg⟩ := h.2 hl
    refine of_prow h.1 fun g' o' u hg' hc => ?_
    rw [e] at hg'
    simp only [Value.ownBlock, Option.some.injEq] at hg'
    subst hg'
    exact ⟨hb, cur, t, hg⟩
  · obtain ⟨p, cap, e, h1, h2, h3, _⟩ := h.1
    obtain rfl : l = [] := List.eq_nil_of_length_eq_zero (by omega)
    subst e
    cases p with
    | none =>
      have : cap = 0 := h2 rfl
      subst this
      exact .nil 2
    | some a => exact .emp a cap 2 h3
theorem tpair_of {t : Tr} (h : RepDV Z w v (TD t)) : ∃ vA vD, v = .agg #[vA, vD] ∧ TPair w vA vD t := by
  obtain ⟨vs, e, hs, k⟩ := h
  simp only [List.length_cons, List.length_nil] at hs
  obtain ⟨l, rfl⟩ : ∃ l : List Value, vs = l.toArray := ⟨vs.toList, rfl⟩
  match l, hs with
  | [a, b], _ => exact ⟨a, b, e, prow_of (by simpa using k 0 _ rfl), prow_of (by simpa using k 1 _ rfl)⟩
theorem mis_of {m : Mg} (h : RepDV Z w v (MD m)) : ∃ a b c d e f, v = mval a b c d e f m.oldest m.at_ ∧ MIs w a b c d e f m := by
  obtain ⟨vs, e, hs, k⟩ := h
  simp only [List.length_cons, List.length_nil] at hs
  obtain ⟨l, rfl⟩ : ∃ l : List Value, vs = l.toArray := ⟨vs.toList, rfl⟩
  match l, hs with
  | [x0, x1, x2, x3, x4, x5, x6, x7], _ =>
    have e4 : x4 = .bool m.oldest := by simpa using (k 4 _ rfl).raw
    have e5 : x5 = .int .i64 m.at_ := by simpa using (k 5 _ rfl).raw
    subst e4; subst e5
    exact ⟨x0, x1, x2, x3, x6, x7, e, ⟨prow_of (by simpa using k 0 _ rfl), prow_of (by simpa using k 1 _ rfl)⟩, ⟨prow_of (by simpa using k 2 _ rfl), prow_of (by simpa using k 3 _ rfl)⟩, ⟨prow_of (by simpa using k 6 _ rfl), prow_of (by simpa using k 7 _ rfl)⟩⟩
theorem of_tfr {t : Tr} {vA vD : Value} (h : TFr w.heap.size w' vA vD t) : RepDV (newZ w w') w' (.agg #[vA, vD]) (TD t) := by
  refine ⟨_, rfl, rfl, fun i x hi => ?_⟩
  match i, hi with
  | 0, hi => simp at hi; subst hi; exact of_pfr h.a
  | 1, hi => simp at hi; subst hi; exact of_pfr h.d
  | i + 2, hi => simp at hi
theorem of_mfr {m : Mg} {a b c d e f : Value} (h : MFr w.heap.size w' a b c d e f m) : RepDV (newZ w w') w' (mval a b c d e f m.oldest m.at_) (MD m) := by
  refine ⟨_, rfl, rfl, fun i x hi => ?_⟩
  match i, hi with
  | 0, hi => simp at hi; subst hi; exact of_pfr h.o.a
  | 1, hi => simp at hi; subst hi; exact of_pfr h.o.d
  | 2, hi => simp at hi; subst hi; exact of_pfr h.n.a
  | 3, hi => simp at hi; subst hi; exact of_pfr h.n.d
  | 4, hi => simp at hi; subst hi; exact .v _
  | 5, hi => simp at hi; subst hi; exact .v _
  | 6, hi => simp at hi; subst hi; exact of_pfr h.u.a
  | 7, hi => simp at hi; subst hi; exact of_pfr h.u.d
  | i + 8, hi => simp at hi
end
theorem vs0 {vs : Array Value} (h : vs.size = 0) : vs = #[] := by simpa using h
theorem vs1 {vs : Array Value} (h : vs.size = 1) : vs = #[vs.getD 0 undef] := by
  obtain ⟨l, rfl⟩ : ∃ l : List Value, vs = l.toArray := ⟨vs.toList, rfl⟩
  match l, h with
  | [a], _ => rfl
theorem vs2 {vs : Array Value} (h : vs.size = 2) : vs = #[vs.getD 0 undef, vs.getD 1 undef] := by
  obtain ⟨l, rfl⟩ : ∃ l : List Value, vs = l.toArray := ⟨vs.toList, rfl⟩
  match l, h with
  | [a, b], _ => rfl
theorem vs3 {vs : Array Value} (h : vs.size = 3) : vs = #[vs.getD 0 undef, vs.getD 1 undef, vs.getD 2 undef] := by
  obtain ⟨l, rfl⟩ : ∃ l : List Value, vs = l.toArray := ⟨vs.toList, rfl⟩
  match l, h with
  | [a, b, c], _ => rfl
/-- a contract from a law on one, two, three arguments. -/
theorem ct0 {P : Program} {f : FuncId} {app : Option TypeId} {res : Res} (h : ∀ w, Calls P f #[] w (CtR w app res)) : Ct P f [] app res := fun Z w vs hs _ => by
  rw [vs0 hs]; exact h w
theorem ct1 {P : Program} {f : FuncId} {a : DV} {app : Option TypeId} {res : Res} (h : ∀ Z w v, RepDV Z w v a → Calls P f #[v] w (CtR w app res)) : Ct P f [a] app res := fun Z w vs hs hv => by
  rw [vs1 hs]; exact h Z w _ (hv 0 a rfl)
theorem ct2 {P : Program} {f : FuncId} {a b : DV} {app : Option TypeId} {res : Res} (h : ∀ Z w v u, RepDV Z w v a → RepDV Z w u b → Calls P f #[v, u] w (CtR w app res)) : Ct P f [a, b] app res := fun Z w vs hs hv => by
  rw [vs2 hs]; exact h Z w _ _ (hv 0 a rfl) (hv 1 b rfl)
theorem ct3 {P : Program} {f : FuncId} {a b c : DV} {app : Option TypeId} {res : Res} (h : ∀ Z w v u t, RepDV Z w v a → RepDV Z w u b → RepDV Z w t c → Calls P f #[v, u, t] w (CtR w app res)) : Ct P f [a, b, c] app res := fun Z w vs hs hv => by
  rw [vs3 hs]; exact h Z w _ _ _ (hv 0 a rfl) (hv 1 b rfl) (hv 2 c rfl)
/-- a result that leans on no memory. -/
theorem ctr_raw {w w' : World} {v : Value} (B : Below w.heap.size w w') : CtR w none (.one (.c (.v v))) (.returned v) w' := ⟨v, fun _ _ => False, rfl, B, fun _ _ h => h.elim, .v v, fun E h => by cases h⟩
theorem ctr_new {w w' : World} {v : Value} {res : Res} (B : Below w.heap.size w w') (h : RepR (newZ w w') w' v res) : CtR w none res (.returned v) w' := ⟨v, newZ w w', rfl, B, newZ_ok, h, fun E h => by cases h⟩

theorem wakes12_ct : Ct Try.prog 24 [] none (.one (dB true)) := ct0 fun w => (wakes12_any w).mono fun e w' ⟨he, B⟩ => by subst he; exact ctr_raw B
theorem lown_ct (m : Mg) : Ct Try.prog 25 [MD m] none (.one (MD (mown m))) := ct1 fun Z w v h => by
  obtain ⟨a, b, c, d, e, f, rfl, k1⟩ := mis_of h
  refine (lown_is a b c d e f m w k1).mono ?_
  rintro e w' ⟨⟨a', b', c', d', e', f', rfl, k⟩, B⟩
  exact ctr_new B (of_mfr k)
theorem lowntier_ct (t : Tr) : Ct Try.prog 39 [TD t] none (.one (TD (t.1.take 24, t.2.take 24))) := ct1 fun Z w v h => by
  obtain ⟨a, b, rfl, k1⟩ := tpair_of h
  refine (lowntier_any a b t w k1).mono ?_
  rintro e w' ⟨⟨a', b', rfl, k⟩, B⟩
  exact ctr_new B (of_tfr k)
theorem msame_ct (m m' : Mg) : Ct Try.prog 31 [MD m, MD m'] none (.one (dB (decide (m = m')))) := ct2 fun Z w v u h h' => by
  obtain ⟨a, b, c, d, e, f, rfl, k1⟩ := mis_of h
  obtain ⟨a', b', c', d', e', f', rfl, k2⟩ := mis_of h'
  refine (msame_any a b c d e f a' b' c' d' e' f' m m' w k1 k2).mono ?_
  rintro e w' ⟨rfl, B⟩
  exact ctr_raw B
theorem pmsame_ct (m m' : Mg) : Ct Try.prog 35 [MD m, MD m'] none (.one (dB (decide (m = m')))) := ct2 fun Z w v u h h' => by
  obtain ⟨a, b, c, d, e, f, rfl, k1⟩ := mis_of h
  obtain ⟨a', b', c', d', e', f', rfl, k2⟩ := mis_of h'
  refine (pmsame_any a b c d e f a' b' c' d' e' f' m m' w k1 k2).mono ?_
  rintro e w' ⟨rfl, B⟩
  exact ctr_raw B
end Go.Proofs.Ytlkdkhmdmgchbaa
namespace Go.Proofs.Ytlkdkhmdmgchbaa
set_option linter.unusedSimpArgs false
set_option linter.unusedVariables false
open Go.RowKit

/-- a slice all of whose pairs can be read and written, in blocks from B on, ahead of E. -/
def QSome (S : Nat → Prop) (w : World) (p : Option Addr) (n : Nat) : Prop :=
  0 < n → ∃ g o : Nat, p = some ⟨g, o, none⟩ ∧ S g ∧ (∃ cur t, w.heap[g]? = some (.cells cur t (0, 0))) ∧ (n : Int) ≤ 9223372036854775807 ∧ ∀ j, j < n → ∃ x y : Int, w.cell? ⟨g, o + j * 2, none⟩ = some (.int .u64 (x)) ∧ w.cell? ⟨g, o + j * 2 + 1, none⟩ = some (.int .u64 (y))
theorem QSome.keepK {K : Nat → Prop} {S : Nat → Prop} {w w' : World} {p : Option Addr} {n : Nat} (h : QSome S w p n) (hk : Keeps K w w') (hK : ∀ k, S k → K k) : QSome S w' p n := by
  intro hn
  obtain ⟨g, o, e, h1, ⟨cur, t, hg⟩, hm, h3⟩ := h hn
  exact ⟨g, o, e, h1, ⟨cur, t, (hk.block _ (ltH hg) (hK _ h1)).trans hg⟩, hm, fun j hj => by
    obtain ⟨x, y, a, b⟩ := h3 j hj
    exact ⟨x, y, (hk.cell (ltH hg) (hK _ h1)).trans a, (hk.cell (ltH hg) (hK _ h1)).trans b⟩⟩
theorem QSome.below {S : Nat → Prop} {w w' : World} {p : Option Addr} {n : Nat} (h : QSome S w p n) (hb : Below w.heap.size w w') : QSome S w' p n := h.keepK (Keeps.of_below (K := fun _ => True) hb) (fun _ _ => trivial)
theorem QSome.set {S : Nat → Prop} {w : World} {p : Option Addr} {n g' i' : Nat} {x' z : Int} (h : QSome S w p n) (hc : w.cell? ⟨g', i', none⟩ = some (.int .u64 (x'))) : QSome S (w.setCell ⟨g', i', none⟩ (.int .u64 (z))) p n := by
  intro hn
  obtain ⟨g, o, e, h1, ⟨cur, t, hg⟩, hm, h3⟩ := h hn
  refine ⟨g, o, e, h1, ?_, hm, fun j hj => ?_⟩
  · by_cases e : g = g'
    · subst e
      exact ⟨_, _, setCell_heap_same hg⟩
    · exact ⟨cur, t, (Below.heap_setCell _ _ _ _ e).trans hg⟩
  · obtain ⟨x, y, a, b⟩ := h3 j hj
    obtain ⟨x1, a1⟩ := cell_setSome (z := z) hc a
    obtain ⟨y1, b1⟩ := cell_setSome (z := z) hc b
    exact ⟨x1, y1, a1, b1⟩
theorem QSome.at {S : Nat → Prop} {w : World} {p : Option Addr} {n : Nat} (h : QSome S w p n) (j : Nat) (hj : j < n) : ∃ (g o : Nat) (x y : Int), p = some ⟨g, o, none⟩ ∧ S g ∧ w.cell? ⟨g, o + j * 2, none⟩ = some (.int .u64 (x)) ∧ w.cell? ⟨g, o + j * 2 + 1, none⟩ = some (.int .u64 (y)) ∧ w.frozen? ⟨g, o + j * 2, none⟩ = false ∧ w.frozen? ⟨g, o + j * 2 + 1, none⟩ = false ∧ g < w.heap.size ∧ (n : Int) ≤ 9223372036854775807 := by
  obtain ⟨g, o, e, h1, ⟨cur, t, hg⟩, hm, h3⟩ := h (by omega)
  obtain ⟨x, y, a, b⟩ := h3 j hj
  exact ⟨g, o, x, y, e, h1, a, b, freeH hg, freeH hg, ltH hg, hm⟩

/-- while a row of rows is written over. -/
structure SqI (w : World) (S : Nat → Prop) (T m : Nat) (vs : List Value) (W : World) : Prop where
  keeps : Keeps (fun k => ¬ S k) w W
  rows : ∀ k, k < m → ∃ p n c, W.cell? ⟨T, k, none⟩ = some (.slice p n c) ∧ QSome S W p n ∧ vs[k]? = some (.slice p n c)
  lt : T < W.heap.size
theorem SqI.set {w : World} {S : Nat → Prop} {T m : Nat} {vs : List Value} {W : World} (h : SqI w S T m vs W) (hT : ¬ S T) {g i : Nat} {x z : Int} (hc : W.cell? ⟨g, i, none⟩ = some (.int .u64 (x))) (h1 : S g) : SqI w S T m vs (W.setCell ⟨g, i, none⟩ (.int .u64 (z))) :=
  ⟨h.keeps.setCell (Or.inr (fun hn => hn h1)) _, fun k hk => by
    obtain ⟨p, n, c, a, b, d⟩ := h.rows k hk
    exact ⟨p, n, c, (World.cell?_setCell_other _ _ _ _ (fun e => by simp only [Addr.mk.injEq] at e; obtain ⟨rfl, -⟩ := e; exact hT h1)).trans a, b.set hc, d⟩, by simpa using h.lt⟩

set_option maxRecDepth 100000 in
set_option maxHeartbeats 2000000 in
theorem qspoil_any (S : Nat → Prop) (p0 p1 p2 p3 p4 p5 : Option Addr) (n0 n1 n2 n3 n4 n5 c0 c1 c2 c3 c4 c5 : Nat) (ob : Bool) (n : Int) (w : World) (h0 : QSome S w p0 n0) (h1 : QSome S w p1 n1) (h2 : QSome S w p2 n2) (h3 : QSome S w p3 n3) (h4 : QSome S w p4 n4) (h5 : QSome S w p5 n5) (hE : ∀ k, S k → k < w.heap.size) :
    Calls Try.prog 33 #[.agg #[.slice p0 n0 c0, .slice p1 n1 c1, .slice p2 n2 c2, .slice p3 n3 c3, .bool ob, .int .i64 n, .slice p4 n4 c4, .slice p5 n5 c5]] w fun e w' => e = .returned (.tuple #[]) ∧ Keeps (fun k => ¬ S k) w w' := by
  have H := hid (fun (W : World) (hb : Below w.heap.size w W) => And.intro (h0.below hb) (And.intro (h1.below hb) (And.intro (h2.below hb) (And.intro (h3.below hb) (And.intro (h4.below hb) (h5.below hb))))))
  clear h0 h1 h2 h3 h4 h5
  go_enter Try.func33, Try.ntmps33
  go_wp2_with fail
  have I0 : Hid (SqI w S (w.heap.size + 1) 6 [.slice p0 n0 c0, .slice p1 n1 c1, .slice p2 n2 c2, .slice p3 n3 c3, .slice p4 n4 c4, .slice p5 n5 c5] ((w.alloc (.cells #[.slice p0 n0 c0, .slice p1 n1 c1, .slice p2 n2 c2, .slice p3 n3 c3, .bool ob, .int .i64 n, .slice p4 n4 c4, .slice p5 n5 c5] 26)).alloc (.cells #[.slice p0 n0 c0, .slice p1 n1 c1, .slice p2 n2 c2, .slice p3 n3 c3, .slice p4 n4 c4, .slice p5 n5 c5] 22))) := by
    have hb : Below w.heap.size w ((w.alloc (.cells #[.slice p0 n0 c0, .slice p1 n1 c1, .slice p2 n2 c2, .slice p3 n3 c3, .bool ob, .int .i64 n, .slice p4 n4 c4, .slice p5 n5 c5] 26)).alloc (.cells #[.slice p0 n0 c0, .slice p1 n1 c1, .slice p2 n2 c2, .slice p3 n3 c3, .slice p4 n4 c4, .slice p5 n5 c5] 22)) := bel_step (below_alloc _ _) (below_alloc _ _)
    obtain ⟨h0, h1, h2, h3, h4, h5⟩ := H.out _ hb
    refine ⟨Keeps.of_below hb, fun k hk => ?_, by simp⟩
    match k, hk with
    | 0, _ => exact ⟨p0, n0, c0, by go_simp, h0, rfl⟩
    | 1, _ => exact ⟨p1, n1, c1, by go_simp, h1, rfl⟩
    | 2, _ => exact ⟨p2, n2, c2, by go_simp, h2, rfl⟩
    | 3, _ => exact ⟨p3, n3, c3, by go_simp, h3, rfl⟩
    | 4, _ => exact ⟨p4, n4, c4, by go_simp, h4, rfl⟩
    | 5, _ => exact ⟨p5, n5, c5, by go_simp, h5, rfl⟩
  clear H
  generalize [Value.slice p0 n0 c0, .slice p1 n1 c1, .slice p2 n2 c2, .slice p3 n3 c3, .slice p4 n4 c4, .slice p5 n5 c5] = vs at I0
  go_loopw [25] (fun v25 wr => ∃ k : Nat, v25 = (.int .i64 (k)) ∧ k ≤ 6 ∧ Hid (SqI w S (w.heap.size + 1) 6 vs wr)) (fun v25 _ => 6 - (intOf v25).toNat)
  case atStart => exact ⟨0, rfl, Nat.zero_le _, I0⟩
  case round =>
    clear I0
    obtain ⟨k, rfl, hk, I⟩ := hrel
    by_cases hgo : k < 6
    · have hgo' : (k : Int) < 6 := by omega
      obtain ⟨p, m, c, h1, -, hv⟩ := I.out.rows k hgo
      have HV := hid hv; clear hv
      go_wp2_with fail
      clear h1
      go_loopw [31] (fun v31 wr => ∃ j : Nat, v31 = (.int .i64 (j)) ∧ j ≤ m ∧ Hid (SqI w S (w.heap.size + 1) 6 vs wr)) (fun v31 _ => m - (intOf v31).toNat)
      case atStart => exact ⟨0, rfl, Nat.zero_le _, I⟩
      case round =>
        clear I
        obtain ⟨j, rfl, hj, I⟩ := hrel
        by_cases hgo2 : j < m
        · have hgo2' : (j : Int) < (m : Int) := by omega
          obtain ⟨p', m', c', -, h2, hv⟩ := I.out.rows k hgo
          have hv := hv.symm.trans HV.out
          simp only [Option.some.injEq, Value.slice.injEq] at hv
          obtain ⟨rfl, rfl, rfl⟩ := hv
          obtain ⟨g, o, x, y, rfl, b1, x0, x1, f0, f1, lt, hm⟩ := h2.at j hgo2
          have J := hid (fun (z : Int) => I.out.set (z := z) (fun h => by have := hE _ h; omega) x0 b1)
          have hw : IntKind.i64.wrap ((j : Int) + 1) = ((j + 1 : Nat) : Int) := by rw [i64_ok _ (by omega) (by omega)]; omega
          clear I hm h2 hv HV
          go_wp2_with fail
          exact ⟨⟨j + 1, by simp, hgo2, J.out _⟩, by simp [intOf]; omega⟩
        · have h1' : ¬ (j : Int) < (m : Int) := by omega
          clear hgo2
          go_wp2_with fail
          exact ⟨⟨k + 1, by simp, hgo, I⟩, by simp [intOf]; omega⟩
    · have h1' : ¬ (k : Int) < 6 := by omega
      clear hgo
      go_wp2_with fail
      go_end0
      exact ⟨rfl, I.out.keeps⟩

theorem qsome_of {Z : Zone} {S : Nat → Prop} {w : World} {v : Value} {l : List Pr} (h : RepD Z w v (RD l)) (hz : ∀ g o, Z g o → S g) (hs : ∀ g, S g → Soft w g) : ∃ p n c, v = .slice p n c ∧ QSome S w p n := by
  obtain ⟨p, cap, e, h1, h2, h3⟩ := RepD.form h
  refine ⟨p, _, cap, e, fun hn => ?_⟩
  obtain ⟨g, o, cap', vals, e', _, _, _, k⟩ := RepD.at h hn
  rw [e] at e'
  simp only [Value.slice.injEq] at e'
  have cell : ∀ j, j < (l.map PD).length → ∃ x y : Int, Z g (o + j * 2) ∧ w.cell? ⟨g, o + j * 2, none⟩ = some (.int .u64 (x)) ∧ w.cell? ⟨g, o + j * 2 + 1, none⟩ = some (.int .u64 (y)) := fun j hj => by
    have hj' : j < l.length := by simpa using hj
    have hr : (l.map PD)[j]? = some (PD l[j]) := by simp [hj']
    obtain ⟨z0, c0, r0⟩ := k j _ 0 _ hr rfl
    obtain ⟨_, c1, r1⟩ := k j _ 1 _ hr rfl
    rw [r0.raw] at c0
    rw [r1.raw] at c1
    exact ⟨_, _, z0, c0, c1⟩
  obtain ⟨_, _, z0, _⟩ := cell 0 hn
  have hg := hz _ _ z0
  refine ⟨g, o, e'.1, hg, hs g hg, by unfold maxI at h2; omega, fun j hj => ?_⟩
  obtain ⟨x, y, _, a, b⟩ := cell j hj
  exact ⟨x, y, a, b⟩
theorem lspoil_kt (m : Mg) : Kt Try.prog 33 [MD m] := by
  intro S Z w vs hs hv hz hS
  rw [vs1 hs]
  obtain ⟨us, e, hs, k⟩ := hv 0 _ rfl
  rw [e]
  simp only [List.length_cons, List.length_nil] at hs
  obtain ⟨l, rfl⟩ : ∃ l : List Value, us = l.toArray := ⟨us.toList, rfl⟩
  match l, hs with
  | [x0, x1, x2, x3, x4, x5, x6, x7], _ =>
    have e4 : x4 = .bool m.oldest := by simpa using (k 4 _ rfl).raw
    have e5 : x5 = .int .i64 m.at_ := by simpa using (k 5 _ rfl).raw
    subst e4; subst e5
    obtain ⟨p0, n0, c0, rfl, q0⟩ := qsome_of (v := x0) (by simpa using k 0 _ rfl) hz hS
    obtain ⟨p1, n1, c1, rfl, q1⟩ := qsome_of (v := x1) (by simpa using k 1 _ rfl) hz hS
    obtain ⟨p2, n2, c2, rfl, q2⟩ := qsome_of (v := x2) (by simpa using k 2 _ rfl) hz hS
    obtain ⟨p3, n3, c3, rfl, q3⟩ := qsome_of (v := x3) (by simpa using k 3 _ rfl) hz hS
    obtain ⟨p6, n6, c6, rfl, q6⟩ := qsome_of (v := x6) (by simpa using k 6 _ rfl) hz hS
    obtain ⟨p7, n7, c7, rfl, q7⟩ := qsome_of (v := x7) (by simpa using k 7 _ rfl) hz hS
    exact qspoil_any S p0 p1 p2 p3 p6 p7 n0 n1 n2 n3 n6 n7 c0 c1 c2 c3 c6 c7 m.oldest m.at_ w q0 q1 q2 q3 q6 q7 fun k hk => (hS k hk).lt
end Go.Proofs.Ytlkdkhmdmgchbaa
namespace Go.Proofs.Ytlkdkhmdmgchbaa
set_option linter.unusedSimpArgs false
set_option linter.unusedVariables false
open Go.RowKit

theorem mright_ct (m : Mg) (hs : m.small) : Ct Try.prog 28 [MD m] none (.one (dB (mright m))) := ct1 fun Z w v h => by
  obtain ⟨a, b, c, d, e, f, rfl, k1⟩ := mis_of h
  exact (mright_any a b c d e f m w k1 hs).mono fun e w' ⟨he, B⟩ => by subst he; exact ctr_raw B
theorem refleft_ct (m : Mg) (hs : m.small) (h0 : 0 ≤ m.at_) (h1 : m.at_ ≤ 9223372036854775807) : Ct Try.prog 29 [MD m] none (.one (dI (((pairsL m.older m.newer).length : Int) - m.at_))) := ct1 fun Z w v h => by
  obtain ⟨a, b, c, d, e, f, rfl, k1⟩ := mis_of h
  exact (refleft_any a b c d e f m w k1 hs h0 h1).mono fun e w' ⟨he, B⟩ => by subst he; exact ctr_raw B
theorem pcheck_ct (m : Mg) (hs : m.small) : Ct Try.prog 34 [MD m] none (.one (dI (if mright m then 0 else 220))) := ct1 fun Z w v h => by
  obtain ⟨a, b, c, d, e, f, rfl, k1⟩ := mis_of h
  exact (pcheck_any a b c d e f m w k1 hs).mono fun e w' ⟨he, B⟩ => by subst he; exact ctr_raw B
theorem pleft_ct (m : Mg) (hs : m.small) : Ct Try.prog 38 [MD m] none (.one (dI (leftL m))) := ct1 fun Z w v h => by
  obtain ⟨a, b, c, d, e, f, rfl, k1⟩ := mis_of h
  exact (pleft_any a b c d e f m w k1 hs).mono fun e w' ⟨he, B⟩ => by subst he; exact ctr_raw B
theorem one_ct (t : Tr) (hs : t.1.length ≤ 1000000) : Ct Try.prog 37 [TD t] none (.one (dB (oneL t))) := ct1 fun Z w v h => by
  obtain ⟨a, b, rfl, k1⟩ := tpair_of h
  exact (one_any a b t w k1 hs).mono fun e w' ⟨he, B⟩ => by subst he; exact ctr_raw B
theorem ctr_tup2 {w w' : World} {v u : Value} {a b : DV} (B : Below w.heap.size w w') (h : RepDV (newZ w w') w' v a) (h' : RepDV (newZ w w') w' u b) : CtR w none (.tup [a, b]) (.returned (.tuple #[v, u])) w' :=
  ctr_new B ⟨_, rfl, rfl, fun i x hi => by
    match i, hi with
    | 0, hi => simp at hi; subst hi; exact h
    | 1, hi => simp at hi; subst hi; exact h'
    | i + 2, hi => simp at hi⟩
theorem ctr_tup3 {w w' : World} {v u t : Value} {a b c : DV} (B : Below w.heap.size w w') (h : RepDV (newZ w w') w' v a) (h' : RepDV (newZ w w') w' u b) (h'' : RepDV (newZ w w') w' t c) : CtR w none (.tup [a, b, c]) (.returned (.tuple #[v, u, t])) w' :=
  ctr_new B ⟨_, rfl, rfl, fun i x hi => by
    match i, hi with
    | 0, hi => simp at hi; subst hi; exact h
    | 1, hi => simp at hi; subst hi; exact h'
    | 2, hi => simp at hi; subst hi; exact h''
    | i + 3, hi => simp at hi⟩
theorem pbegin_ct (t u : Tr) (ob : Bool) (l1 : t.1.length ≤ 200000) (l2 : t.2.length ≤ 200000) (l3 : u.1.length ≤ 200000) (l4 : u.2.length ≤ 200000) : Ct Try.prog 36 [TD t, TD u, dB ob] none (.tup [MD (beginL t u ob).1, dI (beginL t u ob).2]) := ct3 fun Z w v u' x h h' hb => by
  obtain ⟨a, b, rfl, k1⟩ := tpair_of h
  obtain ⟨c, d, rfl, k2⟩ := tpair_of h'
  obtain rfl : x = .bool ob := RepD.raw hb
  refine (pbegin_any a b c d t u ob w k1 k2 l1 l2 l3 l4).mono ?_
  rintro e w' ⟨⟨a', b', c', d', e', f', rfl, k⟩, B⟩
  exact ctr_tup2 B (of_mfr k) (.v _)
theorem pstep_ct (m : Mg) (n : Int) (hs : m.small) (l1 : m.out.1.length ≤ 1000000) (l2 : m.out.2.length ≤ 1000000) : Ct Try.prog 26 [MD m, dI n] none (.tup [MD (stepL m n).1, dI (stepL m n).2.1, dI (stepL m n).2.2]) := ct2 fun Z w v x h hn => by
  obtain ⟨a, b, c, d, e, f, rfl, k1⟩ := mis_of h
  obtain rfl : x = .int .i64 n := RepD.raw hn
  refine (pstep_any a b c d e f m n w k1 hs l1 l2).mono ?_
  rintro e w' ⟨⟨a', b', c', d', e', f', rfl, k⟩, B⟩
  exact ctr_tup3 B (of_mfr k) (.v _) (.v _)
theorem pend_ct (m : Mg) (hs : m.small) (hu : m.out.1.length ≤ 100000000 ∧ m.out.2.length ≤ 100000000) : Ct Try.prog 27 [MD m] none (.tup [TD (endL m).1, dI (endL m).2]) := ct1 fun Z w v h => by
  obtain ⟨a, b, c, d, e, f, rfl, k1⟩ := mis_of h
  refine (pend_any a b c d e f m w k1 hs hu).mono ?_
  rintro e w' ⟨⟨a', b', rfl, k⟩, B⟩
  exact ctr_tup2 B (of_tfr k) (.v _)
theorem equal_ct (l m : List Pr) : Ct Try.prog 40 [.c (RD l), .c (RD m)] none (.one (dB (decide (l = m)))) := ct2 fun Z w v u h h' =>
  (equal_any v u l m w (prow_of h) (prow_of h')).mono fun e w' ⟨he, B⟩ => by subst he; exact ctr_raw B
theorem check_ct (l : List Pr) : Ct Try.prog 41 [.c (RD l)] none (.one (dI (if rightL l then 0 else 130))) := ct1 fun Z w v h =>
  (check_any v l w (prow_of h)).mono fun e w' ⟨he, B⟩ => by subst he; exact ctr_raw B
theorem tsame_ct (l m : List Tr) : Ct Try.prog 32 [.c (TsD l), .c (TsD m)] none (.one (dB (decide (l = m)))) := ct2 fun Z w v u h h' =>
  (tsame_any v u l m w (trow_of h) (trow_of h')).mono fun e w' ⟨he, B⟩ => by subst he; exact ctr_raw B
end Go.Proofs.Ytlkdkhmdmgchbaa
namespace Go.Proofs.Ytlkdkhmdmgchbaa
set_option linter.unusedSimpArgs false
set_option linter.unusedVariables false
open Go.RowKit

def Chk (draw : Bool) (ops : Array Oper) (ks : List (List Key × List Key)) : Prop := draw = true → edgesOk ops = true ∧ ordOk ops ks = true
theorem chk_text (ops : Array Oper) (ks : List (List Key × List Key)) : Chk false ops ks := fun h => by cases h
theorem chk_drawn {ops : Array Oper} {ks : List (List Key × List Key)} (h1 : edgesOk ops = true) (h2 : ordOk ops ks = true) : Chk true ops ks := fun _ => ⟨h1, h2⟩
@[congr] theorem Chk_congr {d : Bool} {ops : Array Oper} {ks ks' : List (List Key × List Key)} (h : ks = ks') : Chk d ops ks = Chk d ops ks' := by rw [h]
section
variable {P : Program} {W0 : World} {N : Nat} {Q : Exit → Act → World → Prop} {T : Tab P} {L : Row} {c x y : Code}
/-- a region, and what stands behind it. -/
theorem AW.rs {id : Nat} {ops : Array Oper} {draw : Bool} (T : Tab P) (hm : P.follows .mixedOrders = true) (base : Nat) (h : ∀ K : Row → Prop, Hid (∀ L', AW P W0 N y Q L' → K L') → arun T N ops base ops.toList L [] fun ks L' => Chk draw ops ks ∧ K L') : AW P W0 N (.seq (.region id ops draw) y) Q L :=
  AW.seq (AW.region hm base (h (fun L' => AW P W0 N y Q L') (fun _ h => h)))
/-- a region at the end. -/
theorem AW.re {id : Nat} {ops : Array Oper} {draw : Bool} (T : Tab P) (hm : P.follows .mixedOrders = true) (base : Nat) (h : ∀ K : Row → Prop, Hid (∀ L', NX W0 N Q .normal L' → K L') → arun T N ops base ops.toList L [] fun ks L' => Chk draw ops ks ∧ K L') : AW P W0 N (.region id ops draw) Q L :=
  AW.region hm base (h (fun L' => NX W0 N Q .normal L') (fun _ h => h))
/-- what is kept of a state: the frame's first slots, all else but slots. -/
def keepT (n : Nat) : Row → Row
  | [] => []
  | (.tmp t, v) :: L => if t < n then (.tmp t, v) :: keepT n L else keepT n L
  | kv :: L => kv :: keepT n L
theorem keepT_lk (n : Nat) : ∀ (L : Row) (k : Key), lk (keepT n L) k = lk L k ∨ ∃ t, k = .tmp t ∧ lk (keepT n L) k = .unk
  | [], k => .inl rfl
  | (.tmp t, v) :: L, k => by
    unfold keepT
    by_cases h : t < n
    · rw [if_pos h]
      by_cases e : Key.tmp t = k
      · left; simp [lk, e]
      · rcases keepT_lk n L k with h' | ⟨t', h1, h2⟩
        · left; simp [lk, e, h']
        · right; exact ⟨t', h1, by simp [lk, e, h2]⟩
    · rw [if_neg h]
      by_cases e : Key.tmp t = k
      · right
        refine ⟨t, e.symm, ?_⟩
        subst e
        have : ∀ L : Row, lk (keepT n L) (.tmp t) = .unk := by
          intro L
          induction L with
          | nil => rfl
          | cons kv L ih =>
            obtain ⟨k, v⟩ := kv
            cases k with
            | tmp t' =>
              unfold keepT
              by_cases h' : t' < n
              · rw [if_pos h']
                have : ¬ (Key.tmp t' = Key.tmp t) := by simp; omega
                simp [lk, this, ih]
              · rw [if_neg h']; exact ih
            | cell _ _ => simp [keepT, lk, ih]
            | zn _ => simp [keepT, lk, ih]
            | nm _ => simp [keepT, lk, ih]
        exact this L
      · rcases keepT_lk n L k with h' | h'
        · left; simp [lk, e, h']
        · right; exact h'
  | (.cell a b, v) :: L, k => by
    by_cases e : Key.cell a b = k
    · left; simp [keepT, lk, e]
    · rcases keepT_lk n L k with h' | ⟨t', h1, h2⟩
      · left; simp [keepT, lk, e, h']
      · right; exact ⟨t', h1, by simp [keepT, lk, e, h2]⟩
  | (.zn a, v) :: L, k => by
    by_cases e : Key.zn a = k
    · left; simp [keepT, lk, e]
    · rcases keepT_lk n L k with h' | ⟨t', h1, h2⟩
      · left; simp [keepT, lk, e, h']
      · right; exact ⟨t', h1, by simp [keepT, lk, e, h2]⟩
  | (.nm a, v) :: L, k => by
    by_cases e : Key.nm a = k
    · left; simp [keepT, lk, e]
    · rcases keepT_lk n L k with h' | ⟨t', h1, h2⟩
      · left; simp [keepT, lk, e, h']
      · right; exact ⟨t', h1, by simp [keepT, lk, e, h2]⟩
theorem AS.less {N : Nat} {σ σ' : St} {a : Act} {w : World} (h : AS W0 N σ a w) (hk : ∀ k, σ' k = σ k ∨ ∃ t, k = .tmp t ∧ σ' k = .unk) : AS W0 N σ' a w := by
  obtain ⟨G, h⟩ := h
  have zn : ∀ z, σ' (.zn z) = σ (.zn z) := fun z => by rcases hk (.zn z) with h | ⟨t, h, _⟩; exact h; cases h
  have nm : ∀ z, σ' (.nm z) = σ (.nm z) := fun z => by rcases hk (.nm z) with h | ⟨t, h, _⟩; exact h; cases h
  have ce : ∀ n k, σ' (.cell n k) = σ (.cell n k) := fun n k => by rcases hk (.cell n k) with h | ⟨t, h, _⟩; exact h; cases h
  have lv : ∀ z, Lv σ' z ↔ Lv σ z := fun z => by unfold Lv; rw [zn]
  have uz : ∀ z, Uz σ' z ↔ Uz σ z := fun z => by unfold Uz; rw [zn]
  have nn : ∀ z, Nm σ' z ↔ Nm σ z := fun z => by unfold Nm; rw [nm]
  have ev : Evo G G σ σ' w w := ⟨fun z hz => (uz z).2 hz, fun n hn => ⟨(nn n).2 hn, rfl⟩, fun z _ hz => ⟨(lv z).1 hz, rfl, rfl, fun _ _ _ _ h => h⟩⟩
  refine ⟨G, ⟨h.fr, h.df, h.sz, fun t x e => ?_, fun n k x e => ?_, fun n hn => h.nm n ((nn n).1 hn), fun n m hn hm => h.inj n m ((nn n).1 hn) ((nn m).1 hm), fun z g o hz hg => ?_, fun z E sz rows e => ?_, fun z g o h0 hz => h.new z g o h0 ((lv z).1 hz), fun y z g o o' hyz hy hz => h.disj y z g o o' hyz ((lv y).1 hy) ((lv z).1 hz)⟩⟩
  · rcases hk (.tmp t) with h' | ⟨t', h1, h2⟩
    · rw [h'] at e
      obtain ⟨v, a, b⟩ := h.tmp t x e
      exact ⟨v, a, b.evo ev⟩
    · rw [h2] at e; cases e
  · rw [ce] at e
    obtain ⟨a, v, b, c, d⟩ := h.cell n k x e
    exact ⟨(nn n).2 a, v, b, c, d.evo ev⟩
  · obtain ⟨a, b⟩ := h.sep z g o ((lv z).1 hz) hg
    exact ⟨a, fun n hn => b n ((nn n).1 hn)⟩
  · rw [zn] at e
    have k := h.app z E sz rows e
    exact ⟨k.own, k.rep, fun g hg n hn => k.nn g hg n ((nn n).1 hn), fun g hg y o hy hl => k.zz g hg y o ((lv y).1 hy) hl, fun g hg y E' sz' rows' hy => k.tt g hg y E' sz' rows' (by rw [← zn]; exact hy)⟩
theorem AW.keep (n : Nat) (h : ∀ L', keepT n L = L' → AW P W0 N x Q L') : AW P W0 N x Q L := fun a w hA => h _ rfl a w (hA.less fun k => keepT_lk n L k)
theorem AW.at_ (h : ∀ L', L = L' → AW P W0 N x Q L') : AW P W0 N x Q L := h L rfl
theorem AW.ct {o : Operand} {r : Row} (ho : opr (lk L) o = some (r, .bool true)) (h : AW P W0 N x Q L) : AW P W0 N (.cond o x y) Q L := AW.cond ho (fun _ => h) (fun e => by cases e)
theorem AW.cf {o : Operand} {r : Row} (ho : opr (lk L) o = some (r, .bool false)) (h : AW P W0 N y Q L) : AW P W0 N (.cond o x y) Q L := AW.cond ho (fun e => by cases e) (fun _ => h)
/-- what stands ahead, with all that follows under one name. -/
theorem AW.sk (h : ∀ K : Exit → Act → World → Prop, Hid (∀ L', AW P W0 N y Q L' → NX W0 N K .normal L') → Hid (∀ L', NX W0 N Q .ret L' → NX W0 N K .ret L') → Hid (∀ i L', NX W0 N Q (.exit i) L' → NX W0 N K (.exit i) L') → AW P W0 N x K L) : AW P W0 N (.seq x y) Q L :=
  AW.seq (h _ (fun _ h => h) (fun _ h => h) (fun _ _ h => h))
end

theorem keepT_nil (n : Nat) : keepT n [] = [] := rfl
theorem keepT_tmp (n t : Nat) (v : KV) (L : Row) : keepT n ((.tmp t, v) :: L) = if t < n then (.tmp t, v) :: keepT n L else keepT n L := rfl
theorem keepT_cell (n a b : Nat) (v : KV) (L : Row) : keepT n ((.cell a b, v) :: L) = (.cell a b, v) :: keepT n L := rfl
theorem keepT_zn (n a : Nat) (v : KV) (L : Row) : keepT n ((.zn a, v) :: L) = (.zn a, v) :: keepT n L := rfl
theorem keepT_nm (n a : Nat) (v : KV) (L : Row) : keepT n ((.nm a, v) :: L) = (.nm a, v) :: keepT n L := rfl
/-! ### equations -/
def obd {α β : Type} (e : Option α) (k : α → Option β) : Option β := match e with
  | some v => k v
  | none => none
def kvd {β : Type} (e : KV) (k : AV → Option β) : Option β := match e with
  | .av x => k x
  | _ => none
def lvd {β : Type} (e : KV) (k : KV → Option β) : Option β := if isLv e then k e else none
def chd {β : Type} (b : Bool) (k : Option β) : Option β := if b then k else none
theorem obd_some {α β : Type} (v : α) (k : α → Option β) : obd (some v) k = k v := rfl
theorem kvd_av {β : Type} (x : AV) (k : AV → Option β) : kvd (.av x) k = k x := rfl
theorem lvd_live {β : Type} (k : KV → Option β) : lvd (.zn .live) k = k (.zn .live) := rfl
theorem lvd_app {β : Type} (E sz : Nat) (rows : List (List D)) (k : KV → Option β) : lvd (.zn (.app E sz rows)) k = k (.zn (.app E sz rows)) := rfl
theorem chd_true {β : Type} (k : Option β) : chd true k = k := rfl
@[congr] theorem obd_congr {α β : Type} {e e' : Option α} {k : α → Option β} (h : e = e') : obd e k = obd e' k := by rw [h]
@[congr] theorem kvd_congr {β : Type} {e e' : KV} {k : AV → Option β} (h : e = e') : kvd e k = kvd e' k := by rw [h]
@[congr] theorem lvd_congr {β : Type} {e e' : KV} {k : KV → Option β} (h : e = e') : lvd e k = lvd e' k := by rw [h]
@[congr] theorem chd_congr {β : Type} {b b' : Bool} {k : Option β} (h : b = b') : chd b k = chd b' k := by rw [h]
section
variable {P : Program} (L : St) (T : Tab P)
theorem dflt_tmp (n : Nat) : dflt (.tmp n) = .unk := rfl
theorem dflt_cell (n k : Nat) : dflt (.cell n k) = .unk := rfl
theorem dflt_zn (n : Nat) : dflt (.zn n) = .zn .free := rfl
theorem dflt_nm (n : Nat) : dflt (.nm n) = .nm false := rfl
theorem lk_cons (k' : Key) (v : KV) (r : Row) (k : Key) : lk ((k', v) :: r) k = if k' = k then v else lk r k := rfl
theorem lk_nil (k : Key) : lk [] k = dflt k := rfl
theorem ins_nil (k : Key) (v : KV) : ins k v [] = [(k, v)] := rfl
theorem ins_cons (k k' : Key) (v v' : KV) (r : Row) : ins k v ((k', v') :: r) = if k' = k then (k, v) :: r else (k', v') :: ins k v r := rfl
theorem puts_nil (L : Row) : puts L [] = L := rfl
theorem puts_cons (L : Row) (k : Key) (v : KV) (ws : Row) : puts L ((k, v) :: ws) = ins k v (puts L ws) := rfl
theorem wr_some (d : Tmp) (x : AV) : wr (some d) x = [(.tmp d, .av x)] := rfl
theorem wr_none (x : AV) : wr none x = [] := rfl
theorem opd_tmp (t : Tmp) : opd L (.tmp t) = kvd (L (.tmp t)) fun x => some ([(.tmp t, .av x)], x) := by
  cases h : L (.tmp t) <;> simp [opd, kvd, h]
theorem opd_const (v : Value) : opd L (.const v) = some ([], cst v) := rfl
theorem opd_func (f : FuncId) : opd L (.func f) = some ([], .c [] (.v (.func (.func f) #[] #[]))) := rfl
theorem zr_nil : zr L [] = some [] := rfl
theorem zr_cons (z : Nat) (zs : List Nat) : zr L (z :: zs) = lvd (L (.zn z)) fun s => obd (zr L zs) fun r => some ((.zn z, s) :: r) := by
  simp only [zr, lvd, obd]; split
  · cases zr L zs <;> rfl
  · rfl
theorem rawL_nil : rawL L [] = some ([], []) := rfl
theorem rawL_cons (zs : List Nat) (x : Value) (cs : List (List Nat × D)) : rawL L ((zs, .v x) :: cs) = obd (zr L zs) fun r => obd (rawL L cs) fun y => some (r ++ y.1, x :: y.2) := by
  simp only [rawL, obd]
  cases zr L zs with
  | none => rfl
  | some r => cases rawL L cs <;> rfl
theorem raw_c (zs : List Nat) (x : Value) : raw L (.c zs (.v x)) = obd (zr L zs) fun r => some (r, x) := by
  simp only [raw, obd]; cases zr L zs <;> rfl
theorem raw_a (cs : List (List Nat × D)) : raw L (.agg cs) = obd (rawL L cs) fun y => some (y.1, .agg y.2.toArray) := by
  simp only [raw, obd]
  cases rawL L cs <;> rfl
theorem opr_e (x : Operand) : opr L x = obd (opd L x) fun y => obd (raw L y.2) fun z => some (y.1 ++ z.1, z.2) := by
  simp only [opr, obd]
  cases opd L x with
  | none => rfl
  | some y => simp only; cases raw L y.2 <;> rfl
theorem cells_zero (n off : Nat) : cells L n off 0 = some ([], []) := rfl
theorem cells_succ (n off c : Nat) : cells L n off (c + 1) = kvd (L (.cell n off)) fun x => obd (cd x) fun y => obd (cells L n (off + 1) c) fun z => some ((.cell n off, .av x) :: z.1, y :: z.2) := by
  cases h : L (.cell n off) with
  | av x =>
    simp only [cells, kvd, obd, h]
    cases cd x with
    | none => rfl
    | some y => cases cells L n (off + 1) c <;> rfl
  | _ => simp only [cells, kvd, h]
theorem ops_e (esz : Nat) (x : Operand) : ops L esz x = obd (opd L x) fun y => obd (slc esz y.2) fun s => obd (zr L s.1) fun r' => some (y.1 ++ r', s.1, s.2) := by
  simp only [ops, obd]
  cases opd L x with
  | none => rfl
  | some y =>
    simp only
    cases slc esz y.2 with
    | none => rfl
    | some s => simp only; cases zr L s.1 <;> rfl
theorem opb_none : opb L none = some ([], none) := rfl
theorem opb_some (x : Operand) : opb L (some x) = obd (opr L x) fun y => match y.2 with | .int k n => some (y.1, some (k, n)) | _ => none := by
  simp only [opb, obd]
  cases opr L x with
  | none => rfl
  | some y => obtain ⟨r, v⟩ := y; cases v <;> rfl
theorem spread1_s (zs : List Nat) (sz : Nat) (rows : List (List D)) : spread1 L (.c zs (.s sz rows)) = zr L zs := rfl
theorem spread1_v (zs : List Nat) (u : Value) : spread1 L (.c zs (.v u)) = chd u.oneCell' (zr L zs) := rfl
theorem spread1_own (z sz : Nat) (rows : List (List D)) : spread1 L (.own z sz rows) = zr L [z] := rfl
theorem spread1_ptr (n off : Nat) : spread1 L (.ptr n off) = some [] := rfl
theorem spread1_seg (zs : List Nat) (ds : List D) : spread1 L (.seg zs ds) = zr L zs := rfl
theorem spreadL_nil : spreadL L [] = some ([], []) := rfl
theorem spreadL_cons (zs : List Nat) (x : D) (cs : List (List Nat × D)) : spreadL L ((zs, x) :: cs) = obd (spread1 L (.c zs x)) fun r => obd (spreadL L cs) fun y => some (r ++ y.1, .c zs x :: y.2) := by
  simp only [spreadL, obd]
  cases spread1 L (.c zs x) with
  | none => rfl
  | some r => cases spreadL L cs <;> rfl
theorem spread_agg (cs : List (List Nat × D)) : spread L (.agg cs) = spreadL L cs := rfl
theorem spread_c (zs : List Nat) (x : D) : spread L (.c zs x) = obd (spread1 L (.c zs x)) fun r => some (r, [.c zs x]) := by
  simp only [spread, obd]; cases spread1 L (.c zs x) <;> rfl
theorem spread_own (z sz : Nat) (rows : List (List D)) : spread L (.own z sz rows) = obd (zr L [z]) fun r => some (r, [.own z sz rows]) := by
  show (spread1 L (.own z sz rows)).map _ = _
  rw [spread1_own]; simp only [obd]; cases zr L [z] <;> rfl
theorem spread_ptr (n off : Nat) : spread L (.ptr n off) = some ([], [.ptr n off]) := rfl
theorem ex_zero (n off : Nat) : ex L n off 0 = some [] := rfl
theorem ex_succ (n off c : Nat) : ex L n off (c + 1) = kvd (L (.cell n off)) fun x => obd (ex L n (off + 1) c) fun r => some ((.cell n off, .av x) :: r) := by
  cases h : L (.cell n off) with
  | av x =>
    simp only [ex, kvd, obd, h]
    cases ex L n (off + 1) c <;> rfl
  | _ => simp only [ex, kvd, h]
theorem spreadD_agg (cs : List (List Nat × D)) : spreadD L (.agg cs) = some ([], cs) := rfl
theorem spreadD_c (zs : List Nat) (x : D) : spreadD L (.c zs x) = obd (spread1 L (.c zs x)) fun r => some (r, [(zs, x)]) := by
  simp only [spreadD, obd]; cases spread1 L (.c zs x) <;> rfl
theorem spreadD_own (z sz : Nat) (rows : List (List D)) : spreadD L (.own z sz rows) = obd (zr L [z]) fun r => some (r, [([z], .s sz rows)]) := by
  show (spread1 L (.own z sz rows)).map _ = _
  rw [spread1_own]; simp only [obd]; cases zr L [z] <;> rfl
theorem fillO_nil (pl : Nat → Option (Nat × Nat)) (cs : List (List Nat × D)) : fillO L pl cs [] = some ([], cs) := rfl
theorem fillO_cons (pl : Nat → Option (Nat × Nat)) (cs : List (List Nat × D)) (i : Nat) (x : Operand) (rest : List (Nat × Operand)) :
    fillO L pl cs ((i, x) :: rest) = obd (pl i) fun p => obd (opd L x) fun y => obd (spreadD L y.2) fun s => chd (decide (s.2.length = p.2) && decide (p.1 + s.2.length ≤ cs.length)) (obd (fillO L pl (setR cs p.1 s.2) rest) fun z => some (y.1 ++ (s.1 ++ z.1), z.2)) := by
  simp only [fillO, obd, chd]
  cases pl i with
  | none => rfl
  | some p =>
    cases opd L x with
    | none => rfl
    | some y =>
      simp only
      cases spreadD L y.2 with
      | none => rfl
      | some s =>
        simp only [Bool.and_eq_true, decide_eq_true_eq]
        split
        · cases fillO L pl (setR cs p.1 s.2) rest <;> rfl
        · rfl
theorem zrL_nil : zrL L [] = some [] := rfl
theorem zrL_cons (zs : List Nat) (x : D) (cs : List (List Nat × D)) : zrL L ((zs, x) :: cs) = obd (zr L zs) fun r => obd (zrL L cs) fun r' => some (r ++ r') := by
  simp only [zrL, obd]
  cases zr L zs with
  | none => rfl
  | some r => cases zrL L cs <;> rfl
theorem dvOf_c (zs : List Nat) (x : D) : dvOf L (.c zs x) = obd (zr L zs) fun r => some (r, .c x) := by
  simp only [dvOf, obd]; cases zr L zs <;> rfl
theorem dvOf_own (z sz : Nat) (rows : List (List D)) : dvOf L (.own z sz rows) = obd (zr L [z]) fun r => some (r, .c (.s sz rows)) := by
  simp only [dvOf, obd]; cases zr L [z] <;> rfl
theorem dvOf_agg (cs : List (List Nat × D)) : dvOf L (.agg cs) = obd (zrL L cs) fun r => some (r, .agg (cs.map (·.2))) := by
  simp only [dvOf, obd]; cases zrL L cs <;> rfl
theorem argsOf_nil : argsOf L [] = some ([], []) := rfl
theorem argsOf_cons (x : Operand) (xs : List Operand) : argsOf L (x :: xs) = obd (opd L x) fun y => obd (dvOf L y.2) fun d => obd (argsOf L xs) fun z => some (y.1 ++ (d.1 ++ z.1), d.2 :: z.2) := by
  simp only [argsOf, obd]
  cases opd L x with
  | none => rfl
  | some y =>
    simp only
    cases dvOf L y.2 with
    | none => rfl
    | some d => cases argsOf L xs <;> rfl
theorem zsArgs_nil : zsArgs L [] = [] := rfl
def avd (e : Option (Row × AV)) (k : AV → List Nat) : List Nat := match e with
  | some (_, y) => k y
  | none => []
theorem avd_some (r : Row) (y : AV) (k : AV → List Nat) : avd (some (r, y)) k = k y := rfl
theorem zsArgs_cons (x : Operand) (xs : List Operand) : zsArgs L (x :: xs) = avd (opd L x) zsAV ++ zsArgs L xs := rfl
theorem placesT_nil : placesT T [] = some [] := rfl
theorem placesT_cons (off : Nat) (t : TypeId) (fs : List (Nat × TypeId)) : placesT T ((off, t) :: fs) = obd (T.f t) fun ti => obd (placesT T fs) fun l => some ((off, ti.size) :: l) := by
  simp only [placesT, obd]
  cases T.f t with
  | none => rfl
  | some ti => cases placesT T fs <;> rfl
theorem zds_nil (hs : List (Option Nat)) : zds [] hs = [] := rfl
theorem zds_e (v : Value) (vs : List Value) : zds (v :: vs) [] = .v v :: zds vs [] := rfl
theorem zds_v (v : Value) (vs : List Value) (hs : List (Option Nat)) : zds (v :: vs) (none :: hs) = .v v :: zds vs hs := rfl
theorem zds_s (sz : Nat) (vs : List Value) (hs : List (Option Nat)) : zds (.slice none 0 0 :: vs) (some sz :: hs) = .s sz [] :: zds vs hs := rfl
theorem vcells_agg (c : Array Value) : Value.cells (.agg c) = c := rfl
theorem vcells_int (k : IntKind) (i : Int) : Value.cells (.int k i) = #[.int k i] := rfl
theorem vcells_bool (b : Bool) : Value.cells (.bool b) = #[.bool b] := rfl
theorem vcells_string (b : ByteArray) : Value.cells (.string b) = #[.string b] := rfl
theorem vcells_slice (p : Option Addr) (l c : Nat) : Value.cells (.slice p l c) = #[.slice p l c] := rfl
theorem vcells_pointer (p : Option Addr) : Value.cells (.pointer p) = #[.pointer p] := rfl
theorem toList_lit {α : Type} (l : List α) : (⟨l⟩ : Array α).toList = l := rfl
theorem map_nilL {α β : Type} (f : α → β) : [].map f = [] := rfl
theorem map_consL {α β : Type} (f : α → β) (x : α) (l : List α) : (x :: l).map f = f x :: l.map f := rfl
theorem crow_nil (n k : Nat) : crow n k [] = [] := rfl
theorem crow_cons (n k : Nat) (y : AV) (ys : List AV) : crow n k (y :: ys) = (.cell n k, .av y) :: crow n (k + 1) ys := rfl
def vid {β : Type} (v : Value) (k : IntKind → Int → Option β) : Option β := match v with
  | .int kk n => k kk n
  | _ => none
theorem vid_int {β : Type} (kk : IntKind) (n : Int) (k : IntKind → Int → Option β) : vid (.int kk n) k = k kk n := rfl
theorem opb_int (x : Operand) : opb L (some x) = obd (opr L x) fun y => vid y.2 fun k n => some (y.1, some (k, n)) := by
  rw [opb_some]
  simp only [obd]
  cases opr L x with
  | none => rfl
  | some y => obtain ⟨r, v⟩ := y; cases v <;> rfl
theorem cd_c (zs : List Nat) (x : D) : cd (.c zs x) = some (zs, x) := rfl
theorem cd_own (z sz : Nat) (rows : List (List D)) : cd (.own z sz rows) = some ([z], .s sz rows) := rfl
theorem nz_v (zs : List Nat) (x : Value) : nz zs (.v x) = [] := rfl
theorem nz_s (zs : List Nat) (sz : Nat) (rows : List (List D)) : nz zs (.s sz rows) = zs := rfl
theorem slc_c (esz : Nat) (zs : List Nat) (sz : Nat) (rows : List (List D)) : slc esz (.c zs (.s sz rows)) = if sz = esz then some (zs, rows) else none := rfl
theorem slc_own (esz : Nat) (z : Nat) (sz : Nat) (rows : List (List D)) : slc esz (.own z sz rows) = if sz = esz then some ([z], rows) else none := rfl
theorem slc_nil (esz : Nat) : slc esz (.c [] (.v (.slice none 0 0))) = some ([], []) := rfl
theorem cst_agg (vs : Array Value) : cst (.agg vs) = .agg (vs.toList.map fun v => ([], .v v)) := rfl
theorem cst_int (k : IntKind) (n : Int) : cst (.int k n) = .c [] (.v (.int k n)) := rfl
theorem cst_bool (b : Bool) : cst (.bool b) = .c [] (.v (.bool b)) := rfl
theorem cst_string (s : ByteArray) : cst (.string s) = .c [] (.v (.string s)) := rfl
theorem cst_slice (a : Option Addr) (n c : Nat) : cst (.slice a n c) = .c [] (.v (.slice a n c)) := rfl
theorem cst_tuple (vs : Array Value) : cst (.tuple vs) = .c [] (.v (.tuple vs)) := rfl
theorem cst_nilFunc : cst .nilFunc = .c [] (.v .nilFunc) := rfl
theorem cst_pointer (a : Option Addr) : cst (.pointer a) = .c [] (.v (.pointer a)) := rfl
theorem cst_func (f : Fn) (a b : Array Value) : cst (.func f a b) = .c [] (.v (.func f a b)) := rfl
theorem bin_add (k : IntKind) (x y : Int) : bin .add (.int k x) (.int k y) = some (.int k (k.wrap (x + y)), True) := by simp [bin]
theorem bin_sub (k : IntKind) (x y : Int) : bin .sub (.int k x) (.int k y) = some (.int k (k.wrap (x - y)), True) := by simp [bin]
theorem bin_mul (k : IntKind) (x y : Int) : bin .mul (.int k x) (.int k y) = some (.int k (k.wrap (x * y)), True) := by simp [bin]
theorem bin_quo (k : IntKind) (x y : Int) : bin .quo (.int k x) (.int k y) = some (.int k (k.wrap (x.tdiv y)), y ≠ 0) := by simp [bin]
theorem bin_rem (k : IntKind) (x y : Int) : bin .rem (.int k x) (.int k y) = some (.int k (x.tmod y), y ≠ 0) := by simp [bin]
theorem bin_eql (k : IntKind) (x y : Int) : bin .eql (.int k x) (.int k y) = some (.bool (decide (x = y)), True) := by
  simp only [bin, if_true, Option.some.injEq, Prod.mk.injEq, and_true, Value.bool.injEq]
  rw [Bool.eq_iff_iff]; simp
theorem bin_neq (k : IntKind) (x y : Int) : bin .neq (.int k x) (.int k y) = some (.bool (!decide (x = y)), True) := by
  simp only [bin, if_true, Option.some.injEq, Prod.mk.injEq, and_true, Value.bool.injEq]
  rw [Bool.eq_iff_iff]; simp
theorem bin_lss (k : IntKind) (x y : Int) : bin .lss (.int k x) (.int k y) = some (.bool (decide (x < y)), True) := by simp [bin]
theorem bin_leq (k : IntKind) (x y : Int) : bin .leq (.int k x) (.int k y) = some (.bool (decide (x ≤ y)), True) := by simp [bin]
theorem bin_gtr (k : IntKind) (x y : Int) : bin .gtr (.int k x) (.int k y) = some (.bool (decide (y < x)), True) := by simp [bin]
theorem bin_geq (k : IntKind) (x y : Int) : bin .geq (.int k x) (.int k y) = some (.bool (decide (y ≤ x)), True) := by simp [bin]
theorem bin_bool (op : BinOp) (x y : Bool) : bin op (.bool x) (.bool y) = none := by cases op <;> rfl
def shbd (s : Sh) (k : Option Value) : Option Value := if s = .bool then k else none
theorem shbd_bool (k : Option Value) : shbd .bool k = k := rfl
@[congr] theorem shbd_congr {s s' : Sh} {k : Option Value} (h : s = s') : shbd s k = shbd s' k := by rw [h]
def eqb : BinOp → Bool → Bool → Option Value
  | .eql, a, b => some (.bool (a == b))
  | .neq, a, b => some (.bool (!(a == b)))
  | _, _, _ => none
theorem eqb_eql (a b : Bool) : eqb .eql a b = some (.bool (a == b)) := rfl
theorem eqb_neq (a b : Bool) : eqb .neq a b = some (.bool (!(a == b))) := rfl
theorem binT_bool (op : BinOp) (t : TypeId) (x y : Bool) : binT T op t (.bool x) (.bool y) = obd (T.f t) fun ti => shbd ti.sh (eqb op x y) := by
  unfold binT obd shbd
  cases T.f t with
  | none => rfl
  | some ti => cases op <;> rfl
theorem binT_aggs (op : BinOp) (t : TypeId) (x y : Array Value) : binT T op t (.agg x) (.agg y) = none := rfl
theorem bin_aggs (op : BinOp) (x y : Array Value) : bin op (.agg x) (.agg y) = none := by cases op <;> rfl
theorem bin_slice (op : BinOp) (a : Option Addr) (n c : Nat) (y : Value) : bin op (.slice a n c) y = none := by cases op <;> rfl
theorem bin_str_eql (x y : ByteArray) : bin .eql (.string x) (.string y) = some (.bool (x.toList == y.toList), True) := rfl
theorem bin_str_neq (x y : ByteArray) : bin .neq (.string x) (.string y) = some (.bool (!(x.toList == y.toList)), True) := rfl
theorem bin_str_lss (x y : ByteArray) : bin .lss (.string x) (.string y) = some (.bool (Op.bytesLess x.toList y.toList), True) := rfl
theorem bin_str_add (x y : ByteArray) : bin .add (.string x) (.string y) = some (.string (x ++ y), ((x.size + y.size : Nat) : Int) ≤ IntKind.i64.max) := rfl
theorem atz_c (zs : List Nat) (x : D) : atz zs (.c x) = .c (nz zs x) x := rfl
theorem atz_agg (zs : List Nat) (cs : List D) : atz zs (.agg cs) = .agg (cs.map fun x => (nz zs x, x)) := rfl
theorem resAV_s (z sz : Nat) (rows : List (List D)) : resAV z none (.one (.c (.s sz rows))) = .c [z] (.s sz rows) := rfl
theorem resAV_own (z sz E : Nat) (rows : List (List D)) : resAV z (some E) (.one (.c (.s sz rows))) = .own z sz rows := rfl
theorem resAV_agg (z : Nat) (cs : List D) (app : Option TypeId) : resAV z app (.one (.agg cs)) = .agg (cs.map fun x => (nz [z] x, x)) := rfl
theorem resAV_tup (z : Nat) (l : List DV) (app : Option TypeId) : resAV z app (.tup l) = .tup [z] l := rfl
theorem resZ_none (r : Res) : resZ none r = .live := by
  cases r with
  | one x => cases x with
    | c x => cases x <;> rfl
    | agg => rfl
  | tup => rfl
theorem resZ_own (sz E : Nat) (rows : List (List D)) : resZ (some E) (.one (.c (.s sz rows))) = .app E sz rows := rfl
theorem resV_one (x : DV) : resV (.one x) = atz [] x := rfl
theorem resV_tup (l : List DV) : resV (.tup l) = .tup [] l := rfl
theorem isV_one (x : DV) : (Res.one x).isV = x.isV := rfl
theorem isV_tup (l : List DV) : (Res.tup l).isV = l.all (·.isV) := rfl
theorem isV_c (x : D) : (DV.c x).isV = x.isV := rfl
theorem isV_agg (cs : List D) : (DV.agg cs).isV = cs.all (·.isV) := rfl
theorem isV_v (x : Value) : (D.v x).isV = true := rfl
theorem isV_s (sz : Nat) (rows : List (List D)) : (D.s sz rows).isV = false := rfl
theorem zsAV_c (zs : List Nat) (x : D) : zsAV (.c zs x) = zs := rfl
theorem zsAV_own (z sz : Nat) (rows : List (List D)) : zsAV (.own z sz rows) = [z] := rfl
theorem zsAV_agg (cs : List (List Nat × D)) : zsAV (.agg cs) = zsAll cs := rfl
theorem gd_some {ops : Array Oper} {run skip : Row → Prop} {d : Option Tmp} {op : Op} {t : TypeId} {s : String} {e : Array Edge} {j : Nat} {want : Bool} : gd ops L ⟨d, op, t, s, e, some (j, want)⟩ run skip =
    ob ((ops[j]?).bind (·.dst)) fun d => kva (L (.tmp d)) fun x => avb x fun b => gsel b want (run [(.tmp d, .av (.c [] (.v (.bool b))))]) (skip [(.tmp d, .av (.c [] (.v (.bool b))))]) := rfl
theorem gd_none {ops : Array Oper} {run skip : Row → Prop} {d : Option Tmp} {op : Op} {t : TypeId} {s : String} {e : Array Edge} : gd ops L ⟨d, op, t, s, e, none⟩ run skip = run [] := rfl
theorem dok_some {N : Nat} {d : Tmp} {op : Op} {t : TypeId} {s : String} {e : Array Edge} {g : Option (Nat × Bool)} : dok N ⟨some d, op, t, s, e, g⟩ = decide (d < N) := rfl
theorem dok_none {N : Nat} {op : Op} {t : TypeId} {s : String} {e : Array Edge} {g : Option (Nat × Bool)} : dok N ⟨none, op, t, s, e, g⟩ = true := rfl
end
/-! ### a region's operations, one behind the other: all but those that want a word of the prover's -/
section
variable {P : Program} (T : Tab P) (N : Nat) (ops : Array Oper) (z : Nat) (todo : List Oper) (L : Row) (ks : List (List Key × List Key)) (k : List (List Key × List Key) → Row → Prop) (d : Option Tmp) (ty : TypeId) (s : String) (e : Array Edge) (g : Option (Nat × Bool))
def skipTo (T : Tab P) (N : Nat) (ops : Array Oper) (z : Nat) (todo : List Oper) (L : Row) (ks : List (List Key × List Key)) (k : List (List Key × List Key) → Row → Prop) (d : Option Tmp) : Row → Prop := fun gr => arun T N ops (z + 1) todo (puts L (wr d (.c [] (.v undef)))) (ks ++ [(gr.map (·.1), (wr d (.c [] (.v undef))).map (·.1))]) k
def goTo (T : Tab P) (N : Nat) (ops : Array Oper) (z : Nat) (todo : List Oper) (L : Row) (ks : List (List Key × List Key)) (k : List (List Key × List Key) → Row → Prop) (gr : Row) : Trc → Prop := fun tr => arun T N ops (z + 1) todo (puts L tr.writes) (ks ++ [((gr ++ tr.reads).map (·.1), tr.writes.map (·.1))]) k
theorem skipTo_e (gr : Row) : skipTo T N ops z todo L ks k d gr = arun T N ops (z + 1) todo (puts L (wr d (.c [] (.v undef)))) (ks ++ [(gr.map (·.1), (wr d (.c [] (.v undef))).map (·.1))]) k := rfl
theorem goTo_e (gr r wsr : Row) : goTo T N ops z todo L ks k gr ⟨r, wsr⟩ = arun T N ops (z + 1) todo (puts L wsr) (ks ++ [((gr ++ r).map (·.1), wsr.map (·.1))]) k := rfl
theorem ar_move (x : Operand) : arun T N ops z (⟨d, .move x, ty, s, e, g⟩ :: todo) L ks k = chk (dok N ⟨d, .move x, ty, s, e, g⟩) (gd ops (lk L) ⟨d, .move x, ty, s, e, g⟩ (fun gr => stMove (lk L) ⟨d, .move x, ty, s, e, g⟩ x (goTo T N ops z todo L ks k gr)) (skipTo T N ops z todo L ks k d)) := rfl
theorem ar_assign (x : Operand) : arun T N ops z (⟨d, .assign x, ty, s, e, g⟩ :: todo) L ks k = chk (dok N ⟨d, .assign x, ty, s, e, g⟩) (gd ops (lk L) ⟨d, .assign x, ty, s, e, g⟩ (fun gr => stMove (lk L) ⟨d, .assign x, ty, s, e, g⟩ x (goTo T N ops z todo L ks k gr)) (skipTo T N ops z todo L ks k d)) := rfl
theorem ar_pick (c x y : Operand) : arun T N ops z (⟨d, .pick c x y, ty, s, e, g⟩ :: todo) L ks k = chk (dok N ⟨d, .pick c x y, ty, s, e, g⟩) (gd ops (lk L) ⟨d, .pick c x y, ty, s, e, g⟩ (fun gr => stPick (lk L) ⟨d, .pick c x y, ty, s, e, g⟩ c x y (goTo T N ops z todo L ks k gr)) (skipTo T N ops z todo L ks k d)) := rfl
theorem ar_bin (op : BinOp) (a b : TypeId) (x y : Operand) : arun T N ops z (⟨d, .binOp op a x y b, ty, s, e, g⟩ :: todo) L ks k = chk (dok N ⟨d, .binOp op a x y b, ty, s, e, g⟩) (gd ops (lk L) ⟨d, .binOp op a x y b, ty, s, e, g⟩ (fun gr => stBin T (lk L) ⟨d, .binOp op a x y b, ty, s, e, g⟩ op a x y (goTo T N ops z todo L ks k gr)) (skipTo T N ops z todo L ks k d)) := rfl
theorem ar_un (op : UnOp) (a : TypeId) (x : Operand) : arun T N ops z (⟨d, .unOp op a x, ty, s, e, g⟩ :: todo) L ks k = chk (dok N ⟨d, .unOp op a x, ty, s, e, g⟩) (gd ops (lk L) ⟨d, .unOp op a x, ty, s, e, g⟩ (fun gr => stUn (lk L) ⟨d, .unOp op a x, ty, s, e, g⟩ op x (goTo T N ops z todo L ks k gr)) (skipTo T N ops z todo L ks k d)) := rfl
theorem ar_conv (a b : TypeId) (x : Operand) : arun T N ops z (⟨d, .convert a b x, ty, s, e, g⟩ :: todo) L ks k = chk (dok N ⟨d, .convert a b x, ty, s, e, g⟩) (gd ops (lk L) ⟨d, .convert a b x, ty, s, e, g⟩ (fun gr => stConv T (lk L) ⟨d, .convert a b x, ty, s, e, g⟩ a b x (goTo T N ops z todo L ks k gr)) (skipTo T N ops z todo L ks k d)) := rfl
theorem ar_load (t : TypeId) (x : Operand) : arun T N ops z (⟨d, .load t x, ty, s, e, g⟩ :: todo) L ks k = chk (dok N ⟨d, .load t x, ty, s, e, g⟩) (gd ops (lk L) ⟨d, .load t x, ty, s, e, g⟩ (fun gr => stLoad T (lk L) ⟨d, .load t x, ty, s, e, g⟩ t x (goTo T N ops z todo L ks k gr)) (skipTo T N ops z todo L ks k d)) := rfl
theorem ar_faddr (t : TypeId) (x : Operand) (f : Nat) : arun T N ops z (⟨d, .fieldAddr t x f, ty, s, e, g⟩ :: todo) L ks k = chk (dok N ⟨d, .fieldAddr t x f, ty, s, e, g⟩) (gd ops (lk L) ⟨d, .fieldAddr t x f, ty, s, e, g⟩ (fun gr => stFaddr T (lk L) ⟨d, .fieldAddr t x f, ty, s, e, g⟩ t x f (goTo T N ops z todo L ks k gr)) (skipTo T N ops z todo L ks k d)) := rfl
theorem ar_field (t : TypeId) (x : Operand) (f : Nat) : arun T N ops z (⟨d, .field t x f, ty, s, e, g⟩ :: todo) L ks k = chk (dok N ⟨d, .field t x f, ty, s, e, g⟩) (gd ops (lk L) ⟨d, .field t x f, ty, s, e, g⟩ (fun gr => stField T (lk L) ⟨d, .field t x f, ty, s, e, g⟩ t x f (goTo T N ops z todo L ks k gr)) (skipTo T N ops z todo L ks k d)) := rfl
theorem ar_extract (x : Operand) (i : Nat) : arun T N ops z (⟨d, .extract x i, ty, s, e, g⟩ :: todo) L ks k = chk (dok N ⟨d, .extract x i, ty, s, e, g⟩) (gd ops (lk L) ⟨d, .extract x i, ty, s, e, g⟩ (fun gr => stExtract (lk L) ⟨d, .extract x i, ty, s, e, g⟩ x i (goTo T N ops z todo L ks k gr)) (skipTo T N ops z todo L ks k d)) := rfl
theorem ar_alloc (t : TypeId) : arun T N ops z (⟨d, .alloc t, ty, s, e, g⟩ :: todo) L ks k = chk (dok N ⟨d, .alloc t, ty, s, e, g⟩) (gd ops (lk L) ⟨d, .alloc t, ty, s, e, g⟩ (fun gr => stAlloc T (lk L) z ⟨d, .alloc t, ty, s, e, g⟩ t (goTo T N ops z todo L ks k gr)) (skipTo T N ops z todo L ks k d)) := rfl
theorem ar_box (t : TypeId) (x : Operand) : arun T N ops z (⟨d, .box t x, ty, s, e, g⟩ :: todo) L ks k = chk (dok N ⟨d, .box t x, ty, s, e, g⟩) (gd ops (lk L) ⟨d, .box t x, ty, s, e, g⟩ (fun gr => stBox (lk L) z ⟨d, .box t x, ty, s, e, g⟩ x (goTo T N ops z todo L ks k gr)) (skipTo T N ops z todo L ks k d)) := rfl
theorem ar_store (t : TypeId) (x v : Operand) : arun T N ops z (⟨d, .store t x v, ty, s, e, g⟩ :: todo) L ks k = chk (dok N ⟨d, .store t x v, ty, s, e, g⟩) (gd ops (lk L) ⟨d, .store t x v, ty, s, e, g⟩ (fun gr => stStore T (lk L) ⟨d, .store t x v, ty, s, e, g⟩ t x v (goTo T N ops z todo L ks k gr)) (skipTo T N ops z todo L ks k d)) := rfl
theorem ar_build (t : TypeId) (ps : Array (Nat × Operand)) : arun T N ops z (⟨d, .build t ps, ty, s, e, g⟩ :: todo) L ks k = chk (dok N ⟨d, .build t ps, ty, s, e, g⟩) (gd ops (lk L) ⟨d, .build t ps, ty, s, e, g⟩ (fun gr => stBuild T (lk L) ⟨d, .build t ps, ty, s, e, g⟩ t ps (goTo T N ops z todo L ks k gr)) (skipTo T N ops z todo L ks k d)) := rfl
theorem ar_rows (t : TypeId) (n : Nat) (ps : Array (Nat × Operand)) : arun T N ops z (⟨d, .buildSlice t n ps, ty, s, e, g⟩ :: todo) L ks k = chk (dok N ⟨d, .buildSlice t n ps, ty, s, e, g⟩) (gd ops (lk L) ⟨d, .buildSlice t n ps, ty, s, e, g⟩ (fun gr => stRows T (lk L) z ⟨d, .buildSlice t n ps, ty, s, e, g⟩ t n ps (goTo T N ops z todo L ks k gr)) (skipTo T N ops z todo L ks k d)) := rfl
theorem ar_len (x : Operand) (t : TypeId) : arun T N ops z (⟨d, .call ⟨.builtin .len, #[x], #[t]⟩, ty, s, e, g⟩ :: todo) L ks k = chk (dok N ⟨d, .call ⟨.builtin .len, #[x], #[t]⟩, ty, s, e, g⟩) (gd ops (lk L) ⟨d, .call ⟨.builtin .len, #[x], #[t]⟩, ty, s, e, g⟩ (fun gr => stLen T (lk L) ⟨d, .call ⟨.builtin .len, #[x], #[t]⟩, ty, s, e, g⟩ t x (goTo T N ops z todo L ks k gr)) (skipTo T N ops z todo L ks k d)) := rfl
theorem ar_min (x y : Operand) (ats : Array TypeId) : arun T N ops z (⟨d, .call ⟨.builtin .min, #[x, y], ats⟩, ty, s, e, g⟩ :: todo) L ks k = chk (dok N ⟨d, .call ⟨.builtin .min, #[x, y], ats⟩, ty, s, e, g⟩) (gd ops (lk L) ⟨d, .call ⟨.builtin .min, #[x, y], ats⟩, ty, s, e, g⟩ (fun gr => stMin (lk L) ⟨d, .call ⟨.builtin .min, #[x, y], ats⟩, ty, s, e, g⟩ x y (goTo T N ops z todo L ks k gr)) (skipTo T N ops z todo L ks k d)) := rfl
theorem ar_max (x y : Operand) (ats : Array TypeId) : arun T N ops z (⟨d, .call ⟨.builtin .max, #[x, y], ats⟩, ty, s, e, g⟩ :: todo) L ks k = chk (dok N ⟨d, .call ⟨.builtin .max, #[x, y], ats⟩, ty, s, e, g⟩) (gd ops (lk L) ⟨d, .call ⟨.builtin .max, #[x, y], ats⟩, ty, s, e, g⟩ (fun gr => stMax (lk L) ⟨d, .call ⟨.builtin .max, #[x, y], ats⟩, ty, s, e, g⟩ x y (goTo T N ops z todo L ks k gr)) (skipTo T N ops z todo L ks k d)) := rfl
theorem AR.nil {T : Tab P} {N : Nat} {ops : Array Oper} {z : Nat} {L : Row} {ks : List (List Key × List Key)} {k : List (List Key × List Key) → Row → Prop} (h : k ks L) : arun T N ops z [] L ks k := h
theorem AR.step {T : Tab P} {N : Nat} {ops : Array Oper} {z : Nat} {o : Oper} {todo : List Oper} {L : Row} {ks : List (List Key × List Key)} {k : List (List Key × List Key) → Row → Prop}
    (h : ∀ (K : Row → Trc → Prop) (K' : Row → Prop), Hid (∀ gr tr, arun T N ops (z + 1) todo (puts L tr.writes) (ks ++ [((gr ++ tr.reads).map (·.1), tr.writes.map (·.1))]) k → K gr tr) → Hid (∀ gr, arun T N ops (z + 1) todo (puts L (wr o.dst (.c [] (.v undef)))) (ks ++ [(gr.map (·.1), (wr o.dst (.c [] (.v undef))).map (·.1))]) k → K' gr) →
      chk (dok N o) (gd ops (lk L) o (fun gr => astep T (lk L) z o (K gr)) K')) : arun T N ops z (o :: todo) L ks k :=
  h (fun gr tr => arun T N ops (z + 1) todo (puts L tr.writes) (ks ++ [((gr ++ tr.reads).map (·.1), tr.writes.map (·.1))]) k) (fun gr => arun T N ops (z + 1) todo (puts L (wr o.dst (.c [] (.v undef)))) (ks ++ [(gr.map (·.1), (wr o.dst (.c [] (.v undef))).map (·.1))]) k) (fun _ _ h => h) (fun _ h => h)
end
end Go.Proofs.Ytlkdkhmdmgchbaa
namespace Go.Proofs.Ytlkdkhmdmgchbaa
set_option linter.unusedSimpArgs false
set_option linter.unusedVariables false
open Go.RowKit

/-- all of memory. -/
abbrev allZ : Zone := fun _ _ => True
section
variable {w : World} {v : Value}
theorem all_prow {l : List Pr} (h : PRow w v l) : RepD allZ w v (RD l) := of_prow h fun _ _ _ _ _ => trivial
theorem all_tpair {a b : Value} {t : Tr} (h : TPair w a b t) : RepDV allZ w (.agg #[a, b]) (TD t) := by
  refine ⟨_, rfl, rfl, fun i x hi => ?_⟩
  match i, hi with
  | 0, hi => simp at hi; subst hi; exact all_prow h.1
  | 1, hi => simp at hi; subst hi; exact all_prow h.2
  | i + 2, hi => simp at hi
theorem all_mis {m : Mg} {a b c d e f : Value} (h : MIs w a b c d e f m) : RepDV allZ w (mval a b c d e f m.oldest m.at_) (MD m) := by
  refine ⟨_, rfl, rfl, fun i x hi => ?_⟩
  match i, hi with
  | 0, hi => simp at hi; subst hi; exact all_prow h.o.1
  | 1, hi => simp at hi; subst hi; exact all_prow h.o.2
  | 2, hi => simp at hi; subst hi; exact all_prow h.n.1
  | 3, hi => simp at hi; subst hi; exact all_prow h.n.2
  | 4, hi => simp at hi; subst hi; exact .v _
  | 5, hi => simp at hi; subst hi; exact .v _
  | 6, hi => simp at hi; subst hi; exact all_prow h.u.1
  | 7, hi => simp at hi; subst hi; exact all_prow h.u.2
  | i + 8, hi => simp at hi
theorem all_trow {l : List Tr} (h : TRow w v l) : RepD allZ w v (TsD l) := by
  obtain ⟨p, cap, e, h1, h3, h2, h4⟩ := h
  subst e
  by_cases hl : 0 < l.length
  · obtain ⟨g, o, rfl, k⟩ := h4 hl
    have k' : ∀ i : Nat, ∃ a d : Value, ∀ x, l[i]? = some x → w.cell? ⟨g, o + i * 2, none⟩ = some a ∧ w.cell? ⟨g, o + i * 2 + 1, none⟩ = some d ∧ PRow w a x.1 ∧ PRow w d x.2 := fun i => by
      cases hi : l[i]? with
      | none => exact ⟨undef, undef, fun x hx => by cases hx⟩
      | some x =>
        obtain ⟨a, d, q⟩ := k i x hi
        exact ⟨a, d, fun y hy => by cases hy; exact q⟩
    refine .row g o l.length cap 2 _ (fun i j => if j = 0 then (k' i).choose else (k' i).choose_spec.choose) (by simp) h1 h2 (fun i r hi => ?_) (fun i r j x hi hj => ?_) (fun i r j x hi hj => ?_)
    all_goals
      simp only [List.getElem?_map, Option.map_eq_some_iff] at hi
      obtain ⟨y, hy, rfl⟩ := hi
    · rfl
    · obtain ⟨q1, q2, _, _⟩ := (k' i).choose_spec.choose_spec y hy
      have hj2 : j < 2 := by have := (List.getElem?_eq_some_iff.1 hj).1; simpa using this
      rcases (show j = 0 ∨ j = 1 by omega) with rfl | rfl
      · exact ⟨trivial, by simpa using q1⟩
      · exact ⟨trivial, by simpa using q2⟩
    · obtain ⟨_, _, q3, q4⟩ := (k' i).choose_spec.choose_spec y hy
      have hj2 : j < 2 := by have := (List.getElem?_eq_some_iff.1 hj).1; simpa using this
      rcases (show j = 0 ∨ j = 1 by omega) with rfl | rfl
      · simp only [List.getElem?_cons_zero, Option.some.injEq] at hj; subst hj; simpa using all_prow q3
      · simp only [List.getElem?_cons_succ, List.getElem?_cons_zero, Option.some.injEq] at hj; subst hj; simpa using all_prow q4
  · obtain rfl : l = [] := List.eq_nil_of_length_eq_zero (by omega)
    cases p with
    | none =>
      have : cap = 0 := h3 rfl
      subst this
      exact .nil 2
    | some a => exact .emp a cap 2 h2
/-- a law's contract, from that on its frame. -/
theorem Ct.law {P : Program} {f : FuncId} {args : List DV} {vs : Array Value} (h : Ct P f args none (.one (dB true))) (hs : vs.size = args.length) (hv : ∀ (i : Nat) (x : DV), args[i]? = some x → RepDV allZ w (vs.getD i undef) x) :
    Calls P f vs w fun e w' => e = .returned (.bool true) ∧ Below w.heap.size w w' :=
  (h allZ w vs hs hv).mono fun e w' ⟨v, Zn, he, B, _, hr, _⟩ => by
    have : v = .bool true := RepD.raw hr
    subst this; exact ⟨he, B⟩
theorem Ct.law1 {P : Program} {f : FuncId} {a : DV} {v0 : Value} (h : Ct P f [a] none (.one (dB true))) (h0 : RepDV allZ w v0 a) : Calls P f #[v0] w fun e w' => e = .returned (.bool true) ∧ Below w.heap.size w w' :=
  h.law rfl fun i x hi => by
    match i, hi with
    | 0, hi => simp at hi; subst hi; exact h0
    | i + 1, hi => simp at hi
theorem Ct.law2 {P : Program} {f : FuncId} {a b : DV} {v0 v1 : Value} (h : Ct P f [a, b] none (.one (dB true))) (h0 : RepDV allZ w v0 a) (h1 : RepDV allZ w v1 b) : Calls P f #[v0, v1] w fun e w' => e = .returned (.bool true) ∧ Below w.heap.size w w' :=
  h.law rfl fun i x hi => by
    match i, hi with
    | 0, hi => simp at hi; subst hi; exact h0
    | 1, hi => simp at hi; subst hi; exact h1
    | i + 2, hi => simp at hi
theorem Ct.law3 {P : Program} {f : FuncId} {a b c : DV} {v0 v1 v2 : Value} (h : Ct P f [a, b, c] none (.one (dB true))) (h0 : RepDV allZ w v0 a) (h1 : RepDV allZ w v1 b) (h2 : RepDV allZ w v2 c) : Calls P f #[v0, v1, v2] w fun e w' => e = .returned (.bool true) ∧ Below w.heap.size w w' :=
  h.law rfl fun i x hi => by
    match i, hi with
    | 0, hi => simp at hi; subst hi; exact h0
    | 1, hi => simp at hi; subst hi; exact h1
    | 2, hi => simp at hi; subst hi; exact h2
    | i + 3, hi => simp at hi
end
end Go.Proofs.Ytlkdkhmdmgchbaa
