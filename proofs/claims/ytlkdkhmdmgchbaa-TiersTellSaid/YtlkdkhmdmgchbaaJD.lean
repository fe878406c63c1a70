/- The second logic: encoders, contracts. -/
import Derived.Test.YtlkdkhmdmgchbaaJT
import Derived.Test.YtlkdkhmdmgchbaaH10
namespace Go.Proofs.Ytlkdkhmdmgchbaa
set_option linter.unusedSimpArgs false
set_option linter.unusedVariables false
open Go.RowKit

abbrev PD (x : Pr) : List D := [.v (.int .u64 x.1), .v (.int .u64 x.2)]
abbrev PV (x : Pr) : DV := .agg (PD x)
abbrev RD (l : List Pr) : D := .s 2 (l.map PD)
abbrev TD (t : Tr) : DV := .agg [RD t.1, RD t.2]
abbrev TsD (l : List Tr) : D := .s 2 (l.map fun t => [RD t.1, RD t.2])
abbrev ID (l : List Int) : D := .s 1 (l.map fun n => [.v (.int .i64 n)])
abbrev UD (l : List Int) : D := .s 1 (l.map fun n => [.v (.int .u64 n)])
abbrev dI (n : Int) : DV := .c (.v (.int .i64 n))
abbrev dU (n : Int) : DV := .c (.v (.int .u64 n))
abbrev dB (b : Bool) : DV := .c (.v (.bool b))
section
variable {Z : Zone} {w w' : World} {v : Value}
theorem prow_of {l : List Pr} (h : RepD Z w v (RD l)) : PRow w v l := by
  obtain ⟨p, cap, e, h1, h2, h3⟩ := RepD.form h
  simp only [List.length_map] at e h1
  refine ⟨p, cap, e, h1, h3, h2, fun hl => ?_⟩
  obtain ⟨g, o, cap', vals, e', _, _, _, k⟩ := RepD.at h (by simpa using hl)
  rw [e] at e'
  simp only [Value.slice.injEq] at e'
  refine ⟨g, o, e'.1, fun j x hj => ?_⟩
  have hr : (l.map PD)[j]? = some (PD x) := by simp [hj]
  obtain ⟨_, c0, r0⟩ := k j _ 0 _ hr rfl
  obtain ⟨_, c1, r1⟩ := k j _ 1 _ hr rfl
  rw [r0.raw] at c0
  rw [r1.raw] at c1
  exact ⟨c0, c1⟩
theorem of_prow {l : List Pr} (h : PRow w v l) (hz : ∀ g, v.ownBlock = some g → Z g) : RepD Z w v (RD l) := by
  obtain ⟨p, cap, e, h1, h2, h3, h4⟩ := h
  subst e
  by_cases hl : 0 < l.length
  · obtain ⟨g, o, rfl, k⟩ := h4 hl
    refine .row g o l.length cap 2 _ (fun i j => match l[i]? with | some x => if j = 0 then .int .u64 x.1 else .int .u64 x.2 | none => undef) (by simp) h1 h3 (fun i r hi => ?_) (fun i r j x hi hj => ?_) (fun i r j x hi hj => ?_)
    all_goals
      simp only [List.getElem?_map, Option.map_eq_some_iff] at hi
      obtain ⟨y, hy, rfl⟩ := hi
    · rfl
    · obtain ⟨c0, c1⟩ := k i y hy
      have hj2 : j < 2 := by have := (List.getElem?_eq_some_iff.1 hj).1; simpa [PD] using this
      rcases (show j = 0 ∨ j = 1 by omega) with rfl | rfl
      · simp only [hy]; exact ⟨hz _ rfl, c0⟩
      · simp only [hy]; exact ⟨hz _ rfl, c1⟩
    · have hj2 : j < 2 := by have := (List.getElem?_eq_some_iff.1 hj).1; simpa [PD] using this
      rcases (show j = 0 ∨ j = 1 by omega) with rfl | rfl
      · simp only [PD, List.getElem?_cons_zero, Option.some.injEq] at hj; subst hj; simp only [hy]; exact .v _
      · simp only [PD, List.getElem?_cons_succ, List.getElem?_cons_zero, Option.some.injEq] at hj; subst hj; simp only [hy]; exact .v _
  · obtain rfl : l = [] := List.eq_nil_of_length_eq_zero (by omega)
    cases p with
    | none =>
      have : cap = 0 := h2 rfl
      subst this
      exact .nil 2
    | some a => exact .emp a cap 2 h3
theorem trow_of {l : List Tr} (h : RepD Z w v (TsD l)) : TRow w v l := by
  obtain ⟨p, cap, e, h1, h2, h3⟩ := RepD.form h
  simp only [List.length_map] at e h1
  refine ⟨p, cap, e, h1, h3, h2, fun hl => ?_⟩
  obtain ⟨g, o, cap', vals, e', _, _, _, k⟩ := RepD.at h (by simpa using hl)
  rw [e] at e'
  simp only [Value.slice.injEq] at e'
  refine ⟨g, o, e'.1, fun j x hj => ?_⟩
  have hr : (l.map fun t => [RD t.1, RD t.2])[j]? = some [RD x.1, RD x.2] := by simp [hj]
  obtain ⟨_, c0, r0⟩ := k j _ 0 _ hr rfl
  obtain ⟨_, c1, r1⟩ := k j _ 1 _ hr rfl
  exact ⟨_, _, c0, c1, prow_of r0, prow_of r1⟩
/-- the zone of what is new. -/
def newZ (w w' : World) : Zone := fun g => w.heap.size ≤ g ∧ Soft w' g
theorem newZ_ok : ∀ g, newZ w w' g → w.heap.size ≤ g ∧ Soft w' g := fun _ h => h
theorem tpair_of {t : Tr} (h : RepDV Z w v (TD t)) : ∃ vA vD, v = .agg #[vA, vD] ∧ TPair w vA vD t := by
  obtain ⟨vs, e, hs, k⟩ := h
  simp only [List.length_cons, List.length_nil] at hs
  obtain ⟨l, rfl⟩ : ∃ l : List Value, vs = l.toArray := ⟨vs.toList, rfl⟩
  match l, hs with
  | [a, b], _ => exact ⟨a, b, e, prow_of (by simpa using k 0 _ rfl), prow_of (by simpa using k 1 _ rfl)⟩
end
/-- a row that the call owns, as a row of one's own. -/
theorem flat_getD (l : List Pr) {i : Nat} {x : Pr} (h : l[i]? = some x) : (flat l).getD (i * 2) undef = .int .u64 x.1 ∧ (flat l).getD (i * 2 + 1) undef = .int .u64 x.2 := by
  obtain ⟨hi, rfl⟩ := List.getElem?_eq_some_iff.1 h
  obtain ⟨e1, e2⟩ := flat_get l i hi
  simp [List.getD, e1, e2]
theorem own_prow {Z : Zone} {B : Nat} {w : World} {v : Value} {l : List Pr} (h : POwn B w v l) : RowAt Z w v 52 2 (l.map PD) True := by
  refine ⟨flat l, ⟨by rw [flat_len]; simp, ?_⟩, fun u hu => ?_, fun i r hi => ?_, fun _ i r j x hi hj => ?_⟩
  · rcases h.2 with h | ⟨g, cap, cur, e, hb, rest⟩
    · exact .inl (by simpa using h)
    · exact .inr ⟨g, cap, cur, by simpa using e, Nat.zero_le _, by simpa using rest⟩
  · unfold flat at hu
    rw [List.mem_flatMap] at hu
    obtain ⟨x, _, hx⟩ := hu
    simp at hx
    rcases hx with rfl | rfl <;> rfl
  all_goals
    simp only [List.getElem?_map, Option.map_eq_some_iff] at hi
    obtain ⟨y, hy, rfl⟩ := hi
  · rfl
  · obtain ⟨e1, e2⟩ := flat_getD l hy
    have hj2 : j < 2 := by have := (List.getElem?_eq_some_iff.1 hj).1; simpa [PD] using this
    rcases (show j = 0 ∨ j = 1 by omega) with rfl | rfl
    · simp only [PD, List.getElem?_cons_zero, Option.some.injEq] at hj; subst hj; rw [Nat.add_zero, e1]; exact .v _
    · simp only [PD, List.getElem?_cons_succ, List.getElem?_cons_zero, Option.some.injEq] at hj; subst hj; rw [e2]; exact .v _
theorem vs0 {vs : Array Value} (h : vs.size = 0) : vs = #[] := by simpa using h
theorem vs1 {vs : Array Value} (h : vs.size = 1) : vs = #[vs.getD 0 undef] := by
  obtain ⟨l, rfl⟩ : ∃ l : List Value, vs = l.toArray := ⟨vs.toList, rfl⟩
  match l, h with
  | [a], _ => rfl
theorem vs2 {vs : Array Value} (h : vs.size = 2) : vs = #[vs.getD 0 undef, vs.getD 1 undef] := by
  obtain ⟨l, rfl⟩ : ∃ l : List Value, vs = l.toArray := ⟨vs.toList, rfl⟩
  match l, h with
  | [a, b], _ => rfl
theorem vs3 {vs : Array Value} (h : vs.size = 3) : vs = #[vs.getD 0 undef, vs.getD 1 undef, vs.getD 2 undef] := by
  obtain ⟨l, rfl⟩ : ∃ l : List Value, vs = l.toArray := ⟨vs.toList, rfl⟩
  match l, h with
  | [a, b, c], _ => rfl
/-- a contract from a law on one, two, three arguments. -/
theorem ct0 {P : Program} {f : FuncId} {app : Option TypeId} {res : Res} (h : ∀ w, Calls P f #[] w (CtR w app res)) : Ct P f [] app res := fun Z w vs ⟨hs, _⟩ => by
  rw [vs0 hs]; exact h w
theorem ct1 {P : Program} {f : FuncId} {a : DV} {app : Option TypeId} {res : Res} (h : ∀ Z w v, RepDV Z w v a → Calls P f #[v] w (CtR w app res)) : Ct P f [a] app res := fun Z w vs ⟨hs, hv⟩ => by
  rw [vs1 hs]; exact h Z w _ (hv 0 a rfl)
theorem ct2 {P : Program} {f : FuncId} {a b : DV} {app : Option TypeId} {res : Res} (h : ∀ Z w v u, RepDV Z w v a → RepDV Z w u b → Calls P f #[v, u] w (CtR w app res)) : Ct P f [a, b] app res := fun Z w vs ⟨hs, hv⟩ => by
  rw [vs2 hs]; exact h Z w _ _ (hv 0 a rfl) (hv 1 b rfl)
theorem ct3 {P : Program} {f : FuncId} {a b c : DV} {app : Option TypeId} {res : Res} (h : ∀ Z w v u t, RepDV Z w v a → RepDV Z w u b → RepDV Z w t c → Calls P f #[v, u, t] w (CtR w app res)) : Ct P f [a, b, c] app res := fun Z w vs ⟨hs, hv⟩ => by
  rw [vs3 hs]; exact h Z w _ _ _ (hv 0 a rfl) (hv 1 b rfl) (hv 2 c rfl)
/-- a result that leans on no memory. -/
theorem ctr_raw {w w' : World} {v : Value} (B : Below w.heap.size w w') : CtR w none (.one (.c (.v v))) (.returned v) w' := ⟨v, fun _ => False, rfl, B, fun _ h => h.elim, .v v⟩
theorem ctr_new {w w' : World} {v : Value} {res : Res} (B : Below w.heap.size w w') (h : RepR (newZ w w') w' v res) : CtR w none res (.returned v) w' := ⟨v, newZ w w', rfl, B, newZ_ok, h⟩
theorem ctr_own {w w' : World} {v : Value} {l : List Pr} (B : Below w.heap.size w w') (h : POwn w.heap.size w' v l) : CtR w (some 52) (.one (.c (RD l))) (.returned v) w' :=
  ⟨v, fun _ => False, rfl, B, fun _ h => h.elim, own_prow h, fun g hg => ⟨(h.lt g hg).1, fun h => h⟩⟩
theorem ctr_ownp {w w' : World} {v : Value} {l : List Pr} (h : POwn w.heap.size w' v l) : RepD (newZ w w') w' v (RD l) := by
  refine of_prow h.row fun g hg => ⟨(h.lt g hg).1, ?_⟩
  rcases h.2 with ⟨e, _⟩ | ⟨g', cap, cur, e, _, hg', _⟩
  · rw [e] at hg; cases hg
  · rw [e] at hg; simp only [Value.ownBlock, Option.some.injEq] at hg; subst hg; exact .mk hg'
theorem pair_of {Z : Zone} {w : World} {v : Value} {x : Pr} (h : RepDV Z w v (PV x)) : v = .agg #[.int .u64 x.1, .int .u64 x.2] := by
  obtain ⟨vs, e, hs, k⟩ := h
  simp only [List.length_cons, List.length_nil] at hs
  obtain ⟨l, rfl⟩ : ∃ l : List Value, vs = l.toArray := ⟨vs.toList, rfl⟩
  match l, hs with
  | [a, b], _ =>
    have ea : a = .int .u64 x.1 := by simpa using (k 0 _ rfl).raw
    have eb : b = .int .u64 x.2 := by simpa using (k 1 _ rfl).raw
    rw [e, ea, eb]
theorem ctr_tup2 {w w' : World} {v u : Value} {a b : DV} (B : Below w.heap.size w w') (h : RepDV (newZ w w') w' v a) (h' : RepDV (newZ w w') w' u b) : CtR w none (.tup [a, b]) (.returned (.tuple #[v, u])) w' :=
  ctr_new B ⟨_, rfl, rfl, fun i x hi => by
    match i, hi with
    | 0, hi => simp at hi; subst hi; exact h
    | 1, hi => simp at hi; subst hi; exact h'
    | i + 2, hi => simp at hi⟩
/-! ### contracts -/
theorem compare_ct (x y : Pr) : Ct Try.prog 56 [PV x, PV y] none (.one (dI (pcmp x y))) := ct2 fun Z w v u h h' => by
  rw [pair_of h, pair_of h']
  exact (compare_any _ _ _ _ w).mono fun e w' ⟨he, B⟩ => by subst he; exact ctr_raw B
theorem ahead_ct (x y : Pr) : Ct Try.prog 60 [PV x, PV y] none (.one (dB (decide (lt x y)))) := ct2 fun Z w v u h h' => by
  rw [pair_of h, pair_of h']
  exact (ahead_any _ _ _ _ w).mono fun e w' ⟨he, B⟩ => by subst he; exact ctr_raw B
theorem rhas_ct (l : List Pr) (x : Pr) : Ct Try.prog 67 [.c (RD l), PV x] none (.one (dB (decide (x ∈ l)))) := ct2 fun Z w v u h h' => by
  rw [pair_of h']
  exact (has_any v l x.1 x.2 w (prow_of h)).mono fun e w' ⟨he, B⟩ => by subst he; exact ctr_raw B
theorem rsame_ct (l m : List Pr) : Ct Try.prog 105 [.c (RD l), .c (RD m)] none (.one (dB (decide (l = m)))) := ct2 fun Z w v u h h' =>
  (same_any v u l m w (prow_of h) (prow_of h')).mono fun e w' ⟨he, B⟩ => by subst he; exact ctr_raw B
theorem rright_ct (l : List Pr) : Ct Try.prog 62 [.c (RD l)] none (.one (dB (rightL l))) := ct1 fun Z w v h =>
  (right_any v l w (prow_of h)).mono fun e w' ⟨he, B⟩ => by subst he; exact ctr_raw B
theorem rwith_ct (l : List Pr) (x : Pr) (hn : l.length ≤ 10000000) : Ct Try.prog 119 [.c (RD l), PV x] (some 52) (.one (.c (RD (withL l x)))) := ct2 fun Z w v u h h' => by
  rw [pair_of h']
  refine (with_any v l x.1 x.2 w (prow_of h) hn).mono ?_
  rintro e w' ⟨⟨v', rfl, k⟩, B⟩
  exact ctr_own B k
theorem rof_ct (l : List Pr) (hn : l.length ≤ 1000000) : Ct Try.prog 61 [.c (RD l)] (some 52) (.one (.c (RD (ofL l)))) := ct1 fun Z w v h => by
  refine (of_any v l w (prow_of h) hn).mono ?_
  rintro e w' ⟨⟨v', rfl, k⟩, B⟩
  exact ctr_own B k
theorem runion_ct (l m : List Pr) (hn : l.length ≤ 1000000) (hm : m.length ≤ 1000000) : Ct Try.prog 78 [.c (RD l), .c (RD m)] (some 52) (.one (.c (RD (unionL l m)))) := ct2 fun Z w v u h h' => by
  refine (union_any v u l m w (prow_of h) (prow_of h') hn hm).mono ?_
  rintro e w' ⟨⟨v', rfl, k⟩, B⟩
  exact ctr_own B k
theorem rkept_ct (l m : List Pr) (has : Bool) (hn : l.length ≤ 1000000) : Ct Try.prog 79 [.c (RD l), .c (RD m), dB has] (some 52) (.one (.c (RD (keptL l m has)))) := ct3 fun Z w v u t h h' hb => by
  obtain rfl : t = .bool has := RepD.raw hb
  refine (kept_any v u l m has w (prow_of h) (prow_of h') hn).mono ?_
  rintro e w' ⟨⟨v', rfl, k⟩, B⟩
  exact ctr_own B k
theorem one_ct (t : Tr) (hs : t.1.length ≤ 1000000) : Ct Try.prog 37 [TD t] none (.one (dB (oneL t))) := ct1 fun Z w v h => by
  obtain ⟨a, b, rfl, k1⟩ := tpair_of h
  exact (one_any a b t w k1 hs).mono fun e w' ⟨he, B⟩ => by subst he; exact ctr_raw B
theorem says_ct (l : List Tr) (x : Pr) : Ct Try.prog 96 [.c (TsD l), PV x] none (.one (dI (saysL l x))) := ct2 fun Z w v u h h' => by
  rw [pair_of h']
  exact (says_any v l x.1 x.2 w (trow_of h)).mono fun e w' ⟨he, B⟩ => by subst he; exact ctr_raw B
theorem tsame_ct (l m : List Tr) : Ct Try.prog 32 [.c (TsD l), .c (TsD m)] none (.one (dB (decide (l = m)))) := ct2 fun Z w v u h h' =>
  (tsame_any v u l m w (trow_of h) (trow_of h')).mono fun e w' ⟨he, B⟩ => by subst he; exact ctr_raw B
theorem check_ct (l : List Pr) : Ct Try.prog 41 [.c (RD l)] none (.one (dI (if rightL l then 0 else 130))) := ct1 fun Z w v h =>
  (check_any v l w (prow_of h)).mono fun e w' ⟨he, B⟩ => by subst he; exact ctr_raw B
theorem equal_ct (l m : List Pr) : Ct Try.prog 40 [.c (RD l), .c (RD m)] none (.one (dB (decide (l = m)))) := ct2 fun Z w v u h h' =>
  (equal_any v u l m w (prow_of h) (prow_of h')).mono fun e w' ⟨he, B⟩ => by subst he; exact ctr_raw B
theorem clone_ct (l : List Pr) (hn : l.length ≤ 100000000) : Ct Try.prog 98 [.c (RD l)] (some 52) (.one (.c (RD l))) := ct1 fun Z w v h => by
  refine (clone_any v l w (prow_of h) hn).mono ?_
  rintro e w' ⟨⟨v', rfl, k⟩, B⟩
  exact ctr_own B k
theorem tone_ct (t : Tr) (hs : t.1.length + t.2.length ≤ 1048576) : Ct Try.prog 137 [TD t] none (.one (dB (oneL t))) := ct1 fun Z w v h => by
  obtain ⟨a, b, rfl, k1⟩ := tpair_of h
  exact (pone_any a b t w k1 hs).mono fun e w' ⟨he, B⟩ => by subst he; exact ctr_raw B
end Go.Proofs.Ytlkdkhmdmgchbaa
namespace Go.Proofs.Ytlkdkhmdmgchbaa
set_option linter.unusedSimpArgs false
set_option linter.unusedVariables false
open Go.RowKit

theorem cx_N (W0 : World) (N : Nat) (Z : Zone) : (cx W0 N Z).N = N := rfl
theorem cx_pz (W0 : World) (N : Nat) (Z : Zone) : (cx W0 N Z).pz = [0] := rfl
def tb {α : Type} (d : Nat → α) : List (Nat × α) → Nat → α
  | [], n => d n
  | (k, v) :: t, n => if n = k then v else tb d t n
theorem tb_nil {α : Type} (d : Nat → α) (n : Nat) : tb d [] n = d n := rfl
theorem tb_cons {α : Type} (d : Nat → α) (k : Nat) (v : α) (t : List (Nat × α)) (n : Nat) : tb d ((k, v) :: t) n = if n = k then v else tb d t n := rfl
/-- a view by tables: names, zones, frozen variables, rows. -/
def vw (nb : List (Nat × Nat)) (zo zf : List (Nat × List Nat)) (hb : List (Nat × Option Nat)) : Vw := ⟨tb (fun n => n) nb, tb (fun n => [n]) zo, tb (fun _ => []) zf, tb (fun n => some n) hb⟩
theorem vw_nb (nb : List (Nat × Nat)) (zo zf : List (Nat × List Nat)) (hb : List (Nat × Option Nat)) (n : Nat) : (vw nb zo zf hb).nb n = tb (fun n => n) nb n := rfl
theorem vw_zo (nb : List (Nat × Nat)) (zo zf : List (Nat × List Nat)) (hb : List (Nat × Option Nat)) (n : Nat) : (vw nb zo zf hb).zo n = tb (fun n => [n]) zo n := rfl
theorem vw_zf (nb : List (Nat × Nat)) (zo zf : List (Nat × List Nat)) (hb : List (Nat × Option Nat)) (n : Nat) : (vw nb zo zf hb).zf n = tb (fun _ => []) zf n := rfl
theorem vw_hb (nb : List (Nat × Nat)) (zo zf : List (Nat × List Nat)) (hb : List (Nat × Option Nat)) (n : Nat) : (vw nb zo zf hb).hb n = tb (fun n => some n) hb n := rfl
theorem kvp_av (x : AV) (k : AV → Prop) : kvp (.av x) k = k x := rfl
theorem hdp_some (r : Row) (zs : List Nat) (d : D) (k : List Nat → D → Prop) : hdp (some (r, zs, d)) k = k zs d := rfl
@[congr] theorem kvp_congr {e e' : KV} {k : AV → Prop} (h : e = e') : kvp e k = kvp e' k := by rw [h]
@[congr] theorem hdp_congr {e e' : Option (Row × List Nat × D)} {k : List Nat → D → Prop} (h : e = e') : hdp e k = hdp e' k := by rw [h]
section
variable (σ σ' : St) (V : Vw)
theorem Fv_c (zs zs' : List Nat) (d d' : D) : Fv σ σ' V (.c zs d) (.c zs' d') = ((d = d' ∨ d.nrm = d') ∧ subz V zs zs' ∧ ∀ z ∈ zs', Uz σ' z) := by
  unfold Fv
  split <;> simp_all
theorem Fv_seg (zs zs' : List Nat) (d d' : List D) : Fv σ σ' V (.seg zs d) (.seg zs' d') = (d = d' ∧ subz V zs zs' ∧ ∀ z ∈ zs', Uz σ' z) := rfl
theorem Fv_tup (zs zs' : List Nat) (d d' : List DV) : Fv σ σ' V (.tup zs d) (.tup zs' d') = (d = d' ∧ subz V zs zs' ∧ ∀ z ∈ zs', Uz σ' z) := rfl
theorem Fv_agg (cs cs' : List (List Nat × D)) : Fv σ σ' V (.agg cs) (.agg cs') = FvL σ' V cs cs' := rfl
theorem Fv_ptr (n o n' o' : Nat) : Fv σ σ' V (.ptr n o) (.ptr n' o') = (V.nb n' = n ∧ o = o' ∧ Nm σ' n') := rfl
theorem Fv_ptrs (n o : Nat) (zs' : List Nat) (ds : List D) : Fv σ σ' V (.ptr n o) (.seg zs' ds) = (frz V n zs' ∧ fzc σ V n zs' o ds ∧ ∀ z ∈ zs', Uz σ' z) := rfl
theorem Fv_fn (g g' : FuncId) (caps caps' : List Nat) : Fv σ σ' V (.fn g caps) (.fn g' caps') = (g = g' ∧ caps'.map V.nb = caps ∧ ∀ n ∈ caps', Nm σ' n) := rfl
theorem Fv_fnd (g g' : FuncId) (caps zs' : List Nat) (ds : List D) : Fv σ σ' V (.fn g caps) (.c zs' (.f g' ds)) = (g = g' ∧ fzcaps σ V zs' caps ds ∧ ∀ z ∈ zs', Uz σ' z) := rfl
theorem Fv_own (h h' : Nat) : Fv σ σ' V (.own h) (.own h') = (V.hb h' = some h ∧ Uh σ' h') := rfl
theorem Fv_ownd (h : Nat) (zs' : List Nat) (d' : D) : Fv σ σ' V (.own h) (.c zs' d') = ((hdp (hdd σ (.own h)) fun zs d => d = d' ∧ subz V zs zs') ∧ ∀ z ∈ zs', Uz σ' z) := rfl
theorem Fv_nown (k h' : Nat) : Fv σ σ' V (.c [] (.n k)) (.own h') = (V.hb h' = none ∧ Uh σ' h') := rfl
theorem Fv_vown (h' : Nat) : Fv σ σ' V (.c [] (.v (.slice none 0 0))) (.own h') = (V.hb h' = none ∧ Uh σ' h') := rfl
theorem FvL_nil : FvL σ' V [] [] = True := rfl
theorem FvL_cons (zs zs' : List Nat) (d d' : D) (cs cs' : List (List Nat × D)) : FvL σ' V ((zs, d) :: cs) ((zs', d') :: cs') = ((d = d' ∨ d.nrm = d') ∧ subz V zs zs' ∧ (∀ z ∈ zs', Uz σ' z) ∧ FvL σ' V cs cs') := rfl
theorem foks_nil (L L' : Row) : foks L L' V [] = True := rfl
theorem foks_cons (L L' : Row) (k : Key) (v : KV) (R : Row) : foks L L' V ((k, v) :: R) = (fok L L' V k v ∧ foks L L' V R) := rfl
theorem fok_tmp (L L' : Row) (t : Nat) (x' : AV) : fok L L' V (.tmp t) (.av x') = kvp (lk L (.tmp t)) fun x => Fv (lk L) (lk L') V x x' := rfl
theorem fok_vt (L L' : Row) (i t : Nat) (x' : AV) : fok L L' V (.vt i t) (.av x') = kvp (lk L (.vt i t)) fun x => Fv (lk L) (lk L') V x x' := rfl
theorem fok_cell (L L' : Row) (n k : Nat) (x' : AV) : fok L L' V (.cell n k) (.av x') = (lk L' (.nm n) = .nm true ∧ kvp (lk L (.cell (V.nb n) k)) fun x => Fv (lk L) (lk L') V x x') := rfl
theorem fok_nm (L L' : Row) (n : Nat) : fok L L' V (.nm n) (.nm true) = (lk L (.nm (V.nb n)) = .nm true) := rfl
theorem fok_zn (L L' : Row) (z : Nat) : fok L L' V (.zn z) (.zn .live) = ((∀ y ∈ V.zo z, lk L (.zn y) = .zn .live) ∧ ∀ n ∈ V.zf z, lk L (.nm n) = .nm true) := rfl
theorem fok_hd (L L' : Row) (h' E sz y' : Nat) (zs' : List Nat) (rows : List (List D)) : fok L L' V (.hd h') (.hd (.own E sz y' zs' rows)) = ((Uz (lk L') y' ∧ ∀ z ∈ zs', Uz (lk L') z) ∧ V.zf y' = [] ∧ opc (V.hb h') (fun h => khown (lk L (.hd h)) fun E0 sz0 y zs rows0 => E0 = E ∧ sz0 = sz ∧ rows0 = rows ∧ V.zo y' = [y] ∧ subz V zs zs') (rows = [] ∧ V.zo y' = [])) := rfl
theorem fok_df (L L' : Row) (k : Nat) : fok L L' V .df (.df k) = True := rfl
theorem fzc_nil (n : Nat) (zs' : List Nat) (k : Nat) : fzc σ V n zs' k [] = True := rfl
theorem fzc_cons (n : Nat) (zs' : List Nat) (k : Nat) (d : D) (ds : List D) : fzc σ V n zs' k (d :: ds) = ((kvp (σ (.cell n k)) fun x => hdp (hdd σ x) fun zs d' => d = d' ∧ subz V zs zs') ∧ fzc σ V n zs' (k + 1) ds) := rfl
theorem fzcaps_nil (zs' : List Nat) : fzcaps σ V zs' [] [] = True := rfl
theorem fzcaps_cons (zs' : List Nat) (n : Nat) (ns : List Nat) (ds : List D) (rest : List D) : fzcaps σ V zs' (n :: ns) (.p ds :: rest) = (frz V n zs' ∧ fzc σ V n zs' 0 ds ∧ fzcaps σ V zs' ns rest) := rfl
end
theorem rowsOc_map {α : Type} {f : α → List D} (h : ∀ x, ∀ d ∈ f x, ocD d = true) (l : List α) : rowsOc (l.map f) := fun r hr x hx => by
  obtain ⟨y, _, rfl⟩ := List.mem_map.1 hr
  exact h y x hx
theorem all_map_isV {α : Type} {f : α → List D} (h : ∀ x, (f x).all D.isV = true) (l : List α) : (l.map f).all (fun r => r.all D.isV) = true := by
  rw [List.all_map, List.all_eq_true]
  intro x _
  exact h x
theorem nzr_RD (zs : List Nat) (l : List Pr) : nzr zs (l.map PD) = [] := by unfold nzr; rw [if_pos (all_map_isV (fun x => rfl) l)]
theorem oc_RD (l : List Pr) : rowsOc (l.map PD) := rowsOc_map (fun x d hd => by simp at hd; rcases hd with rfl | rfl <;> rfl) l
theorem nzr_UD (zs : List Nat) (l : List Int) (k : IntKind) : nzr zs (l.map fun n => [D.v (.int k n)]) = [] := by unfold nzr; rw [if_pos (all_map_isV (fun x => rfl) l)]
theorem oc_UD (l : List Int) (k : IntKind) : rowsOc (l.map fun n => [D.v (.int k n)]) := rowsOc_map (fun x d hd => by simp at hd; subst hd; rfl) l
theorem rowsOc_nil : rowsOc [] = True := by simp [rowsOc]
theorem rowsOc_cons (r : List D) (rs : List (List D)) : rowsOc (r :: rs) = ((r.all ocD) = true ∧ rowsOc rs) := by simp [rowsOc]
theorem rowsOc_RD (l : List Pr) : rowsOc (l.map PD) = True := by simp only [eq_iff_iff, iff_true]; exact oc_RD l
theorem slice_take {rows : List (List D)} {k : Nat} (hk : k ≤ rows.length) {K : List (List D) → Prop} (h : K (rows.take k)) : sliceAny none (some (.i64, (k : Int))) none rows K :=
  ⟨none, some (.i64, k), none, by simp [nat?], by simp [nat?], by simp [nat?], by simp, by simp, by simpa using hk, by simp, by simpa using h⟩
theorem slice_from {rows : List (List D)} {k : Nat} (hk : k ≤ rows.length) {K : List (List D) → Prop} (h : K (rows.drop k)) : sliceAny (some (.i64, (k : Int))) none none rows K :=
  ⟨some (.i64, k), none, none, by simp [nat?], by simp [nat?], by simp [nat?], by simp, by simpa using hk, by simp, by simp, by simpa using h⟩
theorem slice_cut {rows : List (List D)} {i k m : Nat} (hi : i ≤ k) (hk : k ≤ m) (hm : m ≤ rows.length) {K : List (List D) → Prop} (h : K ((rows.take k).drop i)) : sliceAny (some (.i64, (i : Int))) (some (.i64, (k : Int))) (some (.i64, (m : Int))) rows K :=
  ⟨some (.i64, i), some (.i64, k), some (.i64, m), by simp [nat?], by simp [nat?], by simp [nat?], by simp, by simpa using hi, by simpa using hk, by simpa using hm, by simpa using h⟩
theorem filter_take_snoc (p : Pr → Bool) {l : List Pr} {k : Nat} (hk : k < l.length) : (l.take (k + 1)).filter p = (l.take k).filter p ++ (if p l[k] then [l[k]] else []) := by
  rw [List.take_succ_eq_append_getElem hk, List.filter_append, List.filter_cons, List.filter_nil]
/-! ### short names for the walk -/
section
variable {P : Program} {C : Cx} {r : Option Nat} {Q : Exit → Act → World → Prop} {L : Row} {q x y : Code}
/-- one joint of the code is passed. -/
class Jt (P : Prop) (Q : outParam Prop) : Prop where
  i : Q → P
instance : Jt (AW P C r (.seq x y) Q L) (AW P C r x (Exit.then (y.wpIn (Fr r) 10 P Q) Q) L) := ⟨AW.seq⟩
instance {i : Nat} : Jt (AW P C r (.block i q) Q L) (AW P C r q (Exit.inBlock i Q) L) := ⟨AW.block⟩
instance : Jt (AW P C r .skip Q L) (NX C Q .normal L) := ⟨AW.skip⟩
instance {i : Nat} : Jt (AW P C r (.exit i) Q L) (NX C Q (.exit i) L) := ⟨AW.exit⟩
instance : Jt (AW P C r .ret Q L) (NX C Q .ret L) := ⟨AW.ret⟩
instance {l : Nat} : Jt (AW P C r (.label l) Q L) (NX C Q .normal L) := ⟨AW.label⟩
instance : Jt (NX C (Exit.then (y.wpIn (Fr r) 10 P Q) Q) .normal L) (AW P C r y Q L) := ⟨NX.then⟩
instance {K : Act → World → Prop} : Jt (NX C (Exit.then K Q) .ret L) (NX C Q .ret L) := ⟨NX.ret⟩
instance {K : Act → World → Prop} {i : Nat} : Jt (NX C (Exit.then K Q) (.exit i) L) (NX C Q (.exit i) L) := ⟨NX.exit⟩
instance {i : Nat} : Jt (NX C (Exit.inBlock i Q) .ret L) (NX C Q .ret L) := ⟨NX.inRet⟩
instance {i : Nat} : Jt (NX C (Exit.inBlock i Q) .normal L) (NX C Q .normal L) := ⟨NX.inNormal⟩
instance {i : Nat} : Jt (NX C (Exit.inBlock i Q) (.exit i) L) (NX C Q .normal L) := ⟨NX.inExit⟩
theorem NX.a (h : AW P C r y Q L) : NX C (Exit.then (y.wpIn (Fr r) 10 P Q) Q) .normal L := NX.then h
theorem NX.g {i j : Nat} (e : j ≠ i) (h : NX C Q (.exit j) L) : NX C (Exit.inBlock i Q) (.exit j) L := NX.outExit e h
theorem arun.n {T : Tab P} {N : Nat} {pz : List Nat} {ops : Array Oper} {z : Nat} {L : Row} {ks : List (List Key × List Key)} {k : List (List Key × List Key) → Row → Prop} (h : k ks L) : arun T N pz ops z [] L ks k := h
theorem arun.s {T : Tab P} {N : Nat} {pz : List Nat} {ops : Array Oper} {z : Nat} {o : Oper} {todo : List Oper} {L : Row} {ks : List (List Key × List Key)} {k : List (List Key × List Key) → Row → Prop}
    (h : ∀ (K : Row → Trc → Prop) (K' : Row → Prop), Hid (∀ gr tr, arun T N pz ops (z + 1) todo (puts L tr.writes) (ks ++ [((gr ++ tr.reads).map (·.1), tr.writes.map (·.1))]) k → K gr tr) → Hid (∀ gr, arun T N pz ops (z + 1) todo (puts L (wr o.dst (.c [] (.v undef)))) (ks ++ [(gr.map (·.1), (wr o.dst (.c [] (.v undef))).map (·.1))]) k → K' gr) →
      chk (dok N o) (gd ops (lk L) o (fun gr => astep T (lk L) pz z o (K gr)) K')) : arun T N pz ops z (o :: todo) L ks k := AR.step h
theorem mixd : Try.prog.follows .mixedOrders = true := by kernel_rfl
theorem AW.rc {id : Nat} {l : List Oper} {draw : Bool} {N : Nat} {pz : List Nat} (base : Nat) (h : ∀ K : Row → Prop, Hid (∀ L', NX C Q .normal L' → K L') → arun ty N pz l.toArray base l L [] fun ks L' => Chk draw l.toArray ks ∧ K L')
    (hN : C.N = N := by first | exact cx_N _ _ _ | assumption) (hP : C.pz = pz := by first | exact cx_pz _ _ _ | assumption) (hb : (pz.all fun p => decide (p < base)) = true := by decide) : AW Try.prog C r (.region id l.toArray draw) Q L :=
  AW.re ty mixd hN hP base hb fun K hK => by rw [List.toList_toArray]; exact h K hK
theorem Jt.f {ops : Array Oper} {ks : List (List Key × List Key)} {K : Row → Prop} (hK : Hid (∀ L', NX C Q .normal L' → K L')) (h : NX C Q .normal L) : Chk false ops ks ∧ K L := ⟨chk_text _ _, hK.out _ h⟩
theorem view_of {L' : Row} {pz : List Nat} (V : Vw) (h : foks L L' V L') (hP : C.pz = pz := by first | exact cx_pz _ _ _ | assumption) (hc : fchk pz V (nmsOf L') (znsOf L') = true := by kernel_rfl) (hdf : lk L' .df = lk L .df := by rfl) : ∀ a w, AS C (lk L) a w → AS C (lk L') a w :=
  fun _ _ x => AS.fold (fold_of hP hc hdf h) x
end
end Go.Proofs.Ytlkdkhmdmgchbaa
namespace Go.Proofs.Ytlkdkhmdmgchbaa
set_option linter.unusedSimpArgs false
set_option linter.unusedVariables false
open Go.RowKit
theorem Ct.lawR {P : Program} {f : FuncId} {l : List Pr} {v0 : Value} {w : World} (h : Ct P f [.c (RD l)] none (.one (dB true))) (h0 : PRow w v0 l) : Calls P f #[v0] w fun e w' => e = .returned (.bool true) ∧ Below w.heap.size w w' := by
  refine (h (fun _ => True) w #[v0] ⟨rfl, fun i x hx => ?_⟩).mono ?_
  · match i, hx with
    | 0, hx => simp at hx; subst hx; exact of_prow h0 fun _ _ => trivial
    | i + 1, hx => simp at hx
  · rintro e w' ⟨v, Zn, rfl, B, -, r⟩
    have r : RepD Zn w' v (.v (.bool true)) := r
    obtain rfl := r.raw
    exact ⟨rfl, B⟩
theorem Ct.lawRR {P : Program} {f : FuncId} {l m : List Pr} {v0 v1 : Value} {w : World} (h : Ct P f [.c (RD l), .c (RD m)] none (.one (dB true))) (h0 : PRow w v0 l) (h1 : PRow w v1 m) : Calls P f #[v0, v1] w fun e w' => e = .returned (.bool true) ∧ Below w.heap.size w w' := by
  refine (h (fun _ => True) w #[v0, v1] ⟨rfl, fun i x hx => ?_⟩).mono ?_
  · match i, hx with
    | 0, hx => simp at hx; subst hx; exact of_prow h0 fun _ _ => trivial
    | 1, hx => simp at hx; subst hx; exact of_prow h1 fun _ _ => trivial
    | i + 2, hx => simp at hx
  · rintro e w' ⟨v, Zn, rfl, B, -, r⟩
    have r : RepD Zn w' v (.v (.bool true)) := r
    obtain rfl := r.raw
    exact ⟨rfl, B⟩
end Go.Proofs.Ytlkdkhmdmgchbaa
