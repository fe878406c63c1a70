/- the program's merges: put. -/
import Derived.Test.YtlkdkhmdmgchbaaH12
import Derived.Deep.DeepCutAuto
namespace Go.Proofs.Ytlkdkhmdmgchbaa
set_option linter.unusedSimpArgs false
set_option linter.unusedVariables false
open Go.RowKit Go.Shelf
attribute [local go_sem] Oper.semAt_some

theorem heap_here {w : World} {o : Obj} {k : Nat} (h : k = w.heap.size) : (w.alloc o).heap[k]? = some o := by subst h; exact World.alloc_heap_new w o
theorem heap_past {w : World} {o : Obj} {k : Nat} {x : Option Obj} (h : k < w.heap.size) (e : w.heap[k]? = x) : (w.alloc o).heap[k]? = x := (Below.heap_alloc _ _ _ h).trans e
theorem heap_drew {w : World} {k : Nat} {x : Option Obj} (e : w.heap[k]? = x) : w.drew.heap[k]? = x := e
theorem cellH {w : World} {b o : Nat} {c : Array Value} {t : TypeId} {fz : Nat × Nat} (h : w.heap[b]? = some (.cells c t fz)) : w.cell? ⟨b, o, none⟩ = c[o]? := by simp [World.cell?, h]
theorem freeH {w : World} {b o : Nat} {c : Array Value} {t : TypeId} (h : w.heap[b]? = some (.cells c t (0, 0))) : w.frozen? ⟨b, o, none⟩ = false := by simp [World.frozen?, h]
theorem ltH {w : World} {b : Nat} {o : Obj} (h : w.heap[b]? = some o) : b < w.heap.size := (Array.getElem?_eq_some_iff.1 h).1
/-- behind put's first statement: two rows of zeros, two boxes. -/
structure PutC (w3 : World) (T7 T8 gA gD n1 n2 : Nat) (c1 c2 : Array Value) (W : World) : Prop where
  below : Below w3.heap.size w3 W
  hA : W.heap[gA]? = some (.cells c1 52 (0, 0))
  hD : W.heap[gD]? = some (.cells c2 52 (0, 0))
  h7 : W.heap[T7]? = some (.cells #[.slice (some ⟨gA, 0, none⟩) n1 n1] 22 (0, 0))
  h8 : W.heap[T8]? = some (.cells #[.slice (some ⟨gD, 0, none⟩) n2 n2] 22 (0, 0))
  lA : w3.heap.size ≤ gA
  lD : w3.heap.size ≤ gD
  l7 : w3.heap.size ≤ T7
  l8 : w3.heap.size ≤ T8
  ne : gA ≠ gD ∧ gA ≠ T7 ∧ gA ≠ T8 ∧ gD ≠ T7 ∧ gD ≠ T8 ∧ T7 ≠ T8

/-- behind the copies. -/
structure CopC (w3 : World) (T7 T8 gA gD : Nat) (l1 l2 : List Pr) (W : World) : Prop where
  below : Below w3.heap.size w3 W
  hA : W.heap[gA]? = some (.cells (flat l1).toArray 52 (0, 0))
  hD : W.heap[gD]? = some (.cells (flat l2).toArray 52 (0, 0))
  h7 : W.heap[T7]? = some (.cells #[.slice (some ⟨gA, 0, none⟩) l1.length l1.length] 22 (0, 0))
  h8 : W.heap[T8]? = some (.cells #[.slice (some ⟨gD, 0, none⟩) l2.length l2.length] 22 (0, 0))
  lA : w3.heap.size ≤ gA
  lD : w3.heap.size ≤ gD
  l7 : w3.heap.size ≤ T7
  l8 : w3.heap.size ≤ T8
  ne : gA ≠ gD ∧ gA ≠ T7 ∧ gA ≠ T8 ∧ gD ≠ T7 ∧ gD ≠ T8 ∧ T7 ≠ T8
theorem setCell_heap_same {w : World} {b o : Nat} {c : Array Value} {t : TypeId} {fz : Nat × Nat} {u : Value} (h : w.heap[b]? = some (.cells c t fz)) :
    (w.setCell ⟨b, o, none⟩ u).heap[b]? = some (.cells (c.setIfInBounds o u) t fz) := by
  have hlt := (Array.getElem?_eq_some_iff.1 h).1
  show (w.heap.modify b _)[b]? = _
  rw [Array.getElem?_eq_getElem (by simpa using hlt), Array.getElem_modify_self, (Array.getElem?_eq_some_iff.1 h).2]
  rfl
/-- what put adds, and drops, of what was said. -/
def saidA (pre : List Said) : List Pr := (pre.filter (fun q => q.2)).map (·.1)
def saidD (ob : Bool) (pre : List Said) : List Pr := (pre.filter (fun q => !q.2 && !ob)).map (·.1)
theorem saidA_snoc (pre : List Said) (q : Said) : saidA (pre ++ [q]) = saidA pre ++ (if q.2 then [q.1] else []) := by
  unfold saidA; rw [List.filter_append, List.map_append, List.filter_cons, List.filter_nil]; split <;> rfl
theorem saidD_snoc (ob : Bool) (pre : List Said) (q : Said) : saidD ob (pre ++ [q]) = saidD ob pre ++ (if !q.2 && !ob then [q.1] else []) := by
  unfold saidD; rw [List.filter_append, List.map_append, List.filter_cons, List.filter_nil]; split <;> rfl
theorem saidA_is (t u : Tr) (l : List Pr) : saidA (saidL t u l) = l.filter (fun p => addsL t u p) := by
  unfold saidA saidL; rw [List.filter_map, List.map_map]; simp [Function.comp_def]
theorem saidD_is (t u : Tr) (ob : Bool) (l : List Pr) : saidD ob (saidL t u l) = l.filter (fun p => !addsL t u p && !ob) := by
  unfold saidD saidL; rw [List.filter_map, List.map_map]; simp [Function.comp_def]
theorem saidA_len (pre : List Said) : (saidA pre).length ≤ pre.length := by unfold saidA; rw [List.length_map]; exact List.length_filter_le _ _
theorem saidD_len (ob : Bool) (pre : List Said) : (saidD ob pre).length ≤ pre.length := by unfold saidD; rw [List.length_map]; exact List.length_filter_le _ _
/-- the blocks about put's loop. -/
structure PConf (m s1 s2 a b D : Nat) (Fr : Nat → Prop) : Prop where
  a1 : m ≤ a
  b1 : m ≤ b
  ab : a ≠ b
  fa : ¬ Fr a
  fb : ¬ Fr b
  f1 : ¬ Fr s1
  f2 : ¬ Fr s2
  n1 : s1 ≠ a ∧ s1 ≠ b ∧ s2 ≠ a ∧ s2 ≠ b
  fm : ∀ k, Fr k → m ≤ k
  fD : ∀ k, D + 2 ≤ k → Fr k
/-- where put's loop stands. -/
structure PutI (w W0 : World) (s1 s2 a b : Nat) (Fr : Nat → Prop) (vA vD : Value) (lA lD : List Pr) (W : World) : Prop where
  keep : Keeps (fun k => k < w.heap.size) w W
  k1 : W.heap[s1]? = W0.heap[s1]?
  k2 : W.heap[s2]? = W0.heap[s2]?
  z1 : s1 < W.heap.size
  z2 : s2 < W.heap.size
  ha : W.heap[a]? = some (.cells #[vA] 22 (0, 0))
  hb : W.heap[b]? = some (.cells #[vD] 22 (0, 0))
  oA : POwn w.heap.size W vA lA
  oD : POwn w.heap.size W vD lD
  fA : ∀ k, vA.ownBlock = some k → Fr k
  fD : ∀ k, vD.ownBlock = some k → Fr k
  ap : ∀ k, vA.ownBlock = some k → vD.ownBlock ≠ some k
theorem PutI.swap {w W0 : World} {s1 s2 a b : Nat} {Fr : Nat → Prop} {vA vD : Value} {lA lD : List Pr} {W : World} (h : PutI w W0 s1 s2 a b Fr vA vD lA lD W) : PutI w W0 s1 s2 b a Fr vD vA lD lA W :=
  ⟨h.keep, h.k1, h.k2, h.z1, h.z2, h.hb, h.ha, h.oD, h.oA, h.fD, h.fA, fun k e e' => h.ap k e' e⟩
theorem PConf.swap {m s1 s2 a b D : Nat} {Fr : Nat → Prop} (h : PConf m s1 s2 a b D Fr) : PConf m s1 s2 b a D Fr :=
  ⟨h.b1, h.a1, h.ab.symm, h.fb, h.fa, h.f1, h.f2, ⟨h.n1.2.1, h.n1.1, h.n1.2.2.2, h.n1.2.2.1⟩, h.fm, h.fD⟩
theorem PutI.keeps {w W0 : World} {s1 s2 a b : Nat} {Fr : Nat → Prop} {vA vD : Value} {lA lD : List Pr} {W W' : World} (h : PutI w W0 s1 s2 a b Fr vA vD lA lD W) {K : Nat → Prop} (k : Keeps K W W') (km : ∀ i, i < w.heap.size → K i) (c1 : K s1) (c2 : K s2) (ca : K a) (cb : K b) (cf : ∀ i, Fr i → K i) :
    PutI w W0 s1 s2 a b Fr vA vD lA lD W' :=
  ⟨h.keep.trans ⟨k.os, k.tape, k.output, k.size, fun i hi hm => k.block i hi (km i hm)⟩, (k.block _ h.z1 c1).trans h.k1, (k.block _ h.z2 c2).trans h.k2, Nat.lt_of_lt_of_le h.z1 k.size, Nat.lt_of_lt_of_le h.z2 k.size,
    (k.block _ (ltH h.ha) ca).trans h.ha, (k.block _ (ltH h.hb) cb).trans h.hb, h.oA.keepK k (fun i e => cf i (h.fA i e)), h.oD.keepK k (fun i e => cf i (h.fD i e)), h.fA, h.fD, h.ap⟩
theorem PutI.add {w W0 : World} {s1 s2 a b D : Nat} {Fr : Nat → Prop} {vA vD v' : Value} {lA lD lA' : List Pr} {W w5 : World} (h : PutI w W0 s1 s2 a b Fr vA vD lA lD W) (cf : PConf w.heap.size s1 s2 a b D Fr) (hD : D + 2 ≤ W.heap.size)
    (own : POwn w.heap.size w5 v' lA') (hk : Keeps (fun k => some k ≠ vA.ownBlock) W w5) (hb : v'.ownBlock = vA.ownBlock ∨ ∃ k, v'.ownBlock = some k ∧ W.heap.size ≤ k) :
    PutI w W0 s1 s2 a b Fr v' vD lA' lD (w5.setCell ⟨a, 0, none⟩ v') ∧ Keeps (fun k => k ≠ a ∧ ¬ Fr k) W (w5.setCell ⟨a, 0, none⟩ v') := by
  have nf : ∀ k, ¬ Fr k → some k ≠ vA.ownBlock := fun k hf e => hf (h.fA k e.symm)
  have hm : w.heap.size ≤ W.heap.size := h.keep.size
  have k5 : Keeps (fun k => ¬ Fr k) W w5 := ⟨hk.os, hk.tape, hk.output, hk.size, fun i hi hf => hk.block i hi (nf i hf)⟩
  have ks : Keeps (fun k => k ≠ a) w5 (w5.setCell ⟨a, 0, none⟩ v') := (Keeps.refl _ _).setCell (Or.inr (by simp)) _
  have kk : Keeps (fun k => k ≠ a ∧ ¬ Fr k) W (w5.setCell ⟨a, 0, none⟩ v') :=
    Keeps.trans ⟨k5.os, k5.tape, k5.output, k5.size, fun i hi hf => k5.block i hi hf.2⟩ ⟨ks.os, ks.tape, ks.output, ks.size, fun i hi hf => ks.block i hi hf.1⟩
  have fr' : ∀ k, v'.ownBlock = some k → Fr k := by
    intro k e
    rcases hb with hb | ⟨k', e', hlt⟩
    · exact h.fA k (hb.symm.trans e)
    · rw [e'] at e; cases e; exact cf.fD _ (by omega)
  have own' := own.keepK ks (fun k e => by rintro rfl; exact cf.fa (fr' _ e))
  have oD5 := h.oD.keepK hk (fun k e e' => h.ap k e'.symm e)
  refine ⟨⟨?_, ?_, ?_, Nat.lt_of_lt_of_le h.z1 kk.size, Nat.lt_of_lt_of_le h.z2 kk.size, ?_, ?_, own', oD5.keepK ks (fun k e => by rintro rfl; exact cf.fa (h.fD _ e)), fr', h.fD, ?_⟩, kk⟩
  · exact h.keep.trans ⟨kk.os, kk.tape, kk.output, kk.size, fun i hi hm' => kk.block i hi ⟨by have := cf.a1; omega, fun hf => by have := cf.fm i hf; omega⟩⟩
  · exact (kk.block _ h.z1 ⟨cf.n1.1, cf.f1⟩).trans h.k1
  · exact (kk.block _ h.z2 ⟨cf.n1.2.2.1, cf.f2⟩).trans h.k2
  · exact (setCell_heap_same ((k5.block _ (ltH h.ha) cf.fa).trans h.ha)).trans rfl
  · exact (kk.block _ (ltH h.hb) ⟨cf.ab.symm, cf.fb⟩).trans h.hb
  · intro k e
    rcases hb with hb | ⟨k', e', hlt⟩
    · exact h.ap k (hb.symm.trans e)
    · rw [e'] at e; cases e
      intro e2
      have := h.oD.lt _ e2; omega
set_option maxRecDepth 100000 in
set_option maxHeartbeats 4000000 in
theorem put_any (tA tD oA oD nA nD uA uD vl : Value) (ob : Bool) (n : Int) (t tO tN : Tr) (l : List Pr) (w : World) (h : TPair w tA tD t) (hO : TPair w oA oD tO) (hN : TPair w nA nD tN) (hl : PRow w vl l) (hu : (∃ p k c, uA = .slice p k c) ∧ ∃ p k c, uD = .slice p k c)
    (r1 : Rises tO.1) (r2 : Rises tN.1) (r3 : Rises tN.2) (l1 : t.1.length ≤ 1000000) (l2 : t.2.length ≤ 1000000) (l3 : l.length ≤ 1000000) (l4 : tO.1.length ≤ 1000000) (l5 : tN.1.length ≤ 1000000) (l6 : tN.2.length ≤ 1000000) :
    Calls Try.prog 101 #[.agg #[tA, tD], mval oA oD nA nD uA uD ob n, vl] w fun e w' => (∃ vA vD, e = .returned (.agg #[vA, vD]) ∧ PFr w.heap.size w' vA (t.1 ++ l.filter (fun p => addsL tO tN p)) ∧ PFr w.heap.size w' vD (t.2 ++ l.filter (fun p => !addsL tO tN p && !ob))) ∧ Below w.heap.size w w' := by
  obtain ⟨pA, kA, rfl⟩ := h.1.form
  obtain ⟨pD, kD, rfl⟩ := h.2.form
  obtain ⟨p0, k0, rfl⟩ := hO.1.form
  obtain ⟨p1, k1, rfl⟩ := hO.2.form
  obtain ⟨p2, k2, rfl⟩ := hN.1.form
  obtain ⟨p3, k3, rfl⟩ := hN.2.form
  obtain ⟨⟨p4, n4, k4, rfl⟩, ⟨p5, n5, k5, rfl⟩⟩ := hu
  obtain ⟨pl, kl, rfl⟩ := hl.form
  obtain ⟨c1, s1, mk1⟩ := made_pairs t.1.length (by omega)
  obtain ⟨c2, s2, mk2⟩ := made_pairs t.2.length (by omega)
  have Z1 := hid s1; have Z2 := hid s2
  clear s1 s2
  unfold mval
  refine (callsIn_wide (n := 10)).1 ?_
  refine callsIn_of_wp_marks Try.func101 rfl trivial ?_ rfl
  simp only [Try.ntmps101, List.size_toArray, List.length_cons, List.length_nil, Nat.reduceAdd, Nat.reduceSub, Array.replicate_succ, Array.replicate_zero, List.push_toArray, List.append_toArray, List.nil_append, List.cons_append]
  refine wpIn_wide.2 ?_
  go_upto_region 1 with fail
  obtain ⟨w3, hw3⟩ : ∃ w3, (((w.alloc (.cells #[.slice pA t.1.length kA, .slice pD t.2.length kD] 24)).alloc (.cells #[.slice p0 tO.1.length k0, .slice p1 tO.2.length k1, .slice p2 tN.1.length k2, .slice p3 tN.2.length k3, .bool ob, .int .i64 n, .slice p4 n4 k4, .slice p5 n5 k5] 26)).alloc (.cells #[.slice none 0 0, .slice none 0 0] 24)) = w3 := ⟨_, rfl⟩
  have z3 : Hid (w3.heap.size = w.heap.size + 1 + 1 + 1) := by rw [← hw3]; simp [Hid]
  have B3 : Hid (Below w.heap.size w w3) := by
    rw [← hw3]
    show Below _ _ _
    repeat' (first | exact Below.refl _ _ | with_reducible refine Below.alloc ?_ ?_ _ | with_reducible refine Below.setCell ?_ ?_ _ | with_reducible refine Below.drew ?_ | with_reducible refine below_drewN ?_ _ | refine Below.trans ?_ (Below.mono (by assumption) ?_))
    all_goals (first | omega | (simp <;> omega))
  have b0 : w3.heap[w.heap.size]? = some (.cells #[.slice pA t.1.length kA, .slice pD t.2.length kD] 24 (0, 0)) := by
    rw [← hw3]
    exact heap_past (by simp <;> omega) (heap_past (by simp) (heap_here rfl))
  have b1 : w3.heap[w.heap.size + 1]? = some (.cells #[.slice p0 tO.1.length k0, .slice p1 tO.2.length k1, .slice p2 tN.1.length k2, .slice p3 tN.2.length k3, .bool ob, .int .i64 n, .slice p4 n4 k4, .slice p5 n5 k5] 26 (0, 0)) := by
    rw [← hw3]
    exact heap_past (by simp) (heap_here (by simp))
  have b2 : w3.heap[w.heap.size + 1 + 1]? = some (.cells #[.slice none 0 0, .slice none 0 0] 24 (0, 0)) := by
    rw [← hw3]
    exact heap_here (by simp)
  rw [hw3]
  clear hw3
  have H0 := hid b0; have H1 := hid b1; have H2 := hid b2
  have a0 : w3.cell? ⟨w.heap.size, 0, none⟩ = some (.slice pA t.1.length kA) := (cellH b0).trans rfl
  have a1 : w3.cell? ⟨w.heap.size, 1, none⟩ = some (.slice pD t.2.length kD) := (cellH b0).trans rfl
  have a2 := World.lt_of_cell a0
  have a3 : w.heap.size < w3.heap.size + 1 := by omega
  have a4 : w.heap.size < w3.heap.size + 1 + 1 := by omega
  have a5 : w.heap.size < w3.heap.size + 1 + 1 + 1 := by omega
  have y0 : (w.heap.size = w3.heap.size) = False := by simp; omega
  have y1 : (w.heap.size = w3.heap.size + 1) = False := by simp; omega
  have y2 : (w.heap.size = w3.heap.size + 1 + 1) = False := by simp; omega
  have y3 : (w.heap.size = w3.heap.size + 1 + 1 + 1) = False := by simp; omega
  clear b0 b1 b2
  go_cut [7, 8, 14, 18] from 11 (fun s7 s8 s14 s18 wc => ∃ T7 T8 gA gD : Nat, s7 = .pointer (some ⟨T7, 0, none⟩) ∧ s8 = .pointer (some ⟨T8, 0, none⟩) ∧ s14 = .slice (some ⟨gA, 0, none⟩) t.1.length t.1.length ∧ s18 = .slice (some ⟨gD, 0, none⟩) t.2.length t.2.length ∧ Hid (PutC w3 T7 T8 gA gD t.1.length t.2.length c1 c2 wc))
  case first =>
    go_big_region
    all_goals
      go_wp2_with fail
      go_meet
      refine ⟨_, _, _, _, rfl, rfl, rfl, rfl, ⟨?_, ?_, ?_, ?_, ?_, ?_, ?_, ?_, ?_, ?_⟩⟩
      · repeat' (first | exact Below.refl _ _ | with_reducible refine Below.alloc ?_ ?_ _ | with_reducible refine Below.setCell ?_ ?_ _ | with_reducible refine Below.drew ?_ | with_reducible refine below_drewN ?_ _ | refine Below.trans ?_ (Below.mono (by assumption) ?_))
        all_goals (first | omega | (simp <;> omega))
      iterate 4
        · apply heap_drew
          repeat' (first | exact heap_here (by simp <;> omega) | refine heap_past (by simp <;> omega) ?_)
      all_goals omega
  case rest =>
    obtain ⟨T7, T8, gA, gD, rfl, rfl, rfl, rfl, PC⟩ := hcut
    clear a0 a1 a2 a3 a4 a5 y0 y1 y2 y3
    have c7 : wc.cell? ⟨T7, 0, none⟩ = some (.slice (some ⟨gA, 0, none⟩) t.1.length t.1.length) := (cellH PC.out.h7).trans rfl
    have a0 : wc.cell? ⟨w.heap.size, 0, none⟩ = some (.slice pA t.1.length kA) := cellB PC.out.below ((cellH H0.out).trans rfl)
    have BW := hid (B3.out.trans (PC.out.below.mono B3.out.size))
    have RA := hid (h.1.below BW.out)
    go_wp2_with fail
    obtain ⟨w5, hr5, g5, k5⟩ := run_copy_pairs wc 3 gA (.slice pA t.1.length kA) t.1 RA.out c1 _ PC.out.hA Z1.out
    rw [hr5]
    have NE := hid PC.out.ne
    have K5 := hid k5; have G5 := hid g5
    have c8 : w5.cell? ⟨T8, 0, none⟩ = some (.slice (some ⟨gD, 0, none⟩) t.2.length t.2.length) := (k5.cell (ltH PC.out.h8) (by have := PC.out.ne; omega)).trans ((cellH PC.out.h8).trans rfl)
    have lt3 : w.heap.size + 1 + 1 < w3.heap.size := ltH H2.out
    have ltc := PC.out.below.size
    have a1 : w5.cell? ⟨w.heap.size, 1, none⟩ = some (.slice pD t.2.length kD) := (k5.cell (by omega) (by have := PC.out.lA; omega)).trans (cellB PC.out.below ((cellH H0.out).trans rfl))
    have BW5 : Hid (Below w.heap.size w w5) := bel_keep BW.out k5 (fun k hk e => by have := PC.out.lA; omega)
    have RD := hid (h.2.below BW5.out)
    clear hr5 k5 g5 c7 a0 RA
    go_wp2_with fail
    obtain ⟨w6, hr6, g6, k6⟩ := run_copy_pairs w5 3 gD (.slice pD t.2.length kD) t.2 RD.out c2 _ ((K5.out.block _ (ltH PC.out.hD) (by have := PC.out.ne; omega)).trans PC.out.hD) Z2.out
    rw [hr6]
    have BW6 : Hid (Below w.heap.size w w6) := bel_keep BW5.out k6 (fun k hk e => by have := PC.out.lD; omega)
    have C6 : Hid (CopC w3 T7 T8 gA gD t.1 t.2 w6) := by
      obtain ⟨q1, q2, q3, q4, q5, l1, l2, l3, l4, ne⟩ := PC.out
      have s5 := K5.out.size
      refine ⟨?_, ?_, g6, ?_, ?_, l1, l2, l3, l4, ne⟩
      · exact ⟨k6.os.trans (K5.out.os.trans q1.os), k6.tape.trans (K5.out.tape.trans q1.tape), k6.output.trans (K5.out.output.trans q1.output), Nat.le_trans q1.size (Nat.le_trans s5 k6.size), fun k hk => (k6.block k (by omega) (by omega)).trans ((K5.out.block k (by omega) (by omega)).trans (q1.block k hk))⟩
      · exact (k6.block _ (ltH G5.out) (by omega)).trans G5.out
      · exact (k6.block _ (by have := ltH q4; omega) (by omega)).trans ((K5.out.block _ (ltH q4) (by omega)).trans q4)
      · exact (k6.block _ (by have := ltH q5; omega) (by omega)).trans ((K5.out.block _ (ltH q5) (by omega)).trans q5)
    clear hr6 k6 g6 c8 a1 RD BW5 BW K5 G5 NE PC mk1 mk2 Z1 Z2 ltc
    have e1 : w6.heap[w.heap.size + 1]? = _ := (C6.out.below.block _ (by omega)).trans H1.out
    have m0 := (cellH (o := 0) e1).trans rfl
    have m1 := (cellH (o := 1) e1).trans rfl
    have m2 := (cellH (o := 2) e1).trans rfl
    have m3 := (cellH (o := 3) e1).trans rfl
    have m4 := (cellH (o := 4) e1).trans rfl
    have m5 := (cellH (o := 5) e1).trans rfl
    have m6 := (cellH (o := 6) e1).trans rfl
    have m7 := (cellH (o := 7) e1).trans rfl
    clear e1
    go_wp2_with fail
    refine (says_makes _ _ _ _ _ _ ob n pl l.length kl _).mono ?_
    rintro e w7 ⟨rfl, hw7⟩
    have hz7 : Hid (w7.heap.size = w6.heap.size + 1 + 1 + 1) := by rw [← hw7]; simp [Hid]
    have B7 : Hid (Below w6.heap.size w6 w7) := by
      rw [← hw7]
      show Below _ _ _
      repeat' (first | exact Below.refl _ _ | with_reducible refine Below.alloc ?_ ?_ _ | with_reducible refine Below.setCell ?_ ?_ _ | with_reducible refine Below.drew ?_ | with_reducible refine below_drewN ?_ _ | refine Below.trans ?_ (Below.mono (by assumption) ?_))
      all_goals (first | omega | (simp <;> omega))
    have hm7 : Hid (w7.heap[w6.heap.size]? = some (.cells #[.slice p0 tO.1.length k0, .slice p1 tO.2.length k1, .slice p2 tN.1.length k2, .slice p3 tN.2.length k3, .bool ob, .int .i64 n, .slice p4 n4 k4, .slice p5 n5 k5] 26 (0, 0))) := by
      rw [← hw7]
      exact heap_past (by simp <;> omega) (heap_past (by simp) (heap_here rfl))
    have hl7 : Hid (w7.heap[w6.heap.size + 1]? = some (.cells #[.slice pl l.length kl] 22 (0, 0))) := by
      rw [← hw7]
      exact heap_past (by simp) (heap_here (by simp))
    have hi7 : Hid (w7.heap[w6.heap.size + 1 + 1]? = some (.cells #[.func (.func 167) #[] #[]] 84 (0, 0))) := by
      rw [← hw7]
      exact heap_here (by simp)
    clear hw7 m0 m1 m2 m3 m4 m5 m6 m7
    go_wp2_with fail
    obtain ⟨vm, hvm⟩ : ∃ vm, Value.agg #[.slice p0 tO.1.length k0, .slice p1 tO.2.length k1, .slice p2 tN.1.length k2, .slice p3 tN.2.length k3, .bool ob, .int .i64 n, .slice p4 n4 k4, .slice p5 n5 k5] = vm := ⟨_, rfl⟩
    rw [hvm]
    clear hvm
    obtain ⟨D, hD⟩ : ∃ D, D = w7.heap.size := ⟨_, rfl⟩
    obtain ⟨Fr, hFr⟩ : ∃ Fr : Nat → Prop, ∀ k, Fr k ↔ (k = gA ∨ k = gD ∨ D + 2 ≤ k) := ⟨_, fun _ => Iff.rfl⟩
    have q1 := C6.out.lA; have q2 := C6.out.lD; have q3 := C6.out.l7; have q4 := C6.out.l8
    have q5 := C6.out.ne; have q6 := hz7.out; have q7 := z3.out
    have q8 := ltH C6.out.hA; have q9 := ltH C6.out.hD; have q10 := ltH C6.out.h7; have q11 := ltH C6.out.h8
    have CF : Hid (PConf w.heap.size (w.heap.size + 1) (w.heap.size + 1 + 1) T7 T8 D Fr) := by
      refine ⟨by omega, by omega, by omega, ?_, ?_, ?_, ?_, by omega, ?_, fun k hk => (hFr k).2 (by omega)⟩
      · rw [hFr]; omega
      · rw [hFr]; omega
      · rw [hFr]; omega
      · rw [hFr]; omega
      · intro k hk; rw [hFr] at hk; omega
    have BW7 : Hid (Below w.heap.size w w7) := BW6.out.trans (B7.out.mono BW6.out.size)
    have I0 : Hid (PutI w w3 (w.heap.size + 1) (w.heap.size + 1 + 1) T7 T8 Fr (.slice (some ⟨gA, 0, none⟩) t.1.length t.1.length) (.slice (some ⟨gD, 0, none⟩) t.2.length t.2.length) (t.1 ++ saidA []) (t.2 ++ saidD ob []) w7) := by
      have e1 : t.1 ++ saidA [] = t.1 := by simp [saidA]
      have e2 : t.2 ++ saidD ob [] = t.2 := by simp [saidD]
      have h67 : ∀ k, k < w6.heap.size → w7.heap[k]? = w6.heap[k]? := fun k hk => B7.out.block k hk
      rw [e1, e2]
      refine ⟨⟨BW7.out.os, BW7.out.tape, BW7.out.output, BW7.out.size, fun k hk hm => BW7.out.block k hm⟩, (h67 _ (by omega)).trans (C6.out.below.block _ (by omega)), (h67 _ (by omega)).trans (C6.out.below.block _ (by omega)), by omega, by omega,
        (h67 _ q10).trans C6.out.h7, (h67 _ q11).trans C6.out.h8, POwn.of_heap (by omega) (by omega) ((h67 _ q8).trans C6.out.hA), POwn.of_heap (by omega) (by omega) ((h67 _ q9).trans C6.out.hD), ?_, ?_, ?_⟩
      · intro k e; have e : gA = k := Option.some.inj e; rw [hFr]; omega
      · intro k e; have e : gD = k := Option.some.inj e; rw [hFr]; omega
      · intro k e e'; have e : gA = k := Option.some.inj e; have e' : gD = k := Option.some.inj e'; omega
    have IB : Hid (SAt w (w6.heap.size + 1) (w6.heap.size + 1 + 1) w6.heap.size (.slice pl l.length kl) (.slice p0 tO.1.length k0) (.slice p2 tN.1.length k2) (.slice p3 tN.2.length k3) l tO tN w7) :=
      ⟨fun k hk => BW7.out.block k hk, BW7.out.size, (cellH hl7.out).trans rfl, (cellH hi7.out).trans rfl, (cellH hm7.out).trans rfl, (cellH hm7.out).trans rfl, (cellH hm7.out).trans rfl, hl, hO.1, hN.1, hN.2⟩
    have IBL : Hid (w6.heap.size + 3 = D ∧ w.heap.size + 2 < w6.heap.size ∧ w.heap.size + 2 < T7 ∧ w.heap.size + 2 < T8 ∧ T7 < w6.heap.size ∧ T8 < w6.heap.size ∧ gA < w6.heap.size ∧ gD < w6.heap.size) := by
      refine ⟨by omega, by omega, by omega, by omega, q10, q11, q8, q9⟩
    have HFr := hid hFr
    have LL := hid (And.intro l1 (And.intro l2 l3))
    have KE : Hid (∀ (a : Nat) (W W' : World), (a = T7 ∨ a = T8) → D + 2 ≤ W.heap.size → Keeps (fun k => k ≠ a ∧ ¬ Fr k) W W' → KeepsAt w7.heap.size W W' ∧ sKp w (w6.heap.size + 1) (w6.heap.size + 1 + 1) w6.heap.size W W') := by
      intro a W W' ha hDW k
      refine ⟨⟨k.block _ (by omega) ⟨by omega, by rw [hFr]; omega⟩, k.block _ (by omega) ⟨by omega, by rw [hFr]; omega⟩⟩, k.size, fun i hi => k.block i (by omega) ⟨by omega, by rw [hFr]; omega⟩⟩
    clear q1 q2 q3 q4 q5 q6 q7 q8 q9 q10 q11 hFr hm7 hl7 hi7 B7 BW6 C6 hz7 B3 H0 lt3 BW7 l1 l2 l3
    refine (wpIn_wide (n := 10)).1 ?_
    refine range_wide (gf := 168) (lb := #[.pointer (some ⟨w6.heap.size + 1, 0, none⟩), .pointer (some ⟨w6.heap.size + 1 + 1, 0, none⟩), .pointer (some ⟨w6.heap.size, 0, none⟩)]) rfl (fun args w => by simp [go_sem])
      (says_iter w (w6.heap.size + 1) (w6.heap.size + 1 + 1) w6.heap.size (.slice pl l.length kl) (.slice p0 tO.1.length k0) (.slice p2 tN.1.length k2) (.slice p3 tN.2.length k3) l tO tN _ rfl r1 r2 r3 (by omega) (by omega) (by omega))
      ?hPre ⟨trivial, trivial⟩ ?hKt ?hKb (fun _ => rfl) (fun pre W => ∃ vA vD, Hid (PutI w w3 (w.heap.size + 1) (w.heap.size + 1 + 1) T7 T8 Fr vA vD (t.1 ++ saidA pre) (t.2 ++ saidD ob pre) W)) (fun _ _ _ => False)
      (fun pre x a' W => ∃ vA vD P, Hid (PutI w w3 (w.heap.size + 1) (w.heap.size + 1 + 1) T7 T8 Fr vA vD (t.1 ++ saidA pre) (t.2 ++ saidD ob pre) W) ∧ a' = { tmps := #[.agg #[.slice pA t.1.length kA, .slice pD t.2.length kD], vm, .slice pl l.length kl, .pointer (some ⟨w.heap.size, 0, none⟩), .pointer (some ⟨w.heap.size + 1, 0, none⟩), undef, .pointer (some ⟨w.heap.size + 1 + 1, 0, none⟩), .pointer (some ⟨T7, 0, none⟩), .pointer (some ⟨T8, 0, none⟩), .pointer (some ⟨P, 0, none⟩), .bool x.2, u11, u12, u13, .slice (some ⟨gA, 0, none⟩) t.1.length t.1.length, u15, u16, u17, .slice (some ⟨gD, 0, none⟩) t.2.length t.2.length, .slice (some ⟨gA, 0, none⟩) t.1.length t.1.length, .pointer (some ⟨w.heap.size, 0, none⟩), .slice pA t.1.length kA, .int .i64 (t.1.length : Int), .slice (some ⟨gD, 0, none⟩) t.2.length t.2.length, .pointer (some ⟨w.heap.size, 1, none⟩), .slice pD t.2.length kD, .int .i64 (t.2.length : Int), vm, .slice pl l.length kl, .func (.func 168) #[] #[.pointer (some ⟨w6.heap.size + 1, 0, none⟩), .pointer (some ⟨w6.heap.size + 1 + 1, 0, none⟩), .pointer (some ⟨w6.heap.size, 0, none⟩)], .agg #[(.int .u64 (x.1.1)), (.int .u64 (x.1.2))], .bool x.2, u32, u33, u34, u35, u36, u37, u38, u39, u40, u41, u42, u43, u44, u45, u46, u47, u48, u49, u50, u51, u52, u53, u54, u55, u56, u57, u58], defers := [] } ∧ Hid (Bx P x.1.1 x.1.2 W ∧ D + 2 ≤ P))
      ?hI ?hIx ?hIa ⟨_, _, I0⟩ ?assign ?body ?done ?stop
    case hPre => intro W B; exact IB.out.below (hD ▸ B)
    case hKt => intro A B C h k; exact ⟨Nat.le_trans h.1 k.1, fun i hi => (k.2 i hi).trans (h.2 i hi)⟩
    case hKb =>
      intro W o
      have := IBL.out
      exact ⟨by simp, fun i hi => World.putObj_heap_other (by omega)⟩
    case hI =>
      rintro pre W W' ⟨vA, vD, I⟩ hk
      have hz := IBL.out
      exact ⟨vA, vD, I.out.keeps hk (fun i hi => ⟨trivial, by omega, by omega⟩) ⟨trivial, by omega, by omega⟩ ⟨trivial, by omega, by omega⟩ ⟨trivial, by omega, by omega⟩ ⟨trivial, by omega, by omega⟩ (fun i hi => by rw [HFr.out] at hi; exact ⟨trivial, by omega, by omega⟩)⟩
    case hIx => intro c pre W W' h; exact h.elim
    case hIa =>
      rintro pre x a' W W' ⟨vA, vD, P, I, e, b⟩ hk
      have hz := IBL.out
      exact ⟨vA, vD, P, I.out.keeps hk (fun i hi => ⟨trivial, by omega, by omega⟩) ⟨trivial, by omega, by omega⟩ ⟨trivial, by omega, by omega⟩ ⟨trivial, by omega, by omega⟩ ⟨trivial, by omega, by omega⟩ (fun i hi => by rw [HFr.out] at hi; exact ⟨trivial, by omega, by omega⟩), e, b.out.1.keepK hk (by have := b.out.2; exact ⟨trivial, by omega, by omega⟩), b.out.2⟩
    case assign =>
      rintro la pre x W ⟨vA, vD, I⟩ hx hs
      unfold encS
      gi_wp2_with fail
      have hz := IBL.out
      have hq : D + 2 ≤ W.heap.size := by omega
      exact ⟨(KeepsAt.refl _ _).alloc (by omega) _, ⟨by simp, fun i hi => Below.heap_alloc _ _ _ (by omega)⟩, by simp, vA, vD, W.heap.size, I.out.keeps (K := fun _ => True) ((Keeps.refl _ _).alloc _) (fun _ _ => trivial) trivial trivial trivial trivial (fun _ _ => trivial), rfl, Bx.new W _ _ _, hq⟩
    case body =>
      rintro la pre x a' W ⟨vA, vD, P, I, rfl, b⟩ hx hs
      have hz := IBL.out
      have LA : Hid ((t.1 ++ saidA pre).length ≤ 100000000 ∧ (t.2 ++ saidD ob pre).length ≤ 100000000 ∧ w.heap.size ≤ W.heap.size) := by
        have h1 := saidA_len pre
        have h2 := saidD_len ob pre
        have h3 := hx.length_le
        have h4 := LL.out
        simp only [saidL, List.length_append, List.length_map, List.length_singleton] at *
        exact ⟨by omega, by omega, by omega⟩
      have sA : Hid (t.1 ++ saidA (pre ++ [x]) = (t.1 ++ saidA pre) ++ (if x.2 then [x.1] else [])) := by show _ = _; rw [saidA_snoc, List.append_assoc]
      have sD : Hid (t.2 ++ saidD ob (pre ++ [x]) = (t.2 ++ saidD ob pre) ++ (if !x.2 && !ob then [x.1] else [])) := by show _ = _; rw [saidD_snoc, List.append_assoc]
      obtain ⟨lA, hlA⟩ : ∃ lA, t.1 ++ saidA pre = lA := ⟨_, rfl⟩
      obtain ⟨lD, hlD⟩ : ∃ lD, t.2 ++ saidD ob pre = lD := ⟨_, rfl⟩
      rw [hlA] at I LA sA
      rw [hlD] at I LA sD
      clear hlA hlD
      obtain ⟨pa, ka, rfl⟩ := I.out.oA.row.form
      obtain ⟨pd, kd, rfl⟩ := I.out.oD.row.form
      have c7 := (cellH (o := 0) I.out.ha).trans rfl
      have f7 := freeH (o := 0) I.out.ha
      have c8 := (cellH (o := 0) I.out.hb).trans rfl
      have f8 := freeH (o := 0) I.out.hb
      have m4 : W.cell? ⟨w.heap.size + 1, 4, none⟩ = some (.bool ob) := (cellH (I.out.k1.trans H1.out)).trans rfl
      obtain ⟨e0, e1, e2⟩ := b.out.1
      have hDW : D + 2 ≤ W.heap.size := by omega
      clear hz b
      obtain ⟨⟨x0, x1⟩, is⟩ := x
      simp only at e0 e1 sA sD
      have HX := hid hx; clear hx
      have HDW := hid hDW; clear hDW
      dsimp only
      cases is
      · simp only [Bool.not_false, Bool.true_and, Bool.false_eq_true, if_false, List.append_nil] at sA sD
        cases ob
        · simp only [Bool.not_false, if_true] at sD
          gi_wp2_with (first | (gi_at_builtin; refine app1In rfl _ _ rfl w.heap.size (.slice pd lD.length kd) lD x0 x1 W rfl rfl rfl I.out.oD LA.out.2.2 LA.out.2.1 ?_))
          intro v' w5 h1 h2 h3
          have c85 := (h2.cell (World.lt_of_cell c8) (fun e => CF.out.fb (I.out.fD _ e.symm))).trans c8
          have f85 := (h2.frozen (World.lt_of_cell c8) (fun e => CF.out.fb (I.out.fD _ e.symm))).trans f8
          have Q := hid (I.out.swap.add CF.out.swap HDW.out h1 h2 h3)
          obtain ⟨pn, kn, rfl⟩ := h1.row.form
          clear h1 h2 h3 c7 c8 f7 f8 m4 e0 e1 e2
          gi_wp2_with fail
          have Q' := Q.out
          rw [List.length_append, List.length_singleton] at Q'
          obtain ⟨z1, z2⟩ := KE.out T8 W _ (.inr rfl) HDW.out Q'.2
          refine ⟨z1, z2, ?_⟩
          dsimp only
          rw [sA.out, sD.out]
          exact ⟨_, _, Q'.1.swap⟩
        · simp only [Bool.not_true, Bool.false_eq_true, if_false, List.append_nil] at sD
          gi_wp2_with fail
          refine ⟨KeepsAt.refl _ _, ⟨Nat.le_refl _, fun i hi => rfl⟩, ?_⟩
          dsimp only
          rw [sA.out, sD.out]
          exact ⟨_, _, I.out⟩
      · simp only [Bool.not_true, Bool.false_and, Bool.false_eq_true, if_false, if_true, List.append_nil] at sA sD
        gi_wp2_with (first | (gi_at_builtin; refine app1In rfl _ _ rfl w.heap.size (.slice pa lA.length ka) lA x0 x1 W rfl rfl rfl I.out.oA LA.out.2.2 LA.out.1 ?_))
        intro v' w5 h1 h2 h3
        have c75 := (h2.cell (World.lt_of_cell c7) (fun e => CF.out.fa (I.out.fA _ e.symm))).trans c7
        have f75 := (h2.frozen (World.lt_of_cell c7) (fun e => CF.out.fa (I.out.fA _ e.symm))).trans f7
        have Q := hid (I.out.add CF.out HDW.out h1 h2 h3)
        obtain ⟨pn, kn, rfl⟩ := h1.row.form
        clear h1 h2 h3 c7 c8 f7 f8 m4 e0 e1 e2
        gi_wp2_with fail
        have Q' := Q.out
        rw [List.length_append, List.length_singleton] at Q'
        obtain ⟨z1, z2⟩ := KE.out T7 W _ (.inl rfl) HDW.out Q'.2
        refine ⟨z1, z2, ?_⟩
        dsimp only
        rw [sA.out, sD.out]
        exact ⟨_, _, Q'.1⟩
    case done =>
      rintro xs W rfl ⟨vA, vD, I⟩ hDf
      rw [saidA_is, saidD_is] at I
      obtain ⟨lA, hlA⟩ : ∃ lA, t.1 ++ l.filter (fun p => addsL tO tN p) = lA := ⟨_, rfl⟩
      obtain ⟨lD, hlD⟩ : ∃ lD, t.2 ++ l.filter (fun p => !addsL tO tN p && !ob) = lD := ⟨_, rfl⟩
      rw [hlA, hlD] at I
      have HA := hid hlA; have HD := hid hlD
      clear hlA hlD
      obtain ⟨pa, ka, rfl⟩ := I.out.oA.row.form
      obtain ⟨pd, kd, rfl⟩ := I.out.oD.row.form
      have c7 := (cellH (o := 0) I.out.ha).trans rfl
      have c8 := (cellH (o := 0) I.out.hb).trans rfl
      have r0 := (cellH (o := 0) (I.out.k2.trans H2.out)).trans rfl
      have r1' := (cellH (o := 1) (I.out.k2.trans H2.out)).trans rfl
      have r2' := freeH (o := 0) (I.out.k2.trans H2.out)
      have r3' := freeH (o := 1) (I.out.k2.trans H2.out)
      have hcA : (lA.length : Int) ≤ (ka : Int) := by
        obtain ⟨p', cap', e, h1, _⟩ := I.out.oA.row
        simp only [Value.slice.injEq, true_and] at e
        omega
      have hcD : (lD.length : Int) ≤ (kd : Int) := by
        obtain ⟨p', cap', e, h1, _⟩ := I.out.oD.row
        simp only [Value.slice.injEq, true_and] at e
        omega
      have hcA' : lA.length ≤ ka := by omega
      have hcD' : lD.length ≤ kd := by omega
      have t7 := World.lt_of_cell c7
      have t8 := World.lt_of_cell c8
      have t0 := World.lt_of_cell r0
      have n72 : (T7 = w.heap.size + 1 + 1) = False := by have := IBL.out; simp; omega
      have n82 : (T8 = w.heap.size + 1 + 1) = False := by have := IBL.out; simp; omega
      have n27 : (w.heap.size + 1 + 1 = T7) = False := by have := IBL.out; simp; omega
      have n28 : (w.heap.size + 1 + 1 = T8) = False := by have := IBL.out; simp; omega
      simp only [List.getElem?_toArray, List.getElem?_cons_zero, List.getElem?_cons_succ] at c7 c8 r0 r1'
      have I9 := hid I.out
      have NO : Hid ((∀ k, Fr k → k ≠ w.heap.size + 1 + 1 ∧ k ≠ w7.heap.size) ∧ w.heap.size + 1 + 1 < w7.heap.size) := by
        have := IBL.out
        refine ⟨fun k hk => ?_, by omega⟩
        have h2 := CF.out.f2
        refine ⟨fun e => h2 (e ▸ hk), ?_⟩
        rw [HFr.out] at hk; omega
      clear I I0 IB IBL HFr LL KE CF hD
      dsimp only
      go_wp2_with fail
      go_region_held3 (fun W' => W'.cell? ⟨T7, 0, none⟩ = some (.slice pa lA.length ka) ∧ W'.cell? ⟨T8, 0, none⟩ = some (.slice pd lD.length kd)) (first | assumption | go_keep) (first | fail)
      all_goals
        go_wp2_with fail
        have ks : Keeps (fun k => k ≠ w.heap.size + 1 + 1) W ((W.setCell ⟨w.heap.size + 1 + 1, 0, none⟩ (.slice pa lA.length lA.length)).setCell ⟨w.heap.size + 1 + 1, 1, none⟩ (.slice pd lD.length lD.length)).drew :=
          (((Keeps.refl _ _).setCell (Or.inr (by simp)) _).setCell (Or.inr (by simp)) _).drew
        have g0 : ((W.setCell ⟨w.heap.size + 1 + 1, 0, none⟩ (.slice pa lA.length lA.length)).setCell ⟨w.heap.size + 1 + 1, 1, none⟩ (.slice pd lD.length lD.length)).drew.cell? ⟨w.heap.size + 1 + 1, 0, none⟩ = some (.slice pa lA.length lA.length) := by go_simp
        have g1 : ((W.setCell ⟨w.heap.size + 1 + 1, 0, none⟩ (.slice pa lA.length lA.length)).setCell ⟨w.heap.size + 1 + 1, 1, none⟩ (.slice pd lD.length lD.length)).drew.cell? ⟨w.heap.size + 1 + 1, 1, none⟩ = some (.slice pd lD.length lD.length) := by go_simp
        generalize ((W.setCell ⟨w.heap.size + 1 + 1, 0, none⟩ (.slice pa lA.length lA.length)).setCell ⟨w.heap.size + 1 + 1, 1, none⟩ (.slice pd lD.length lD.length)).drew = W2 at ks g0 g1 ⊢
        have hDf2 : W2.heap[w7.heap.size]? = some (.deferred (some [])) := (ks.block _ (ltH hDf) (by have := NO.out.2; omega)).trans hDf
        refine ⟨by simp, .inl ⟨_, _, rfl, run_takeDeferred hDf2, ?_⟩⟩
        have kp : Keeps (fun k => k ≠ w7.heap.size) W2 (W2.putObj w7.heap.size (.deferred none)) := putObj_keeps _ _ _ (by simp)
        have k0' := (kp.cell (World.lt_of_cell g0) (by have := NO.out.2; omega)).trans g0
        have k1' := (kp.cell (World.lt_of_cell g1) (by have := NO.out.2; omega)).trans g1
        have kk : Keeps (fun k => k ≠ w.heap.size + 1 + 1 ∧ k ≠ w7.heap.size) W (W2.putObj w7.heap.size (.deferred none)) :=
          Keeps.trans ⟨ks.os, ks.tape, ks.output, ks.size, fun i hi hk => ks.block i hi hk.1⟩ ⟨kp.os, kp.tape, kp.output, kp.size, fun i hi hk => kp.block i hi hk.2⟩
        generalize W2.putObj w7.heap.size (.deferred none) = W9 at k0' k1' kk ⊢
        refine ⟨.agg #[.slice pa lA.length lA.length, .slice pd lD.length lD.length], by simp [results, Try.results101, go_sem, k0', k1'], ⟨_, _, rfl, ?_, ?_⟩, ?_⟩
        · rw [HA.out]
          exact (I9.out.oA.keepK kk (fun k e => NO.out.1 k (I9.out.fA k e))).clip
        · rw [HD.out]
          exact (I9.out.oD.keepK kk (fun k e => NO.out.1 k (I9.out.fD k e))).clip
        · have k1 := I9.out.keep
          exact ⟨kk.os.trans k1.os, kk.tape.trans k1.tape, kk.output.trans k1.output, Nat.le_trans k1.size kk.size, fun i hi => (kk.block i (by have := k1.size; omega) (by have := NO.out.2; omega)).trans (k1.block i hi hi)⟩
    case stop =>
      rintro c pre W _ h _
      exact h.elim
end Go.Proofs.Ytlkdkhmdmgchbaa
