/- texts on which the statement stands, part 4. -/
import Derived.Test.YtlkdkhmdmgchbaaVG3
namespace Go.Proofs.Ytlkdkhmdmgchbaa
set_option linter.unusedSimpArgs false
set_option linter.unusedVariables false
open Go.RowKit Go.Shelf
attribute [local go_sem] Oper.semAt_some
set_option maxRecDepth 100000

theorem pcmp_neg (p q : Pr) : pcmp q p = - pcmp p q := by
  unfold pcmp cmpI
  repeat' split
  all_goals omega
def Base (w0 W : World) : Prop := ∀ k, k < w0.heap.size → W.heap[k]? = w0.heap[k]?
theorem PRow.base {w0 W : World} {v : Value} {l : List Pr} (h : PRow w0 v l) (hb : Base w0 W) : PRow W v l := by
  obtain ⟨p, cap, e, h1, h2, h4, h3⟩ := h
  refine ⟨p, cap, e, h1, h2, h4, fun hl => ?_⟩
  obtain ⟨g, o, e, h3⟩ := h3 hl
  exact ⟨g, o, e, fun j x hj => ⟨(World.cell?_of_block (a := ⟨g, o + j * 2, none⟩) (hb _ (World.lt_of_cell (h3 j x hj).1))).trans (h3 j x hj).1,
    (World.cell?_of_block (a := ⟨g, o + j * 2 + 1, none⟩) (hb _ (World.lt_of_cell (h3 j x hj).2))).trans (h3 j x hj).2⟩⟩
theorem PRow.lt0 {w : World} {p : Option Addr} {n c : Nat} {l : List Pr} (h : PRow w (.slice p n c) l) : n = l.length := by
  obtain ⟨p', cap', e, _⟩ := h
  simp only [Value.slice.injEq] at e
  exact e.2.1
theorem PRow.tail {w : World} {g o n c : Nat} {y : Pr} {b : List Pr} (h : PRow w (.slice (some ⟨g, o, none⟩) n c) (y :: b)) :
    PRow w (.slice (if c = 1 then some ⟨g, o, none⟩ else some ⟨g, o + 2, none⟩) (n - 1) (c - 1)) b := by
  have e := h.lt0
  subst e
  have := h.drop 1 (by simp)
  simpa [Addr.add] using this
theorem PRow.blk {w : World} {g o n c : Nat} {y : Pr} {b : List Pr} (h : PRow w (.slice (some ⟨g, o, none⟩) n c) (y :: b)) : g < w.heap.size := by
  obtain ⟨p', cap', e, h1, h2, h4, h3⟩ := h
  obtain ⟨g', o', e', h3⟩ := h3 (by simp)
  simp only [Value.slice.injEq] at e
  obtain ⟨rfl, -, -⟩ := e
  cases e'
  exact World.lt_of_cell (h3 0 y rfl).1
structure MAt (w0 : World) (b1 b2 : Nat) (va vb : Value) (la lb : List Pr) (W : World) : Prop where
  base : Base w0 W
  c1 : W.cell? ⟨b1, 0, none⟩ = some va
  c2 : W.cell? ⟨b2, 0, none⟩ = some vb
  f1 : W.frozen? ⟨b1, 0, none⟩ = false
  f2 : W.frozen? ⟨b2, 0, none⟩ = false
  n1 : w0.heap.size ≤ b1
  n2 : w0.heap.size ≤ b2
  ne : b1 ≠ b2
  ra : PRow w0 va la
  rb : PRow w0 vb lb
theorem MAt.lt {w0 : World} {b1 b2 : Nat} {va vb : Value} {la lb : List Pr} {W : World} (h : MAt w0 b1 b2 va vb la lb W) : b1 < W.heap.size ∧ b2 < W.heap.size ∧ w0.heap.size ≤ W.heap.size := by
  have h1 := World.lt_of_cell h.c1
  have h2 := World.lt_of_cell h.c2
  have := h.n1
  omega
theorem MAt.alloc {w0 : World} {b1 b2 : Nat} {va vb : Value} {la lb : List Pr} {W : World} (h : MAt w0 b1 b2 va vb la lb W) (o : Obj) : MAt w0 b1 b2 va vb la lb (W.alloc o) := by
  obtain ⟨l1, l2, l3⟩ := h.lt
  have B := below_alloc W o
  exact ⟨fun k hk => (B.block k (by omega)).trans (h.base k hk), cellB B h.c1, cellB B h.c2, (B.frozen (p := ⟨b1, 0, none⟩) l1).trans h.f1, (B.frozen (p := ⟨b2, 0, none⟩) l2).trans h.f2, h.n1, h.n2, h.ne, h.ra, h.rb⟩
theorem MAt.set1 {w0 : World} {b1 b2 : Nat} {va vb u : Value} {la lb lc : List Pr} {W : World} (h : MAt w0 b1 b2 va vb la lb W) (hu : PRow w0 u lc) : MAt w0 b1 b2 u vb lc lb (W.setCell ⟨b1, 0, none⟩ u) := by
  have h1 := h.c1; have h2 := h.c2; have h3 := h.f1; have h4 := h.f2; have h5 := h.n1; have h6 := h.ne
  exact ⟨fun k hk => (Below.heap_setCell _ _ _ _ (by simp; omega)).trans (h.base k hk), by go_simp, by go_simp, by go_simp, by go_simp, h.n1, h.n2, h.ne, hu, h.rb⟩
theorem MAt.set2 {w0 : World} {b1 b2 : Nat} {va vb u : Value} {la lb lc : List Pr} {W : World} (h : MAt w0 b1 b2 va vb la lb W) (hu : PRow w0 u lc) : MAt w0 b1 b2 va u la lc (W.setCell ⟨b2, 0, none⟩ u) := by
  have h1 := h.c1; have h2 := h.c2; have h3 := h.f1; have h4 := h.f2; have h5 := h.n2; have h6 := h.ne
  exact ⟨fun k hk => (Below.heap_setCell _ _ _ _ (by simp; omega)).trans (h.base k hk), by go_simp, by go_simp, by go_simp, by go_simp, h.n1, h.n2, h.ne, h.ra, hu⟩
def mKp (w0 : World) (b1 b2 : Nat) (W W' : World) : Prop := ∀ k, (k < w0.heap.size ∨ k = b1 ∨ k = b2) → W'.heap[k]? = W.heap[k]?
theorem MAt.kp {w0 : World} {b1 b2 : Nat} {va vb : Value} {la lb : List Pr} {W W' : World} (h : MAt w0 b1 b2 va vb la lb W) (k : mKp w0 b1 b2 W W') : MAt w0 b1 b2 va vb la lb W' :=
  ⟨fun i hi => (k i (.inl hi)).trans (h.base i hi), (World.cell?_of_block (a := ⟨b1, 0, none⟩) (k b1 (by simp))).trans h.c1, (World.cell?_of_block (a := ⟨b2, 0, none⟩) (k b2 (by simp))).trans h.c2,
    (World.frozen?_of_block (a := ⟨b1, 0, none⟩) (k b1 (by simp))).trans h.f1, (World.frozen?_of_block (a := ⟨b2, 0, none⟩) (k b2 (by simp))).trans h.f2, h.n1, h.n2, h.ne, h.ra, h.rb⟩
theorem mKp.of_below {w0 : World} {b1 b2 : Nat} {W W' : World} (hb : Below W.heap.size W W') (h0 : w0.heap.size ≤ W.heap.size) (h1 : b1 < W.heap.size) (h2 : b2 < W.heap.size) : mKp w0 b1 b2 W W' := by
  rintro k (h | rfl | rfl)
  · exact hb.block _ (by omega)
  · exact hb.block _ h1
  · exact hb.block _ h2
theorem MAt.drew {w0 : World} {b1 b2 : Nat} {va vb : Value} {la lb : List Pr} {W : World} (h : MAt w0 b1 b2 va vb la lb W) : MAt w0 b1 b2 va vb la lb W.drew := ⟨h.base, h.c1, h.c2, h.f1, h.f2, h.n1, h.n2, h.ne, h.ra, h.rb⟩
theorem Keeps.drew {K : Nat → Prop} {a w : World} (h : Keeps K a w) : Keeps K a w.drew := ⟨h.os, h.tape, h.output, h.size, h.block⟩
def sLen (v : Option Value) : Nat := match v with | some (.slice _ n _) => n | _ => 0
abbrev Six (b1 b2 : Nat) (va vb : Value) (g1 o1 g2 o2 : Nat) (x0 x1 y0 y1 : Int) (W : World) : Prop :=
  W.cell? ⟨b1, 0, none⟩ = some va ∧ W.cell? ⟨b2, 0, none⟩ = some vb ∧ W.cell? ⟨g1, o1, none⟩ = some (.int .u64 (x0)) ∧ W.cell? ⟨g1, o1 + 1, none⟩ = some (.int .u64 (x1)) ∧ W.cell? ⟨g2, o2, none⟩ = some (.int .u64 (y0)) ∧ W.cell? ⟨g2, o2 + 1, none⟩ = some (.int .u64 (y1))
theorem sixB {b1 b2 : Nat} {va vb : Value} {g1 o1 g2 o2 : Nat} {x0 x1 y0 y1 : Int} {W W' : World} (h : Six b1 b2 va vb g1 o1 g2 o2 x0 x1 y0 y1 W) (B : Below W.heap.size W W') : Six b1 b2 va vb g1 o1 g2 o2 x0 x1 y0 y1 W' :=
  ⟨cellB B h.1, cellB B h.2.1, cellB B h.2.2.1, cellB B h.2.2.2.1, cellB B h.2.2.2.2.1, cellB B h.2.2.2.2.2⟩
theorem sixN {b1 b2 : Nat} {va vb : Value} {g1 o1 g2 o2 : Nat} {x0 x1 y0 y1 : Int} {W : World} (h : Six b1 b2 va vb g1 o1 g2 o2 x0 x1 y0 y1 W) : (W.heap.size = b1) = False ∧ (W.heap.size = b2) = False ∧ (W.heap.size = g1) = False ∧ (W.heap.size = g2) = False ∧
    (b1 = W.heap.size) = False ∧ (b2 = W.heap.size) = False ∧ (g1 = W.heap.size) = False ∧ (g2 = W.heap.size) = False := by
  have h1 := World.lt_of_cell h.1
  have h2 := World.lt_of_cell h.2.1
  have h3 := World.lt_of_cell h.2.2.1
  have h4 := World.lt_of_cell h.2.2.2.2.1
  simp; omega

theorem undrew {W W' : World} (h : Below W.drew.heap.size W.drew W') : Below W.heap.size W W' := ⟨h.os, h.tape, h.output, h.size, h.block⟩
theorem sixAlloc {b1 b2 : Nat} {va vb : Value} {g1 o1 g2 o2 : Nat} {x0 x1 y0 y1 : Int} {W : World} (h : Six b1 b2 va vb g1 o1 g2 o2 x0 x1 y0 y1 W) (o : Obj) : Six b1 b2 va vb g1 o1 g2 o2 x0 x1 y0 y1 (W.alloc o) := sixB h (below_alloc W o)
structure TB (m T b1 b2 g1 g2 : Nat) (W : World) : Prop where
  n0 : m ≤ T
  c0 : W.cell? ⟨T, 0, none⟩ = some (.bool false)
  c1 : W.cell? ⟨T, 1, none⟩ = some (.bool false)
  f0 : W.frozen? ⟨T, 0, none⟩ = false
  f1 : W.frozen? ⟨T, 1, none⟩ = false
  n1 : b1 < T
  n2 : b2 < T
  n3 : g1 < T
  n4 : g2 < T
theorem TB.keep {m T b1 b2 g1 g2 : Nat} {W W' : World} (h : TB m T b1 b2 g1 g2 W) (B : Below W.heap.size W W') : TB m T b1 b2 g1 g2 W' :=
  ⟨h.n0, cellB B h.c0, cellB B h.c1, (B.frozen (p := ⟨T, 0, none⟩) (World.lt_of_cell h.c0)).trans h.f0, (B.frozen (p := ⟨T, 1, none⟩) (World.lt_of_cell h.c0)).trans h.f1, h.n1, h.n2, h.n3, h.n4⟩
theorem TB.new {w : World} {b1 b2 : Nat} {va vb : Value} {g1 o1 g2 o2 : Nat} {x0 x1 y0 y1 : Int} (W : World) (hb : Below w.heap.size w W) (h : Six b1 b2 va vb g1 o1 g2 o2 x0 x1 y0 y1 W) : TB w.heap.size W.heap.size b1 b2 g1 g2 (W.alloc (.cells #[.bool false, .bool false] 149)) :=
  ⟨hb.size, by go_simp, by go_simp, by go_simp, by go_simp, World.lt_of_cell h.1, World.lt_of_cell h.2.1, World.lt_of_cell h.2.2.1, World.lt_of_cell h.2.2.2.2.1⟩
theorem TB.facts {m T b1 b2 g1 g2 : Nat} {W : World} (h : TB m T b1 b2 g1 g2 W) : W.cell? ⟨T, 0, none⟩ = some (.bool false) ∧ W.cell? ⟨T, 1, none⟩ = some (.bool false) ∧ W.frozen? ⟨T, 0, none⟩ = false ∧ W.frozen? ⟨T, 1, none⟩ = false ∧
    (T = b1) = False ∧ (T = b2) = False ∧ (T = g1) = False ∧ (T = g2) = False := by
  obtain ⟨h0, h1, h2, h3, h4, h5, h6, h7, h8⟩ := h
  refine ⟨h1, h2, h3, h4, ?_⟩
  simp; omega
structure CutT (w : World) (b1 b2 : Nat) (va vb : Value) (g1 o1 g2 o2 : Nat) (x0 x1 y0 y1 : Int) (T : Nat) (sa sb : Bool) (W : World) : Prop where
  below : Below w.heap.size w W
  six : Six b1 b2 va vb g1 o1 g2 o2 x0 x1 y0 y1 W
  c0 : W.cell? ⟨T, 0, none⟩ = some (.bool sa)
  c1 : W.cell? ⟨T, 1, none⟩ = some (.bool sb)
  hT : w.heap.size ≤ T
theorem CutT.ofAlloc {w W : World} {b1 b2 : Nat} {va vb : Value} {g1 o1 g2 o2 : Nat} {x0 x1 y0 y1 : Int} {sa sb : Bool} {t : TypeId} (hb : Below w.heap.size w W) (st : Six b1 b2 va vb g1 o1 g2 o2 x0 x1 y0 y1 W) :
    CutT w b1 b2 va vb g1 o1 g2 o2 x0 x1 y0 y1 W.heap.size sa sb (W.alloc (.cells #[.bool sa, .bool sb] t)) :=
  ⟨hb.alloc hb.size _, sixAlloc st _, by go_simp, by go_simp, hb.size⟩
theorem CutT.ofSet {w W : World} {b1 b2 : Nat} {va vb : Value} {g1 o1 g2 o2 : Nat} {x0 x1 y0 y1 : Int} {sa sb : Bool} {T : Nat} (hT : TB w.heap.size T b1 b2 g1 g2 W) (hb : Below w.heap.size w W) (st : Six b1 b2 va vb g1 o1 g2 o2 x0 x1 y0 y1 W) :
    CutT w b1 b2 va vb g1 o1 g2 o2 x0 x1 y0 y1 T sa sb ((W.setCell ⟨T, 0, none⟩ (.bool sa)).setCell ⟨T, 1, none⟩ (.bool sb)) := by
  obtain ⟨h1, h2, h3, h4, h5, h6, h7, h8⟩ := hT.facts
  obtain ⟨q1, q2, q3, q4, q5, q6⟩ := st
  exact ⟨(hb.setCell hT.n0 _).setCell hT.n0 _, ⟨by go_simp, by go_simp, by go_simp, by go_simp, by go_simp, by go_simp⟩, by go_simp, by go_simp, hT.n0⟩
def encT (q : Told) : Array Value := #[.agg #[(.int .u64 (q.1.1)), (.int .u64 (q.1.2))], .agg #[.bool q.2.1, .bool q.2.2]]
set_option maxRecDepth 100000 in
set_option maxHeartbeats 4000000 in
theorem merged_iter (w0 : World) (b1 b2 : Nat) (va vb : Value) (la lb : List Pr) (all : List Told) (hall : mergedL la lb = all) :
    Iter Try.prog 174 #[.pointer (some ⟨b1, 0, none⟩), .pointer (some ⟨b2, 0, none⟩)] encT (fun k => k ≠ b1 ∧ k ≠ b2) (MAt w0 b1 b2 va vb la lb) (mKp w0 b1 b2)
      (fun pre x => pre ++ [x] <+: all) (fun xs => xs = all) (fun pre => pre <+: all) := by
  intro y J Jx W hW hJ hJx hY h0
  have HJ := hid hJ
  have HJx := hid hJx
  have HY := hid hY
  clear hJ hJx hY
  refine callsIn_of_wp Try.func174 rfl trivial ?_ rfl
  simp only [Try.ntmps174, List.size_toArray, List.length_cons, List.length_nil, Nat.reduceAdd, Nat.reduceSub, Array.replicate_succ, Array.replicate_zero, List.push_toArray, List.append_toArray, List.nil_append, List.cons_append]
  have HA := hid hall; clear hall
  have HW := hid hW; clear hW
  have H0 := hid h0; clear h0
  refine wpIn_wide.2 ?_
  go_step3
  go_wp2_with fail
  go_step3
  go_wp2_with fail
  go_loopw [] (fun wr => ∃ (pre : List Told) (la lb : List Pr) (va vb : Value), Hid (MAt w0 b1 b2 va vb la lb wr) ∧ Hid (pre ++ mergedL la lb = all) ∧ Hid (J pre wr)) (fun wr => sLen (wr.cell? ⟨b1, 0, none⟩) + sLen (wr.cell? ⟨b2, 0, none⟩))
  case atStart => exact ⟨[], la, lb, va, vb, HW, HA, H0⟩
  case round =>
    clear HW HA H0
    obtain ⟨pre, la, lb, va, vb, H, HA, HP⟩ := hrel
    obtain ⟨p1, k1, e1⟩ := H.out.ra.form
    obtain ⟨p2, k2, e2⟩ := H.out.rb.form
    subst e1 e2
    have c1 := H.out.c1
    have c2 := H.out.c2
    have f1 := H.out.f1
    have f2 := H.out.f2
    have s1 := World.lt_of_cell c1
    have s2 := World.lt_of_cell c2
    cases la with
    | nil =>
      cases lb with
      | nil =>
        simp only [List.length_nil] at c1 c2 H
        go_wp2_with fail
        rw [Exit.noGoto_normal]
        go_end0
        exact ⟨⟨_, rfl⟩, .inl ⟨pre, by simpa [mergedL_nil] using HA.out, HP.out⟩⟩
      | cons y b =>
        obtain ⟨g, o, cap, hv, hcell⟩ := (H.out.rb.base H.out.base).cell (by simp)
        simp only [Value.slice.injEq] at hv
        obtain ⟨rfl, -, rfl⟩ := hv
        obtain ⟨d0, d1⟩ := hcell 0 (by simp)
        simp only [Nat.zero_mul, Nat.add_zero, List.getElem_cons_zero] at d0 d1
        clear hcell
        obtain ⟨n2, hn2⟩ : ∃ n, n = (y :: b).length := ⟨_, rfl⟩
        have hb0 : (0 : Int) < (n2 : Int) := by rw [hn2]; simp
        have hb1 : (1 : Int) ≤ (n2 : Int) := by omega
        have hb2 : 1 ≤ n2 := by omega
        have hb3 : 0 < n2 := by omega
        simp only [List.length_nil] at c1 c2 H
        simp only [← hn2] at c1 c2 H
        have HN := hid hn2; clear hn2
        obtain ⟨y0, y1⟩ := y
        simp only at d0 d1
        have s3 := World.lt_of_cell d0
        go_wp2_with fail
        go_big_region
        go_wp2_with fail
        go_big_region
        generalize hpp : (if k2 = 1 then _ else _ : Option Addr) = pp
        simp only [Exit.then]
        rename_i K hK
        obtain ⟨W1, hW1⟩ : ∃ W1, W1 = (((wr.setCell ⟨b2, 0, none⟩ (.slice pp (n2 - 1) (k2 - 1))).alloc (.cells #[.bool false, .bool true] 149)).alloc (.cells #[(.int .u64 (y0)), (.int .u64 (y1))] 52)).drew.drew := ⟨_, rfl⟩
        rw [← hW1]
        have HM : Hid (MAt w0 b1 b2 (.slice p1 0 k1) (.slice pp (n2 - 1) (k2 - 1)) [] b W1) := by
          rw [hW1]; subst hpp
          exact (((H.out.set2 H.out.rb.tail).alloc _).alloc _).drew.drew
        have HQ : Hid (pre ++ (((y0, y1), false, true) :: mergedL [] b) = all) := by
          have := HA.out
          rw [mergedL_right] at this
          exact this
        have hP1 : J pre W1 := by
          rw [hW1]
          refine HJ.out _ _ _ HP.out ?_
          repeat' (first | exact Keeps.refl _ _ | exact Keeps.of_below CU.out.below | with_reducible refine Keeps.drew ?_ | with_reducible refine Keeps.alloc ?_ _ | with_reducible refine Keeps.setCell ?_ (Or.inr (by simp)) _)
        have t0 : W1.cell? ⟨wr.heap.size, 0, none⟩ = some (.bool false) := by rw [hW1]; go_simp
        have t1 : W1.cell? ⟨wr.heap.size, 1, none⟩ = some (.bool true) := by rw [hW1]; go_simp
        have t2 : W1.cell? ⟨wr.heap.size + 1, 0, none⟩ = some (.int .u64 (y0)) := by rw [hW1]; go_simp
        have t3 : W1.cell? ⟨wr.heap.size + 1, 1, none⟩ = some (.int .u64 (y1)) := by rw [hW1]; go_simp
        clear hW1
        obtain ⟨fn, tmps, assign, body, hy, hR⟩ := HY.out pre ((y0, y1), false, true) W1 hP1 ⟨mergedL [] b, by rw [← HQ.out]; simp⟩
        have HR := hid hR; clear hR
        refine hK _ _ ?_
        clear hK K
        refine (wpIn_wide (n := 9)).1 ?_
        unfold encT at hy
        simp only at hy
        gi_wp2_with fail
        refine HR.out.mono ?_
        rintro e w3 (⟨rfl, hj4, hk⟩ | ⟨rfl, hj4⟩)
        · have HM3 := hid (HM.out.kp hk)
          have z1 := HM3.out.c1
          have z2 := HM3.out.c2
          clear hk hy HM t0 t1 t2 t3 hP1
          gi_wp2_with fail
          exact ⟨⟨pre ++ [((y0, y1), false, true)], [], b, (.slice p1 0 k1), (.slice pp (n2 - 1) (k2 - 1)), HM3, by rw [← HQ.out]; simp [Hid], hj4⟩, by rw [z1, z2, c1, c2]; simp only [sLen]; omega⟩
        · gi_wp2_with fail
          rw [Exit.noGoto_normal]
          go_end0
          exact ⟨⟨_, rfl⟩, .inr ⟨pre ++ [((y0, y1), false, true)], ⟨mergedL [] b, by rw [← HQ.out]; simp⟩, hj4⟩⟩
    | cons x a =>
      obtain ⟨g1, o1, cap1, hv1, hcell1⟩ := (H.out.ra.base H.out.base).cell (by simp)
      simp only [Value.slice.injEq] at hv1
      obtain ⟨rfl, -, rfl⟩ := hv1
      obtain ⟨d0, d1⟩ := hcell1 0 (by simp)
      simp only [Nat.zero_mul, Nat.add_zero, List.getElem_cons_zero] at d0 d1
      clear hcell1
      obtain ⟨n1, hn1⟩ : ∃ n, n = (x :: a).length := ⟨_, rfl⟩
      have ha0 : (0 : Int) < (n1 : Int) := by rw [hn1]; simp
      have ha1 : (1 : Int) ≤ (n1 : Int) := by omega
      have ha2 : 1 ≤ n1 := by omega
      have ha3 : 0 < n1 := by omega
      have ha4 : ((n1 : Int) == 0) = false := by simp; omega
      simp only [← hn1] at c1 H
      have HN1 := hid hn1; clear hn1
      obtain ⟨x0, x1⟩ := x
      simp only at d0 d1
      have s3 := World.lt_of_cell d0
      cases lb with
      | nil =>
        simp only [List.length_nil] at c1 c2 H
        go_wp2_with fail
        go_big_region
        go_wp2_with fail
        go_big_region
        generalize hpp : (if k1 = 1 then _ else _ : Option Addr) = pp
        simp only [Exit.then]
        rename_i K hK
        obtain ⟨W1, hW1⟩ : ∃ W1, W1 = (((wr.setCell ⟨b1, 0, none⟩ (.slice pp (n1 - 1) (k1 - 1))).alloc (.cells #[.bool true, .bool false] 149)).alloc (.cells #[(.int .u64 (x0)), (.int .u64 (x1))] 52)).drew.drew := ⟨_, rfl⟩
        rw [← hW1]
        have HM : Hid (MAt w0 b1 b2 (.slice pp (n1 - 1) (k1 - 1)) (.slice p2 0 k2) a [] W1) := by
          rw [hW1]; subst hpp
          exact (((H.out.set1 H.out.ra.tail).alloc _).alloc _).drew.drew
        have HQ : Hid (pre ++ (((x0, x1), true, false) :: mergedL a []) = all) := by
          have := HA.out
          rw [mergedL_left] at this
          exact this
        have hP1 : J pre W1 := by
          rw [hW1]
          refine HJ.out _ _ _ HP.out ?_
          repeat' (first | exact Keeps.refl _ _ | exact Keeps.of_below CU.out.below | with_reducible refine Keeps.drew ?_ | with_reducible refine Keeps.alloc ?_ _ | with_reducible refine Keeps.setCell ?_ (Or.inr (by simp)) _)
        have t0 : W1.cell? ⟨wr.heap.size, 0, none⟩ = some (.bool true) := by rw [hW1]; go_simp
        have t1 : W1.cell? ⟨wr.heap.size, 1, none⟩ = some (.bool false) := by rw [hW1]; go_simp
        have t2 : W1.cell? ⟨wr.heap.size + 1, 0, none⟩ = some (.int .u64 (x0)) := by rw [hW1]; go_simp
        have t3 : W1.cell? ⟨wr.heap.size + 1, 1, none⟩ = some (.int .u64 (x1)) := by rw [hW1]; go_simp
        clear hW1
        obtain ⟨fn, tmps, assign, body, hy, hR⟩ := HY.out pre ((x0, x1), true, false) W1 hP1 ⟨mergedL a [], by rw [← HQ.out]; simp⟩
        have HR := hid hR; clear hR
        refine hK _ _ ?_
        clear hK K
        refine (wpIn_wide (n := 9)).1 ?_
        unfold encT at hy
        simp only at hy
        gi_wp2_with fail
        refine HR.out.mono ?_
        rintro e w3 (⟨rfl, hj4, hk⟩ | ⟨rfl, hj4⟩)
        · have HM3 := hid (HM.out.kp hk)
          have z1 := HM3.out.c1
          have z2 := HM3.out.c2
          clear hk hy HM t0 t1 t2 t3 hP1
          gi_wp2_with fail
          exact ⟨⟨pre ++ [((x0, x1), true, false)], a, [], (.slice pp (n1 - 1) (k1 - 1)), (.slice p2 0 k2), HM3, by rw [← HQ.out]; simp [Hid], hj4⟩, by rw [z1, z2, c1, c2]; simp only [sLen]; omega⟩
        · gi_wp2_with fail
          rw [Exit.noGoto_normal]
          go_end0
          exact ⟨⟨_, rfl⟩, .inr ⟨pre ++ [((x0, x1), true, false)], ⟨mergedL a [], by rw [← HQ.out]; simp⟩, hj4⟩⟩
      | cons y b =>
        obtain ⟨g, o, cap, hv, hcell⟩ := (H.out.rb.base H.out.base).cell (by simp)
        simp only [Value.slice.injEq] at hv
        obtain ⟨rfl, -, rfl⟩ := hv
        obtain ⟨e0, e1⟩ := hcell 0 (by simp)
        simp only [Nat.zero_mul, Nat.add_zero, List.getElem_cons_zero] at e0 e1
        clear hcell
        obtain ⟨n2, hn2⟩ : ∃ n, n = (y :: b).length := ⟨_, rfl⟩
        have hb0 : (0 : Int) < (n2 : Int) := by rw [hn2]; simp
        have hb1 : (1 : Int) ≤ (n2 : Int) := by omega
        have hb2 : 1 ≤ n2 := by omega
        have hb3 : 0 < n2 := by omega
        have hb4 : ((n2 : Int) == 0) = false := by simp; omega
        simp only [← hn2] at c2 H
        have HN2 := hid hn2; clear hn2
        obtain ⟨y0, y1⟩ := y
        simp only at e0 e1
        have s4 := World.lt_of_cell e0
        have A := hid (fun W => compare_any x0 x1 y0 y1 W)
        have A' := hid (fun W => compare_any y0 y1 x0 x1 W)
        rw [pcmp_neg (x0, x1) (y0, y1)] at A'
        have hlt := hid (pcmp_lt (x0, x1) (y0, y1))
        have hgt := hid (pcmp_gt (x0, x1) (y0, y1))
        have heq := hid (pcmp_eq (x0, x1) (y0, y1))
        obtain ⟨z, hz⟩ : ∃ z, pcmp (x0, x1) (y0, y1) = z := ⟨_, rfl⟩
        have zs := pcmp_small (x0, x1) (y0, y1)
        rw [hz] at A A' hlt hgt heq zs
        clear hz
        have st : Six b1 b2 (.slice (some ⟨g1, o1, none⟩) n1 k1) (.slice (some ⟨g, o, none⟩) n2 k2) g1 o1 g o x0 x1 y0 y1 wr := ⟨c1, c2, d0, d1, e0, e1⟩
        obtain ⟨z', hz'⟩ : ∃ z', -z = z' := ⟨_, rfl⟩
        rw [hz'] at A'
        have ZS : Hid (z = -1 ∧ z' = 1 ∨ z = 0 ∧ z' = 0 ∨ z = 1 ∧ z' = -1) := by show _ ∨ _; omega
        clear hz' zs
        obtain ⟨sa, hsa⟩ : ∃ sa, decide (z ≤ 0) = sa := ⟨_, rfl⟩
        obtain ⟨sb, hsb⟩ : ∃ sb, decide (z' ≤ 0) = sb := ⟨_, rfl⟩
        go_upto_region 1 with fail
        go_cut [4] (fun s4 wc => ∃ T : Nat, s4 = .pointer (some ⟨T, 0, none⟩) ∧ Hid (CutT wr b1 b2 (.slice (some ⟨g1, o1, none⟩) n1 k1) (.slice (some ⟨g, o, none⟩) n2 k2) g1 o1 g o x0 x1 y0 y1 T sa sb wc))
        case first =>
          have hb := Below.refl wr.heap.size wr
          obtain ⟨i1, i2, i3, i4, j1, j2, j3, j4⟩ := sixN st
          go_region_held3 (fun W => W.cell? ⟨b1, 0, none⟩ = some (.slice (some ⟨g1, o1, none⟩) n1 k1) ∧ W.cell? ⟨b2, 0, none⟩ = some (.slice (some ⟨g, o, none⟩) n2 k2) ∧ W.cell? ⟨g1, o1, none⟩ = some (.int .u64 (x0)) ∧ W.cell? ⟨g1, o1 + 1, none⟩ = some (.int .u64 (x1)) ∧ W.cell? ⟨g, o, none⟩ = some (.int .u64 (y0)) ∧ W.cell? ⟨g, o + 1, none⟩ = some (.int .u64 (y1))) (first | assumption | exact sixAlloc (by assumption) _ | go_keep)
            (first | (go_at_call 56; (first | (with_reducible refine (A.out _).mono ?_) | (with_reducible refine (A'.out _).mono ?_)); rintro e wa ⟨rfl, B⟩; (try replace B := undrew B); (first | (have hT := TB.keep hT B) | (have hT := (TB.new _ hb st).keep B) | skip); (first | (have hb := bel_step hb B) | (have hb := bel_step (hb.alloc hb.size _) B)); (first | (have st := sixB st B) | (have st := sixB (sixAlloc st _) B)); (try obtain ⟨hT0, hT1, hT2, hT3, hT4, hT5, hT6, hT7⟩ := hT.facts); obtain ⟨i1, i2, i3, i4, j1, j2, j3, j4⟩ := sixN st; clear B))
          all_goals
            go_wp2_with fail
            go_meet
            first | exact ⟨_, rfl, CutT.ofAlloc hb st⟩ | exact ⟨_, rfl, CutT.ofSet hT hb st⟩
        case rest =>
          obtain ⟨T, rfl, CU⟩ := hcut
          have HMc := hid (H.out.kp (mKp.of_below CU.out.below H.out.lt.2.2 s1 s2))
          have C1 := hid c1; have C2 := hid c2
          have sz := CU.out.below.size
          have nT := CU.out.hT
          have u0 := World.lt_of_cell CU.out.c0
          have v1 : (T = b1) = False := by simp; omega
          have v2 : (T = b2) = False := by simp; omega
          have v3 : (b1 = T) = False := by simp; omega
          have v4 : (b2 = T) = False := by simp; omega
          clear c1 c2 d0 d1 e0 e1 f1 f2 st A A'
          obtain ⟨c1, c2, d0, d1, e0, e1⟩ := CU.out.six
          have f1 := HMc.out.f1
          have f2 := HMc.out.f2
          have t0 := CU.out.c0
          have t1 := CU.out.c1
          replace s1 := World.lt_of_cell c1
          replace s2 := World.lt_of_cell c2
          replace s3 := World.lt_of_cell d0
          replace s4 := World.lt_of_cell e0
          have ne := HMc.out.ne
          have n01 := HMc.out.n1
          have n02 := HMc.out.n2
          have rg := HMc.out.ra.blk
          have v5 : (g1 = b2) = False := by simp; omega
          have v6 : (b2 = g1) = False := by simp; omega
          rcases ZS.out with ⟨rfl, rfl⟩ | ⟨rfl, rfl⟩ | ⟨rfl, rfl⟩ <;> clear ZS
          · have hl : lt (x0, x1) (y0, y1) := hlt.out.1 (by omega)
            have HL := hid hl; clear hl hlt hgt heq
            obtain rfl : sa = true := by rw [← hsa]; rfl
            obtain rfl : sb = false := by rw [← hsb]; rfl
            clear hsa hsb
            go_wp2_with fail
            go_big_region
            generalize hpp : (if k1 = 1 then _ else _ : Option Addr) = pp
            simp only [Exit.then]
            rename_i K hK
            obtain ⟨W1, hW1⟩ : ∃ W1, W1 = ((wc.setCell ⟨b1, 0, none⟩ (.slice pp (n1 - 1) (k1 - 1))).alloc (.cells #[(.int .u64 (x0)), (.int .u64 (x1))] 52)).drew := ⟨_, rfl⟩
            rw [← hW1]
            have HM : Hid (MAt w0 b1 b2 (.slice pp (n1 - 1) (k1 - 1)) (.slice (some ⟨g, o, none⟩) n2 k2) a (((y0, y1) :: b)) W1) := by
              rw [hW1]; subst hpp
              exact ((HMc.out.set1 HMc.out.ra.tail).alloc _).drew
            have HQ : Hid (pre ++ (((x0, x1), true, false) :: mergedL a (((y0, y1) :: b))) = all) := by
              have := HA.out
              rw [mergedL_both, if_pos HL.out] at this
              exact this
            have hP1 : J pre W1 := by
              rw [hW1]
              refine HJ.out _ _ _ HP.out ?_
              repeat' (first | exact Keeps.refl _ _ | exact Keeps.of_below CU.out.below | with_reducible refine Keeps.drew ?_ | with_reducible refine Keeps.alloc ?_ _ | with_reducible refine Keeps.setCell ?_ (Or.inr (by simp)) _)
            have t0 : W1.cell? ⟨T, 0, none⟩ = some (.bool true) := by rw [hW1]; go_simp
            have t1 : W1.cell? ⟨T, 1, none⟩ = some (.bool false) := by rw [hW1]; go_simp
            have t2 : W1.cell? ⟨wc.heap.size, 0, none⟩ = some (.int .u64 (x0)) := by rw [hW1]; go_simp
            have t3 : W1.cell? ⟨wc.heap.size, 1, none⟩ = some (.int .u64 (x1)) := by rw [hW1]; go_simp
            clear hW1
            obtain ⟨fn, tmps, assign, body, hy, hR⟩ := HY.out pre ((x0, x1), true, false) W1 hP1 ⟨mergedL a (((y0, y1) :: b)), by rw [← HQ.out]; simp⟩
            have HR := hid hR; clear hR
            refine hK _ _ ?_
            clear hK K
            refine (wpIn_wide (n := 9)).1 ?_
            unfold encT at hy
            simp only at hy
            gi_wp2_with fail
            refine HR.out.mono ?_
            rintro e w3 (⟨rfl, hj4, hk⟩ | ⟨rfl, hj4⟩)
            · have HM3 := hid (HM.out.kp hk)
              have z1 := HM3.out.c1
              have z2 := HM3.out.c2
              clear hk hy HM t0 t1 t2 t3 hP1
              gi_wp2_with fail
              exact ⟨⟨pre ++ [((x0, x1), true, false)], a, (((y0, y1) :: b)), (.slice pp (n1 - 1) (k1 - 1)), (.slice (some ⟨g, o, none⟩) n2 k2), HM3, by rw [← HQ.out]; simp [Hid], hj4⟩, by rw [z1, z2, C1.out, C2.out]; simp only [sLen]; omega⟩
            · gi_wp2_with fail
              rw [Exit.noGoto_normal]
              go_end0
              exact ⟨⟨_, rfl⟩, .inr ⟨pre ++ [((x0, x1), true, false)], ⟨mergedL a (((y0, y1) :: b)), by rw [← HQ.out]; simp⟩, hj4⟩⟩
          · obtain ⟨rfl, rfl⟩ : x0 = y0 ∧ x1 = y1 := by have := heq.out.1 rfl; simpa using this
            clear hlt hgt heq
            have HL := hid (lt_irrefl (x0, x1))
            obtain rfl : sa = true := by rw [← hsa]; rfl
            obtain rfl : sb = true := by rw [← hsb]; rfl
            clear hsa hsb
            go_wp2_with fail
            go_big_region
            generalize hpq : (if k2 = 1 then _ else _ : Option Addr) = pq
            go_wp2_with fail
            go_big_region
            generalize hpp : (if k1 = 1 then _ else _ : Option Addr) = pp
            simp only [Exit.then]
            rename_i K hK
            obtain ⟨W1, hW1⟩ : ∃ W1, W1 = (((wc.setCell ⟨b2, 0, none⟩ (.slice pq (n2 - 1) (k2 - 1))).setCell ⟨b1, 0, none⟩ (.slice pp (n1 - 1) (k1 - 1))).alloc (.cells #[(.int .u64 (x0)), (.int .u64 (x1))] 52)).drew.drew := ⟨_, rfl⟩
            rw [← hW1]
            have HM : Hid (MAt w0 b1 b2 (.slice pp (n1 - 1) (k1 - 1)) (.slice pq (n2 - 1) (k2 - 1)) a b W1) := by
              rw [hW1]; subst hpp hpq
              exact ((((HMc.out.set2 HMc.out.rb.tail).set1 HMc.out.ra.tail).alloc _).drew.drew)
            have HQ : Hid (pre ++ (((x0, x1), true, true) :: mergedL a b) = all) := by
              have := HA.out
              rw [mergedL_both, if_neg HL.out, if_neg HL.out] at this
              exact this
            have hP1 : J pre W1 := by
              rw [hW1]
              refine HJ.out _ _ _ HP.out ?_
              repeat' (first | exact Keeps.refl _ _ | exact Keeps.of_below CU.out.below | with_reducible refine Keeps.drew ?_ | with_reducible refine Keeps.alloc ?_ _ | with_reducible refine Keeps.setCell ?_ (Or.inr (by simp)) _)
            have t0 : W1.cell? ⟨T, 0, none⟩ = some (.bool true) := by rw [hW1]; go_simp
            have t1 : W1.cell? ⟨T, 1, none⟩ = some (.bool true) := by rw [hW1]; go_simp
            have t2 : W1.cell? ⟨wc.heap.size, 0, none⟩ = some (.int .u64 (x0)) := by rw [hW1]; go_simp
            have t3 : W1.cell? ⟨wc.heap.size, 1, none⟩ = some (.int .u64 (x1)) := by rw [hW1]; go_simp
            clear hW1
            obtain ⟨fn, tmps, assign, body, hy, hR⟩ := HY.out pre ((x0, x1), true, true) W1 hP1 ⟨mergedL a b, by rw [← HQ.out]; simp⟩
            have HR := hid hR; clear hR
            refine hK _ _ ?_
            clear hK K
            refine (wpIn_wide (n := 9)).1 ?_
            unfold encT at hy
            simp only at hy
            gi_wp2_with fail
            refine HR.out.mono ?_
            rintro e w3 (⟨rfl, hj4, hk⟩ | ⟨rfl, hj4⟩)
            · have HM3 := hid (HM.out.kp hk)
              have z1 := HM3.out.c1
              have z2 := HM3.out.c2
              clear hk hy HM t0 t1 t2 t3 hP1
              gi_wp2_with fail
              exact ⟨⟨pre ++ [((x0, x1), true, true)], a, b, (.slice pp (n1 - 1) (k1 - 1)), (.slice pq (n2 - 1) (k2 - 1)), HM3, by rw [← HQ.out]; simp [Hid], hj4⟩, by rw [z1, z2, C1.out, C2.out]; simp only [sLen]; omega⟩
            · gi_wp2_with fail
              rw [Exit.noGoto_normal]
              go_end0
              exact ⟨⟨_, rfl⟩, .inr ⟨pre ++ [((x0, x1), true, true)], ⟨mergedL a b, by rw [← HQ.out]; simp⟩, hj4⟩⟩
          · have hl : lt (y0, y1) (x0, x1) := hgt.out.1 (by omega)
            have HL := hid (And.intro (lt_asymm hl) hl); clear hl hlt hgt heq
            obtain rfl : sa = false := by rw [← hsa]; rfl
            obtain rfl : sb = true := by rw [← hsb]; rfl
            clear hsa hsb
            go_wp2_with fail
            go_big_region
            generalize hpp : (if k2 = 1 then _ else _ : Option Addr) = pp
            simp only [Exit.then]
            rename_i K hK
            obtain ⟨W1, hW1⟩ : ∃ W1, W1 = ((wc.setCell ⟨b2, 0, none⟩ (.slice pp (n2 - 1) (k2 - 1))).alloc (.cells #[(.int .u64 (y0)), (.int .u64 (y1))] 52)).drew := ⟨_, rfl⟩
            rw [← hW1]
            have HM : Hid (MAt w0 b1 b2 (.slice (some ⟨g1, o1, none⟩) n1 k1) (.slice pp (n2 - 1) (k2 - 1)) ((x0, x1) :: a) b W1) := by
              rw [hW1]; subst hpp
              exact ((HMc.out.set2 HMc.out.rb.tail).alloc _).drew
            have HQ : Hid (pre ++ (((y0, y1), false, true) :: mergedL ((x0, x1) :: a) b) = all) := by
              have := HA.out
              rw [mergedL_both, if_neg HL.out.1, if_pos HL.out.2] at this
              exact this
            have hP1 : J pre W1 := by
              rw [hW1]
              refine HJ.out _ _ _ HP.out ?_
              repeat' (first | exact Keeps.refl _ _ | exact Keeps.of_below CU.out.below | with_reducible refine Keeps.drew ?_ | with_reducible refine Keeps.alloc ?_ _ | with_reducible refine Keeps.setCell ?_ (Or.inr (by simp)) _)
            have t0 : W1.cell? ⟨T, 0, none⟩ = some (.bool false) := by rw [hW1]; go_simp
            have t1 : W1.cell? ⟨T, 1, none⟩ = some (.bool true) := by rw [hW1]; go_simp
            have t2 : W1.cell? ⟨wc.heap.size, 0, none⟩ = some (.int .u64 (y0)) := by rw [hW1]; go_simp
            have t3 : W1.cell? ⟨wc.heap.size, 1, none⟩ = some (.int .u64 (y1)) := by rw [hW1]; go_simp
            clear hW1
            obtain ⟨fn, tmps, assign, body, hy, hR⟩ := HY.out pre ((y0, y1), false, true) W1 hP1 ⟨mergedL ((x0, x1) :: a) b, by rw [← HQ.out]; simp⟩
            have HR := hid hR; clear hR
            refine hK _ _ ?_
            clear hK K
            refine (wpIn_wide (n := 9)).1 ?_
            unfold encT at hy
            simp only at hy
            gi_wp2_with fail
            refine HR.out.mono ?_
            rintro e w3 (⟨rfl, hj4, hk⟩ | ⟨rfl, hj4⟩)
            · have HM3 := hid (HM.out.kp hk)
              have z1 := HM3.out.c1
              have z2 := HM3.out.c2
              clear hk hy HM t0 t1 t2 t3 hP1
              gi_wp2_with fail
              exact ⟨⟨pre ++ [((y0, y1), false, true)], ((x0, x1) :: a), b, (.slice (some ⟨g1, o1, none⟩) n1 k1), (.slice pp (n2 - 1) (k2 - 1)), HM3, by rw [← HQ.out]; simp [Hid], hj4⟩, by rw [z1, z2, C1.out, C2.out]; simp only [sLen]; omega⟩
            · gi_wp2_with fail
              rw [Exit.noGoto_normal]
              go_end0
              exact ⟨⟨_, rfl⟩, .inr ⟨pre ++ [((y0, y1), false, true)], ⟨mergedL ((x0, x1) :: a) b, by rw [← HQ.out]; simp⟩, hj4⟩⟩
end Go.Proofs.Ytlkdkhmdmgchbaa
