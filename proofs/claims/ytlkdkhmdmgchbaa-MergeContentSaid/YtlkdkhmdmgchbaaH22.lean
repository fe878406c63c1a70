/- the laws' merges: wakes. -/
import Derived.Test.YtlkdkhmdmgchbaaH21
import Derived.Test.YtlkdkhmdmgchbaaH20
namespace Go.Proofs.Ytlkdkhmdmgchbaa
set_option linter.unusedSimpArgs false
set_option linter.unusedVariables false
open Go.RowKit

theorem MFr.keep {B : Nat} {w w' : World} {oA oD nA nD uA uD : Value} {m : Mg} (h : MFr B w oA oD nA nD uA uD m) (hb : Below w.heap.size w w') : MFr B w' oA oD nA nD uA uD m := h.below hb
theorem TFr.keep {B : Nat} {w w' : World} {vA vD : Value} {t : Tr} (h : TFr B w vA vD t) (hb : Below w.heap.size w w') : TFr B w' vA vD t := h.below hb
theorem PRow.keep {w w' : World} {v : Value} {l : List Pr} (h : PRow w v l) (hb : Below w.heap.size w w') : PRow w' v l := h.below hb
theorem PRow.new1 (W : World) (a b : Int) (t : Nat) : PRow (W.alloc (.cells #[(.int .u64 (a)), (.int .u64 (b))] t)) (.slice (some ⟨W.heap.size, 0, none⟩) 1 1) [(a, b)] := by
  refine ⟨_, 1, rfl, Nat.le_refl _, fun h => (by cases h), by omega, fun _ => ⟨W.heap.size, 0, rfl, fun j x hj => ?_⟩⟩
  match j, hj with
  | 0, hj => simp at hj; subst hj; exact ⟨by go_simp, by go_simp⟩
  | j + 1, hj => simp at hj
theorem PRow.new2 (W : World) (a b c d : Int) (t : Nat) : PRow (W.alloc (.cells #[(.int .u64 (a)), (.int .u64 (b)), (.int .u64 (c)), (.int .u64 (d))] t)) (.slice (some ⟨W.heap.size, 0, none⟩) 2 2) [(a, b), (c, d)] := by
  refine ⟨_, 2, rfl, Nat.le_refl _, fun h => (by cases h), by omega, fun _ => ⟨W.heap.size, 0, rfl, fun j x hj => ?_⟩⟩
  match j, hj with
  | 0, hj => simp at hj; subst hj; exact ⟨by go_simp, by go_simp⟩
  | 1, hj => simp at hj; subst hj; exact ⟨by go_simp, by go_simp⟩
  | j + 2, hj => simp at hj

theorem MFr.forms {B : Nat} {w : World} {oA oD nA nD uA uD : Value} {m : Mg} (h : MFr B w oA oD nA nD uA uD m) : ∃ p0 n0 c0 p1 n1 c1 p2 n2 c2 p3 n3 c3 p4 n4 c4 p5 n5 c5, oA = .slice p0 n0 c0 ∧ oD = .slice p1 n1 c1 ∧ nA = .slice p2 n2 c2 ∧ nD = .slice p3 n3 c3 ∧ uA = .slice p4 n4 c4 ∧ uD = .slice p5 n5 c5 := by
  obtain ⟨p0, c0, e0⟩ := h.o.a.1.form
  obtain ⟨p1, c1, e1⟩ := h.o.d.1.form
  obtain ⟨p2, c2, e2⟩ := h.n.a.1.form
  obtain ⟨p3, c3, e3⟩ := h.n.d.1.form
  obtain ⟨p4, c4, e4⟩ := h.u.a.1.form
  obtain ⟨p5, c5, e5⟩ := h.u.d.1.form
  exact ⟨_, _, _, _, _, _, _, _, _, _, _, _, _, _, _, _, _, _, e0, e1, e2, e3, e4, e5⟩
theorem TFr.forms {B : Nat} {w : World} {vA vD : Value} {t : Tr} (h : TFr B w vA vD t) : ∃ p0 n0 c0 p1 n1 c1, vA = .slice p0 n0 c0 ∧ vD = .slice p1 n1 c1 := by
  obtain ⟨p0, c0, e0⟩ := h.a.1.form
  obtain ⟨p1, c1, e1⟩ := h.d.1.form
  exact ⟨_, _, _, _, _, _, e0, e1⟩

def wkT : Tr := ([(1, 1), (2, 2)], [(3, 3)])
def wkU : Tr := ([(3, 3)], [(1, 1)])
def wkM : Mg := ⟨wkT, wkU, false, 0, ([], [])⟩
def wkA : Mg := ⟨wkT, wkU, false, 2, ([(2, 2)], [(1, 1)])⟩
def wkB : Mg := ⟨wkT, wkU, false, 3, ([(2, 2), (3, 3)], [(1, 1)])⟩
theorem wk_begin : beginL wkT wkU false = (wkM, 0) := by decide +kernel
theorem wk_step1 : stepL wkM 2 = (wkA, 2, 0) := by decide +kernel
theorem wk_step2 : stepL wkA 9 = (wkB, 1, 0) := by decide +kernel
theorem wk_end1 : endL wkB = (([(2, 2), (3, 3)], [(1, 1)]), 0) := by decide +kernel
theorem wk_end2 : endL wkA = (([], []), 221) := by decide +kernel
theorem wk_left : leftL wkA = 1 := by decide +kernel

theorem equal_same (v u : Value) (l : List Pr) (w : World) (h : PRow w v l) (h' : PRow w u l) : Calls Try.prog 40 #[v, u] w fun e w' => e = .returned (.bool true) ∧ Below w.heap.size w w' := by
  have := equal_any v u l l w h h'
  simpa using this
structure WkI (w : World) (T5 T11 : Nat) (a0 a1 a2 a3 a4 a5 b0 b1 : Value) (W : World) : Prop where
  below : Below w.heap.size w W
  mz : MZ T5 a0 a1 a2 a3 (.bool false) (.int .i64 2) a4 a5 W
  x : Vx T11 b0 b1 W
  m : MIs W a0 a1 a2 a3 a4 a5 wkA
  r0 : PRow W b0 [(2, 2), (3, 3)]
  r1 : PRow W b1 [(1, 1)]
  r2 : PRow W a4 [(2, 2)]
theorem WkI.keep {w : World} {T5 T11 : Nat} {a0 a1 a2 a3 a4 a5 b0 b1 : Value} {W W' : World} (h : WkI w T5 T11 a0 a1 a2 a3 a4 a5 b0 b1 W) (B : Below W.heap.size W W') : WkI w T5 T11 a0 a1 a2 a3 a4 a5 b0 b1 W' :=
  ⟨bel_step h.below B, h.mz.keep B, h.x.keep B, h.m.below B, h.r0.below B, h.r1.below B, h.r2.below B⟩
theorem wk_left_any (a0 a1 a2 a3 a4 a5 : Value) (W : World) (h : MIs W a0 a1 a2 a3 a4 a5 wkA) : Calls Try.prog 38 #[.agg #[a0, a1, a2, a3, .bool false, .int .i64 2, a4, a5]] W fun e w' => e = .returned (.int .i64 (1)) ∧ Below W.heap.size W w' := by
  have := pleft_any _ _ _ _ _ _ wkA _ h (by unfold Mg.small; decide)
  rw [wk_left] at this
  exact this

set_option maxRecDepth 100000 in
set_option maxHeartbeats 4000000 in
theorem wakes12_any (w : World) : Calls Try.prog 24 #[] w fun e w' => e = .returned (.bool true) ∧ Below w.heap.size w w' := by
  go_enter Try.func24, Try.ntmps24
  go_wp2_with fail
  ((with_reducible refine (same12_any 1 _).mono ?_); rintro e w1 ⟨rfl, B⟩)
  have BEL := hid B; clear B
  go_wp2_with fail
  ((with_reducible refine (same12_any 2 _).mono ?_); rintro e w2 ⟨rfl, B⟩)
  replace BEL := hid (bel_step BEL.out B)
  clear B
  go_wp2_with fail
  ((with_reducible refine (same12_any 3 _).mono ?_); rintro e w3 ⟨rfl, B⟩)
  have R1 := hid ((PRow.new2 w2 1 1 2 2 _).below B); replace BEL := hid (bel_step BEL.out (blift B)); clear B
  go_wp2_with fail
  ((with_reducible refine (same12_any 3 _).mono ?_); rintro e w4 ⟨rfl, B⟩)
  have R2 := hid ((PRow.new1 w3 3 3 52).below (blift B))
  have X1 := hid ((Vx.new (w3.alloc (.cells #[(.int .u64 (3)), (.int .u64 (3))] 52)) (.slice (some ⟨w2.heap.size, 0, none⟩) 2 2) (.slice (some ⟨w3.heap.size, 0, none⟩) 1 1) 24).keep B)
  simp only [World.size_alloc] at X1
  replace R1 := hid (R1.out.below (blift (blift B))); replace BEL := hid (bel_step BEL.out (blift (blift B))); clear B
  go_wp2_with fail
  ((with_reducible refine (same12_any 1 _).mono ?_); rintro e w5 ⟨rfl, B⟩)
  have R3 := hid ((PRow.new1 w4 3 3 52).below B)
  replace R1 := hid (R1.out.below (blift B)); replace R2 := hid (R2.out.below (blift B)); replace X1 := hid (X1.out.keep (blift B)); replace BEL := hid (bel_step BEL.out (blift B)); clear B
  generalize w3.heap.size + 1 = T1 at *
  generalize w2.heap.size = G1 at *
  generalize w3.heap.size = G2 at *
  generalize w4.heap.size = G3 at *
  obtain ⟨x0, x1, x2⟩ := X1.out
  have N1 := hid (show ¬ (T1 = w5.heap.size) by omega)
  go_wp2_with fail
  replace R1 := hid (R1.out.below (bel_step (below_alloc w5 (.cells #[(.int .u64 (1)), (.int .u64 (1))] 52)) (below_alloc _ (.cells #[.slice (some ⟨G3, 0, none⟩) 1 1, .slice (some ⟨w5.heap.size, 0, none⟩) 1 1] 24))))
  replace R2 := hid (R2.out.below (bel_step (below_alloc w5 (.cells #[(.int .u64 (1)), (.int .u64 (1))] 52)) (below_alloc _ (.cells #[.slice (some ⟨G3, 0, none⟩) 1 1, .slice (some ⟨w5.heap.size, 0, none⟩) 1 1] 24))))
  replace R3 := hid (R3.out.below (bel_step (below_alloc w5 (.cells #[(.int .u64 (1)), (.int .u64 (1))] 52)) (below_alloc _ (.cells #[.slice (some ⟨G3, 0, none⟩) 1 1, .slice (some ⟨w5.heap.size, 0, none⟩) 1 1] 24))))
  have R4 := hid ((PRow.new1 w5 1 1 52).below (below_alloc _ (.cells #[.slice (some ⟨G3, 0, none⟩) 1 1, .slice (some ⟨w5.heap.size, 0, none⟩) 1 1] 24)))
  have CB := pbegin_any _ _ _ _ wkT wkU false _ ⟨R1.out, R2.out⟩ ⟨R3.out, R4.out⟩ (by decide) (by decide) (by decide) (by decide)
  rw [wk_begin] at CB
  unfold mval at CB
  simp only [show wkM.oldest = false from rfl, show wkM.at_ = 0 from rfl] at CB
  refine CB.mono ?_
  rintro e w6 ⟨⟨oA, oD, nA, nD, uA, uD, rfl, h1⟩, B⟩
  replace BEL := hid (bel_step BEL.out (blift (blift B)))
  obtain ⟨p0, n0, c0, p1, n1, c1, p2, n2, c2, p3, n3, c3, p4, n4, c4, p5, n5, c5, rfl, rfl, rfl, rfl, rfl, rfl⟩ := h1.forms
  have M1 := hid (h1.below (below_alloc w6 (.cells #[.slice p0 n0 c0, .slice p1 n1 c1, .slice p2 n2 c2, .slice p3 n3 c3, .bool false, .int .i64 0, .slice p4 n4 c4, .slice p5 n5 c5] 26)))
  clear R1 R2 R3 R4 CB h1 B x0 x1 x2 N1 X1
  go_wp2_with fail
  have C1 := pstep_any _ _ _ _ _ _ wkM 2 _ M1.out.is (by unfold Mg.small; decide) (by decide) (by decide)
  rw [wk_step1] at C1
  unfold mval at C1
  simp only [show wkM.oldest = false from rfl, show wkM.at_ = 0 from rfl, show wkA.oldest = false from rfl, show wkA.at_ = 2 from rfl] at C1
  refine C1.mono ?_
  rintro e w7 ⟨⟨oA, oD, nA, nD, uA, uD, rfl, h1⟩, B⟩
  replace BEL := hid (bel_step BEL.out (blift B))
  obtain ⟨q0, m0, d0, q1, m1, d1, q2, m2, d2, q3, m3, d3, q4, m4, d4, q5, m5, d5, rfl, rfl, rfl, rfl, rfl, rfl⟩ := h1.forms
  have A1 := hid (h1.below (below_alloc w7 (.cells #[.slice q0 m0 d0, .slice q1 m1 d1, .slice q2 m2 d2, .slice q3 m3 d3, .bool false, .int .i64 2, .slice q4 m4 d4, .slice q5 m5 d5] 26)))
  clear C1 h1 B M1
  go_wp2_with fail
  have C1 := pstep_any _ _ _ _ _ _ wkA 9 _ A1.out.is (by unfold Mg.small; decide) (by decide) (by decide)
  rw [wk_step2] at C1
  unfold mval at C1
  simp only [show wkA.oldest = false from rfl, show wkA.at_ = 2 from rfl, show wkB.oldest = false from rfl, show wkB.at_ = 3 from rfl] at C1
  refine C1.mono ?_
  rintro e w8 ⟨⟨oA, oD, nA, nD, uA, uD, rfl, h1⟩, B⟩
  replace BEL := hid (bel_step BEL.out (blift B))
  replace A1 := hid (A1.out.keep B)
  have ZA := hid ((MZ.new w7 (.slice q0 m0 d0) (.slice q1 m1 d1) (.slice q2 m2 d2) (.slice q3 m3 d3) (.bool false) (.int .i64 2) (.slice q4 m4 d4) (.slice q5 m5 d5)).keep B)
  obtain ⟨p0, n0, c0, p1, n1, c1, p2, n2, c2, p3, n3, c3, p4, n4, c4, p5, n5, c5, rfl, rfl, rfl, rfl, rfl, rfl⟩ := h1.forms
  have M1 := hid (h1.below (below_alloc w8 (.cells #[.slice p0 n0 c0, .slice p1 n1 c1, .slice p2 n2 c2, .slice p3 n3 c3, .bool false, .int .i64 3, .slice p4 n4 c4, .slice p5 n5 c5] 26)))
  clear C1 h1 B
  generalize w7.heap.size = T5 at *
  go_wp2_with fail
  replace A1 := hid (A1.out.keep (below_alloc w8 (.cells #[.slice p0 n0 c0, .slice p1 n1 c1, .slice p2 n2 c2, .slice p3 n3 c3, .bool false, .int .i64 3, .slice p4 n4 c4, .slice p5 n5 c5] 26)))
  replace ZA := hid (ZA.out.keep (below_alloc w8 (.cells #[.slice p0 n0 c0, .slice p1 n1 c1, .slice p2 n2 c2, .slice p3 n3 c3, .bool false, .int .i64 3, .slice p4 n4 c4, .slice p5 n5 c5] 26)))
  have C1 := pend_any _ _ _ _ _ _ wkB _ M1.out.is (by unfold Mg.small; decide) (by decide)
  rw [wk_end1] at C1
  unfold mval at C1
  simp only [show wkB.oldest = false from rfl, show wkB.at_ = 3 from rfl] at C1
  refine C1.mono ?_
  rintro e w9 ⟨⟨vA, vD, rfl, h1⟩, B⟩
  replace BEL := hid (bel_step BEL.out (blift B))
  replace A1 := hid (A1.out.keep B)
  replace ZA := hid (ZA.out.keep B)
  obtain ⟨p0, n0, c0, p1, n1, c1, rfl, rfl⟩ := h1.forms
  have T1 := hid h1
  clear C1 h1 B M1
  obtain ⟨z0, z1, z2, z3, z4, z5, z6, z7, z8⟩ := ZA.out.cells
  go_wp2_with fail
  replace T1 := hid (T1.out.below (below_alloc w9 (.cells #[.slice p0 n0 c0, .slice p1 n1 c1] 24)))
  replace A1 := hid (A1.out.keep (below_alloc w9 (.cells #[.slice p0 n0 c0, .slice p1 n1 c1] 24)))
  replace ZA := hid (ZA.out.keep (below_alloc w9 (.cells #[.slice p0 n0 c0, .slice p1 n1 c1] 24)))
  have C1 := pend_any _ _ _ _ _ _ wkA _ A1.out.is (by unfold Mg.small; decide) (by decide)
  rw [wk_end2] at C1
  unfold mval at C1
  simp only [show wkA.oldest = false from rfl, show wkA.at_ = 2 from rfl] at C1
  refine C1.mono ?_
  rintro e w10 ⟨⟨vA, vD, rfl, h1⟩, B⟩
  replace BEL := hid (bel_step BEL.out (blift B))
  replace A1 := hid (A1.out.keep B)
  replace T1 := hid (T1.out.below B)
  replace ZA := hid (ZA.out.keep B)
  have X1 := hid ((Vx.new w9 (.slice p0 n0 c0) (.slice p1 n1 c1) 24).keep B)
  obtain ⟨y0, k0, e0, y1, k1, e1, rfl, rfl⟩ := h1.forms
  clear C1 h1 B z0 z1 z2 z3 z4 z5 z6 z7 z8
  generalize w9.heap.size = T11 at *
  go_upto_region 8 with fail
  replace T1 := hid (T1.out.below (below_alloc w10 (.cells #[.slice y0 k0 e0, .slice y1 k1 e1] 24)))
  replace A1 := hid (A1.out.keep (below_alloc w10 (.cells #[.slice y0 k0 e0, .slice y1 k1 e1] 24)))
  replace ZA := hid (ZA.out.keep (below_alloc w10 (.cells #[.slice y0 k0 e0, .slice y1 k1 e1] 24)))
  replace X1 := hid (X1.out.keep (below_alloc w10 (.cells #[.slice y0 k0 e0, .slice y1 k1 e1] 24)))
  replace BEL := hid (bel_step BEL.out (below_alloc w10 (.cells #[.slice y0 k0 e0, .slice y1 k1 e1] 24)))
  generalize w10.alloc (.cells #[.slice y0 k0 e0, .slice y1 k1 e1] 24) = W at *
  have st : WkI w T5 T11 (.slice q0 m0 d0) (.slice q1 m1 d1) (.slice q2 m2 d2) (.slice q3 m3 d3) (.slice q4 m4 d4) (.slice q5 m5 d5) (.slice p0 n0 c0) (.slice p1 n1 c1) W.drew :=
    WkI.keep ⟨BEL.out, ZA.out, X1.out, A1.out.is, T1.out.pair.1, T1.out.pair.2, A1.out.u.a.1⟩ (below_drew _)
  clear BEL ZA X1 A1 T1
  obtain ⟨z0, z1, z2, z3, z4, z5, z6, z7, z8⟩ := st.mz.cells; obtain ⟨x0, x1, x2⟩ := id st.x
  go_region_held3 (fun W => T5 < W.heap.size ∧ T11 < W.heap.size ∧ W.cell? ⟨T5, 0, none⟩ = some (.slice q0 m0 d0) ∧ W.cell? ⟨T5, 1, none⟩ = some (.slice q1 m1 d1) ∧ W.cell? ⟨T5, 2, none⟩ = some (.slice q2 m2 d2) ∧ W.cell? ⟨T5, 3, none⟩ = some (.slice q3 m3 d3) ∧ W.cell? ⟨T5, 4, none⟩ = some (.bool false) ∧ W.cell? ⟨T5, 5, none⟩ = some (.int .i64 2) ∧ W.cell? ⟨T5, 6, none⟩ = some (.slice q4 m4 d4) ∧ W.cell? ⟨T5, 7, none⟩ = some (.slice q5 m5 d5) ∧ W.cell? ⟨T11, 0, none⟩ = some (.slice p0 n0 c0) ∧ W.cell? ⟨T11, 1, none⟩ = some (.slice p1 n1 c1)) (first | (refine ⟨?_, ?_, ?_, ?_, ?_, ?_, ?_, ?_, ?_, ?_, ?_, ?_⟩ <;> (repeat' (first | with_reducible assumption | with_reducible refine cell_set_ne (by omega) ?_ | with_reducible refine cell_alloc ?_ | with_reducible refine cell_drew ?_ | (simp; omega)))) | go_keep)
    (first | (go_at_call 38; with_reducible refine (wk_left_any _ _ _ _ _ _ _ st.m).mono ?_; rintro e wx ⟨rfl, B⟩; replace st := st.keep B; clear B; clear z0 z1 z2 z3 z4 z5 z6 z7 z8 x0 x1 x2; obtain ⟨z0, z1, z2, z3, z4, z5, z6, z7, z8⟩ := st.mz.cells; obtain ⟨x0, x1, x2⟩ := id st.x) | (go_at_call 97; with_reducible refine (same12_any _ _).mono ?_; rintro e wx ⟨rfl, B⟩; replace st := st.keep B; clear B; clear z0 z1 z2 z3 z4 z5 z6 z7 z8 x0 x1 x2; obtain ⟨z0, z1, z2, z3, z4, z5, z6, z7, z8⟩ := st.mz.cells; obtain ⟨x0, x1, x2⟩ := id st.x) | (go_at_call 40; (first | (with_reducible refine (equal_same _ _ [(2, 2), (3, 3)] _ (st.r0.below (below_alloc _ _)) (PRow.new2 _ 2 2 3 3 _)).mono ?_) | (with_reducible refine (equal_same _ _ [(1, 1)] _ (st.r1.below (below_alloc _ _)) (PRow.new1 _ 1 1 _)).mono ?_) | (with_reducible refine (equal_same _ _ [(2, 2)] _ (st.r2.below (below_alloc _ _)) (PRow.new1 _ 2 2 _)).mono ?_)); rintro e wx ⟨rfl, B⟩; replace st := st.keep (blift B); clear B; clear z0 z1 z2 z3 z4 z5 z6 z7 z8 x0 x1 x2; obtain ⟨z0, z1, z2, z3, z4, z5, z6, z7, z8⟩ := st.mz.cells; obtain ⟨x0, x1, x2⟩ := id st.x))
  all_goals
    go_wp2_with fail
    go_ret
    exact ⟨rfl, st.below⟩
end Go.Proofs.Ytlkdkhmdmgchbaa
