/- the document's merges: Left, Same. -/
import Derived.Test.YtlkdkhmdmgchbaaF10
namespace Go.Proofs.Ytlkdkhmdmgchbaa
set_option linter.unusedSimpArgs false
set_option linter.unusedVariables false
open Go.RowKit

/-- a merge. -/
structure Mg where
  older : Tr
  newer : Tr
  oldest : Bool
  at_ : Int
  out : Tr
  deriving DecidableEq
/-- the merge's slices read as its rows. -/
structure MIs (w : World) (oA oD nA nD uA uD : Value) (m : Mg) : Prop where
  o : TPair w oA oD m.older
  n : TPair w nA nD m.newer
  u : TPair w uA uD m.out
theorem MIs.below {w w' : World} {oA oD nA nD uA uD : Value} {m : Mg} (h : MIs w oA oD nA nD uA uD m) (hb : Below w.heap.size w w') : MIs w' oA oD nA nD uA uD m := ⟨h.o.below hb, h.n.below hb, h.u.below hb⟩
/-- a merge's box. -/
abbrev MB (w : World) (T : Nat) (oA oD nA nD : Value) (ob : Bool) (n : Int) (uA uD : Value) (W : World) : Prop :=
  Below w.heap.size w W ∧ W.cell? ⟨T, 0, none⟩ = some oA ∧ W.cell? ⟨T, 1, none⟩ = some oD ∧ W.cell? ⟨T, 2, none⟩ = some nA ∧ W.cell? ⟨T, 3, none⟩ = some nD ∧ W.cell? ⟨T, 4, none⟩ = some (.bool ob) ∧ W.cell? ⟨T, 5, none⟩ = some (.int .i64 n) ∧ W.cell? ⟨T, 6, none⟩ = some uA ∧ W.cell? ⟨T, 7, none⟩ = some uD ∧ T < W.heap.size
theorem MB.keep {w : World} {T : Nat} {oA oD nA nD : Value} {ob : Bool} {n : Int} {uA uD : Value} {W W' : World} (h : MB w T oA oD nA nD ob n uA uD W) (B : Below W.heap.size W W') : MB w T oA oD nA nD ob n uA uD W' := by
  obtain ⟨h0, h1, h2, h3, h4, h5, h6, h7, h8, h9⟩ := h
  have := B.size
  exact ⟨bel_step h0 B, cellB B h1, cellB B h2, cellB B h3, cellB B h4, cellB B h5, cellB B h6, cellB B h7, cellB B h8, by omega⟩
theorem MB.new (w : World) (oA oD nA nD : Value) (ob : Bool) (n : Int) (uA uD : Value) (t : Nat) : MB w w.heap.size oA oD nA nD ob n uA uD (w.alloc (.cells #[oA, oD, nA, nD, .bool ob, .int .i64 n, uA, uD] t)) :=
  ⟨below_alloc _ _, by go_simp, by go_simp, by go_simp, by go_simp, by go_simp, by go_simp, by go_simp, by go_simp, by simp⟩
/-- how many steps a merge may take in all. -/
def Mg.small (m : Mg) : Prop := m.older.1.length ≤ 200000 ∧ m.older.2.length ≤ 200000 ∧ m.newer.1.length ≤ 200000 ∧ m.newer.2.length ≤ 200000

set_option maxRecDepth 100000 in
set_option maxHeartbeats 2000000 in
theorem refleft_any (oA oD nA nD uA uD : Value) (m : Mg) (w : World) (h : MIs w oA oD nA nD uA uD m) (hs : m.small) (h0 : 0 ≤ m.at_) (h1 : m.at_ ≤ 9223372036854775807) :
    Calls Try.prog 29 #[mval oA oD nA nD uA uD m.oldest m.at_] w fun e w' => e = .returned (.int .i64 (((pairsL m.older m.newer).length : Int) - m.at_)) ∧ Below w.heap.size w w' := by
  obtain ⟨pA, cA, rfl⟩ := h.o.1.form
  obtain ⟨pD, cD, rfl⟩ := h.o.2.form
  obtain ⟨pB, cB, rfl⟩ := h.n.1.form
  obtain ⟨pE, cE, rfl⟩ := h.n.2.form
  obtain ⟨pF, cF, rfl⟩ := h.u.1.form
  obtain ⟨pG, cG, rfl⟩ := h.u.2.form
  have P := hid (fun (W : World) (B : Below w.heap.size w W) => pairs_any _ _ _ _ m.older m.newer W (h.o.below B) (h.n.below B) hs.1 hs.2.1 hs.2.2.1 hs.2.2.2)
  have hl := pairsL_len m.older m.newer
  have hw : IntKind.i64.wrap (((pairsL m.older m.newer).length : Int) - m.at_) = ((pairsL m.older m.newer).length : Int) - m.at_ := i64_ok _ (by omega) (by have := hs.1; have := hs.2.1; have := hs.2.2.1; have := hs.2.2.2; omega)
  clear h hs hl h0 h1
  unfold mval
  obtain ⟨t, u, ob, n, r⟩ := m
  simp only at *
  go_enter Try.func29, Try.ntmps29
  go_wp2_with fail
  have st := MB.new w (.slice pA t.1.length cA) (.slice pD t.2.length cD) (.slice pB u.1.length cB) (.slice pE u.2.length cE) ob n (.slice pF r.1.length cF) (.slice pG r.2.length cG) 26
  have st := st.keep (below_drew _)
  generalize (w.alloc (.cells #[.slice pA t.1.length cA, .slice pD t.2.length cD, .slice pB u.1.length cB, .slice pE u.2.length cE, .bool ob, .int .i64 n, .slice pF r.1.length cF, .slice pG r.2.length cG] 26)) = W0 at *
  go_region_held3 (fun W => Below w.heap.size w W ∧ W.cell? ⟨w.heap.size, 0, none⟩ = some (.slice pA t.1.length cA) ∧ W.cell? ⟨w.heap.size, 1, none⟩ = some (.slice pD t.2.length cD) ∧ W.cell? ⟨w.heap.size, 2, none⟩ = some (.slice pB u.1.length cB) ∧ W.cell? ⟨w.heap.size, 3, none⟩ = some (.slice pE u.2.length cE) ∧ W.cell? ⟨w.heap.size, 4, none⟩ = some (.bool ob) ∧ W.cell? ⟨w.heap.size, 5, none⟩ = some (.int .i64 n) ∧ W.cell? ⟨w.heap.size, 6, none⟩ = some (.slice pF r.1.length cF) ∧ W.cell? ⟨w.heap.size, 7, none⟩ = some (.slice pG r.2.length cG) ∧ w.heap.size < W.heap.size) (first | assumption | go_keep)
    (first | (go_at_call 102; refine (P.out _ st.1).mono ?_; rintro e wa ⟨⟨v1, rfl, h1⟩, B⟩; obtain ⟨p1, c1, rfl⟩ := h1.row.form; clear h1; have hx := MB.keep st B; clear B))
  all_goals
    go_wp2_with fail
    go_ret
    exact ⟨rfl, hx.1⟩
end Go.Proofs.Ytlkdkhmdmgchbaa
