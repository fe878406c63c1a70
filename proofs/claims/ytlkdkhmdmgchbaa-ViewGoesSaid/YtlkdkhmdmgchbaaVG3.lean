/- texts on which the statement stands, part 3. -/
import Derived.Test.YtlkdkhmdmgchbaaVG2
import Derived.WalkMore
import Derived.RangeFuncNested
import Derived.RangeFuncBound
import Derived.RangeFuncCalls
import Derived.RangeFuncLeaves
import Derived.Shelf.Abstract
import Derived.Shelf.RegionOpen
import Derived.OwnWalkIn
import Derived.TacticsInMore
import Derived.LoopNIn
import Derived.LoopIn
import Derived.Maps.OwnIn
import Derived.Test.YtlkdkhmdmgchbaaB0
import Derived.ProofKit
import Derived.OpenShut
import Derived.Deep.DeepHandedRow
import Derived.Deep.Slices
import Derived.ReadAgain
import Derived.ChangeBears
import Derived.ChangeMaps5
import Derived.SliceStrings
import Derived.Lib.LaidTab
import Derived.Lib.SmallJoins
namespace Go.Proofs.Ytlkdkhmdmgchbaa
set_option linter.unusedSimpArgs false
set_option linter.unusedVariables false
open Go.RowKit
set_option maxRecDepth 100000

abbrev errno (b : Bool) (e : Int) : Value := .int .i64 (if b then 0 else e)

set_option maxRecDepth 100000 in
set_option maxHeartbeats 2000000 in
theorem check_any (v : Value) (l : List Pr) (w : World) (h : PRow w v l) : Calls Try.prog 41 #[v] w fun e w' => e = .returned (errno (rightL l) 130) ∧ Below w.heap.size w w' := by
  have HL := h.len
  obtain ⟨p, cap, rfl⟩ := h.form
  have H := hid h; clear h
  by_cases hm : l.length ≤ 1048576
  · have hm' : (l.length : Int) ≤ 1048576 := by omega
    have HM := hid hm
    go_enter Try.func41, Try.ntmps41
    go_wp2_with fail
    go_step3
    go_wp2_with fail
    go_step3
    go_wp2_with fail
    go_loopw [3, 4, 10] (fun v3 _ v10 wr => ∃ k : Nat, v3 = .bool true ∧ v10 = (.int .i64 (k)) ∧ k ≤ l.length ∧ Hid (Rises (l.take k)) ∧ Hid (Below w.heap.size w wr)) (fun _ _ v10 _ => l.length - (intOf v10).toNat)
    case atStart => exact ⟨0, rfl, rfl, Nat.zero_le _, List.Pairwise.nil, Below.refl _ _⟩
    case round =>
      obtain ⟨k, rfl, rfl, hk, RI, BEL⟩ := hrel
      by_cases hgo : k < l.length
      · have hgo' : (k : Int) < (l.length : Int) := by omega
        have hwk : IntKind.i64.wrap ((k : Int) + 1) = ((k + 1 : Nat) : Int) := by rw [i64_ok _ (by omega) (by omega)]; omega
        by_cases hk0 : k = 0
        · subst hk0
          have one : Hid (Rises (l.take (0 + 1))) := by
            show Rises _
            rw [List.take_succ_eq_append_getElem hgo]
            exact List.pairwise_singleton _ _
          go_wp2_with fail
          go_big_region
          all_goals
            go_wp2_with fail
            exact ⟨⟨1, rfl, by simp, hgo, one, BEL.out.drew⟩, by simp [intOf]; omega⟩
        · obtain ⟨j, hj⟩ : ∃ j, k = j + 1 := ⟨k - 1, by omega⟩
          have HJ := hid hj
          have q1 : ((k : Int) == 0) = false := by simpa using hk0
          have hjl : j < l.length := by omega
          have hb1 : (j : Int) < (l.length : Int) := by omega
          have hb2 : (0 : Int) ≤ (k : Int) := by omega
          have hb3 : (0 : Int) ≤ (j : Int) := by omega
          obtain ⟨g, o, cap, hv, hcell⟩ := (H.out.below BEL.out).cell (by omega)
          simp only [Value.slice.injEq] at hv
          obtain ⟨hv, -, -⟩ := hv
          subst hv
          obtain ⟨d0, d1⟩ := hcell k hgo
          obtain ⟨c0, c1⟩ := hcell j hjl
          have NX : Hid (Rises l → lt l[j] l[k]) := by subst hj; exact fun h => h.next j hgo
          have SN : Hid (lt l[j] l[k] → Rises (l.take (k + 1))) := fun h => by
            have r := RI.out
            subst hj
            rw [List.take_succ_eq_append_getElem hjl] at r
            rw [List.take_succ_eq_append_getElem hgo, List.take_succ_eq_append_getElem hjl]
            exact r.snoc h
          clear hcell
          generalize l[k] = x at *
          generalize l[j] = y at *
          obtain ⟨x0, x1⟩ := x
          obtain ⟨y0, y1⟩ := y
          simp only at d0 d1 c0 c1
          have A := hid (fun W => compare_any y0 y1 x0 x1 W)
          have hlt0 := pcmp_lt (y0, y1) (x0, x1)
          clear hj hk0
          obtain ⟨z, hz⟩ : ∃ z, pcmp (y0, y1) (x0, x1) = z := ⟨_, rfl⟩
          have zs := hid (pcmp_small (y0, y1) (x0, x1))
          rw [hz] at A hlt0 zs
          clear hz
          by_cases hlt : z < 0
          · have SR := hid (SN.out (hlt0.1 hlt))
            clear SN NX hlt0
            go_wp2_with fail
            have hw1 : (k : Int) - 1 = (j : Int) := by have := HJ.out; omega
            have hw2 : IntKind.i64.wrap (j : Int) = (j : Int) := i64_ok _ (by omega) (by omega)
            have st : Below w.heap.size w wr.drew ∧ wr.drew.cell? ⟨g, o + k * 2, none⟩ = some (.int .u64 (x0)) ∧ wr.drew.cell? ⟨g, o + k * 2 + 1, none⟩ = some (.int .u64 (x1)) ∧ wr.drew.cell? ⟨g, o + j * 2, none⟩ = some (.int .u64 (y0)) ∧ wr.drew.cell? ⟨g, o + j * 2 + 1, none⟩ = some (.int .u64 (y1)) := ⟨BEL.out.drew, d0, d1, c0, c1⟩
            go_region_held3 (fun W => Below w.heap.size w W ∧ W.cell? ⟨g, o + k * 2, none⟩ = some (.int .u64 (x0)) ∧ W.cell? ⟨g, o + k * 2 + 1, none⟩ = some (.int .u64 (x1)) ∧ W.cell? ⟨g, o + j * 2, none⟩ = some (.int .u64 (y0)) ∧ W.cell? ⟨g, o + j * 2 + 1, none⟩ = some (.int .u64 (y1))) (first | assumption | go_keep)
              (first | (go_at_call 56; refine (A.out _).mono ?_; rintro e wa ⟨rfl, B⟩; have hx := (show Below w.heap.size w wa ∧ wa.cell? ⟨g, o + k * 2, none⟩ = some (.int .u64 (x0)) ∧ wa.cell? ⟨g, o + k * 2 + 1, none⟩ = some (.int .u64 (x1)) ∧ wa.cell? ⟨g, o + j * 2, none⟩ = some (.int .u64 (y0)) ∧ wa.cell? ⟨g, o + j * 2 + 1, none⟩ = some (.int .u64 (y1)) from ⟨bel_step st.1 B, cellB B st.2.1, cellB B st.2.2.1, cellB B st.2.2.2.1, cellB B st.2.2.2.2⟩); clear B))
            all_goals
              have hz := hid (And.left (by assumption : Below w.heap.size w wa ∧ _))
              go_wp2_with fail
              exact ⟨⟨k + 1, rfl, by simp, hgo, SR, hz.out⟩, by simp [intOf]; omega⟩
          · have NR : Hid (rightL l = false) := by
              show _ = _
              have : ¬ Rises l := fun h => hlt (hlt0.2 (NX.out h))
              simp [rightL, this]
            have hz3 := zs.out
            clear SN NX hlt0
            rcases (show z = 0 ∨ z = 1 by omega) with rfl | rfl
            all_goals clear hlt hz3
            all_goals
              go_wp2_with fail
              have hw1 : (k : Int) - 1 = (j : Int) := by have := HJ.out; omega
              have hw2 : IntKind.i64.wrap (j : Int) = (j : Int) := i64_ok _ (by omega) (by omega)
              have st : Below w.heap.size w wr.drew ∧ wr.drew.cell? ⟨g, o + k * 2, none⟩ = some (.int .u64 (x0)) ∧ wr.drew.cell? ⟨g, o + k * 2 + 1, none⟩ = some (.int .u64 (x1)) ∧ wr.drew.cell? ⟨g, o + j * 2, none⟩ = some (.int .u64 (y0)) ∧ wr.drew.cell? ⟨g, o + j * 2 + 1, none⟩ = some (.int .u64 (y1)) := ⟨BEL.out.drew, d0, d1, c0, c1⟩
              go_region_held3 (fun W => Below w.heap.size w W ∧ W.cell? ⟨g, o + k * 2, none⟩ = some (.int .u64 (x0)) ∧ W.cell? ⟨g, o + k * 2 + 1, none⟩ = some (.int .u64 (x1)) ∧ W.cell? ⟨g, o + j * 2, none⟩ = some (.int .u64 (y0)) ∧ W.cell? ⟨g, o + j * 2 + 1, none⟩ = some (.int .u64 (y1))) (first | assumption | go_keep)
                (first | (go_at_call 56; refine (A.out _).mono ?_; rintro e wa ⟨rfl, B⟩; have hx := (show Below w.heap.size w wa ∧ wa.cell? ⟨g, o + k * 2, none⟩ = some (.int .u64 (x0)) ∧ wa.cell? ⟨g, o + k * 2 + 1, none⟩ = some (.int .u64 (x1)) ∧ wa.cell? ⟨g, o + j * 2, none⟩ = some (.int .u64 (y0)) ∧ wa.cell? ⟨g, o + j * 2 + 1, none⟩ = some (.int .u64 (y1)) from ⟨bel_step st.1 B, cellB B st.2.1, cellB B st.2.2.1, cellB B st.2.2.2.1, cellB B st.2.2.2.2⟩); clear B))
              all_goals
                have hz := hid (And.left (by assumption : Below w.heap.size w wa ∧ _))
                go_wp2_with fail
                (try rw [Exit.noGoto_ret]); go_ret
                exact ⟨by rw [NR.out]; rfl, hz.out⟩
      · have h1 : ¬ (k : Int) < (l.length : Int) := by omega
        rw [List.take_of_length_le (by omega)] at RI
        have e : decide (Rises l) = true := by simpa using RI.out
        have E : Hid (rightL l = true) := by show _ = _; simp [rightL, e, hm]
        clear hgo e
        go_wp2_with fail
        (try rw [Exit.noGoto_ret]); go_ret
        exact ⟨by rw [E.out]; rfl, BEL.out⟩
  · have hm' : ¬ (l.length : Int) ≤ 1048576 := by omega
    have E : Hid (rightL l = false) := by show _ = _; simp [rightL, hm]
    have hpos : (0 : Int) < (l.length : Int) := by omega
    have hpos' : 0 < l.length := by omega
    go_enter Try.func41, Try.ntmps41
    go_wp2_with fail
    go_step3
    go_wp2_with fail
    go_step3
    go_wp2_with fail
    go_loopw [3, 4, 10] (fun v3 _ v10 wr => v3 = .bool false ∧ v10 = (.int .i64 (0)) ∧ Hid (Below w.heap.size w wr)) (fun _ _ _ _ => 0)
    case atStart => exact ⟨by simp; omega, rfl, Below.refl _ _⟩
    case round =>
      obtain ⟨rfl, rfl, BEL⟩ := hrel
      go_wp2_with fail
      go_big_region
      all_goals
        go_wp2_with fail
        (try rw [Exit.noGoto_ret]); go_ret
        exact ⟨by rw [E.out]; rfl, BEL.out.drew⟩

def Iter (P : Program) (g : Nat) (lb : Array Value) {α : Type} (encs : α → Array Value) (K : Nat → Prop) (Pre : World → Prop) (Kp : World → World → Prop)
    (Sx : List α → α → Prop) (S Sp : List α → Prop) : Prop :=
  ∀ (l : Nat) (J Jx : List α → World → Prop) (W : World), Pre W →
    (∀ pre W W', J pre W → Keeps K W W' → J pre W') → (∀ pre W W', Jx pre W → Keeps K W W' → Jx pre W') →
    (∀ pre x W1, J pre W1 → Sx pre x → YieldAt Fence.wide 8 P l (encs x) W1 fun e W' =>
      (e = .returned (.bool true) ∧ J (pre ++ [x]) W' ∧ Kp W1 W') ∨ (e = .returned (.bool false) ∧ Jx (pre ++ [x]) W')) →
    J [] W →
    CallsIn Fence.wide 9 P g (#[.func (.yield l) #[] #[]] ++ lb) W fun e W' => (∃ v, e = .returned v) ∧ ((∃ xs, S xs ∧ J xs W') ∨ (∃ pre, Sp pre ∧ Jx pre W'))

def KeepsAt (D : Nat) (W W' : World) : Prop := W'.heap[D]? = W.heap[D]? ∧ W'.heap[D + 1]? = W.heap[D + 1]?
theorem KeepsAt.refl (D : Nat) (W : World) : KeepsAt D W W := ⟨rfl, rfl⟩
theorem KeepsAt.trans {D : Nat} {A B C : World} (h : KeepsAt D A B) (k : KeepsAt D B C) : KeepsAt D A C := ⟨k.1.trans h.1, k.2.trans h.2⟩
theorem KeepsAt.alloc {D : Nat} {A B : World} (h : KeepsAt D A B) (hB : D + 2 ≤ B.heap.size) (o : Obj) : KeepsAt D A (B.alloc o) :=
  h.trans ⟨Below.heap_alloc _ _ _ (by omega), Below.heap_alloc _ _ _ (by omega)⟩
theorem KeepsAt.setCell {D : Nat} {A B : World} (h : KeepsAt D A B) {p : Addr} (hp : p.block < D ∨ D + 1 < p.block) (u : Value) : KeepsAt D A (B.setCell p u) :=
  h.trans ⟨Below.heap_setCell _ _ _ _ (by omega), Below.heap_setCell _ _ _ _ (by omega)⟩
theorem KeepsAt.drew {D : Nat} {A B : World} (h : KeepsAt D A B) : KeepsAt D A B.drew := h
theorem KeepsAt.of_below {D : Nat} {A B : World} {n : Nat} (h : Below n A B) (hn : D + 2 ≤ n) : KeepsAt D A B := ⟨h.block _ (by omega), h.block _ (by omega)⟩

def roundEnd {α : Type} (D : Nat) (Kp : World → World → Prop) (I : List α → World → Prop) (Ix : Code → List α → World → Prop) (xs : List α) (W : World) : Exit → Act → World → Prop
  | .normal, _, W' => KeepsAt D W W' ∧ Kp W W' ∧ I xs W'
  | .ret, _, W' => KeepsAt D W W' ∧ Ix .ret xs W'
  | .exit id, _, W' => KeepsAt D W W' ∧ Ix (.exit id) xs W'
  | .goto t, _, W' => KeepsAt D W W' ∧ Ix (.goto t) xs W'
  | .panic _, _, _ => False
  | .outgrown, _, _ => False

theorem putObj_keeps {K : Nat → Prop} (W : World) (l : Nat) (o : Obj) (hl : ¬ K l) : Keeps K W (W.putObj l o) :=
  ⟨rfl, rfl, rfl, by simp, fun k _ hk => World.putObj_heap_other (by rintro rfl; exact hl hk)⟩

theorem range_wide {P : Program} {α : Type} {g : Operand} {ps : Array Tmp} {assign body : Code} {Q : Exit → Act → World → Prop} {a : Act} {w : World}
    {gf : Nat} {lb : Array Value} (hg : a.eval g = .func (.func gf) #[] lb) (eg : ∀ args w, (callFunc gf args).run P w = .ok (.enter gf args) w)
    {encs : α → Array Value} {K : Nat → Prop} {Pre : World → Prop} {Kp : World → World → Prop} {Sx : List α → α → Prop} {S Sp : List α → Prop}
    (hseq : Iter P gf lb encs K Pre Kp Sx S Sp) (hPre : ∀ W, Below w.heap.size w W → Pre W) (hK : K w.heap.size ∧ K (w.heap.size + 1))
    (hKt : ∀ {A B C : World}, Kp A B → Kp B C → Kp A C) (hKb : ∀ (W : World) (o : Obj), Kp W (W.putObj (w.heap.size + 1) o)) (hps : ∀ x, (encs x).size = ps.size)
    (I : List α → World → Prop) (Ix : Code → List α → World → Prop) (Ia : List α → α → Act → World → Prop)
    (hI : ∀ pre W W', I pre W → Keeps (fun k => K k ∧ k ≠ w.heap.size ∧ k ≠ w.heap.size + 1) W W' → I pre W')
    (hIx : ∀ c pre W W', Ix c pre W → Keeps (fun k => K k ∧ k ≠ w.heap.size ∧ k ≠ w.heap.size + 1) W W' → Ix c pre W')
    (hIa : ∀ pre x a W W', Ia pre x a W → Keeps (fun k => K k ∧ k ≠ w.heap.size ∧ k ≠ w.heap.size + 1) W W' → Ia pre x a W')
    (h0 : I [] w)
    (hassign : ∀ (l : Nat) (pre : List α) (x : α) (W : World), I pre W → Sx pre x → w.heap.size + 2 ≤ W.heap.size →
      assign.wpIn (Fence.wide.inRound l) 8 P (Exit.then (fun a₁ W' => KeepsAt w.heap.size W W' ∧ Kp W W' ∧ W.heap.size ≤ W'.heap.size ∧ Ia pre x a₁ W') (fun _ _ _ => False)) { tmps := (ps.zip (encs x)).foldl (fun t (p, v) => t.setIfInBounds p v) a.tmps, defers := [] } W)
    (hbody : ∀ (l : Nat) (pre : List α) (x : α) (a₁ : Act) (W : World), Ia pre x a₁ W → Sx pre x → w.heap.size + 2 ≤ W.heap.size →
      body.wpIn (Fence.wide.inRound l) 8 P (roundEnd w.heap.size Kp I Ix (pre ++ [x]) W) a₁ W)
    (hdone : ∀ (xs : List α) (W : World), S xs → I xs W → W.heap[w.heap.size]? = some (.deferred (some [])) → Q .normal { a with defers := { target := .collected w.heap.size, args := #[] } :: a.defers } W)
    (hstop : ∀ (c : Code) (pre : List α) (W : World), Sp pre → Ix c pre W → W.heap[w.heap.size]? = some (.deferred (some [])) → c.wpIn Fence.wide 10 P Q { a with defers := { target := .collected w.heap.size, args := #[] } :: a.defers } W) :
    (Code.rangeFunc g ps assign body).wpIn Fence.wide 10 P Q a w := by
  refine wpIn_rangeFunc ?_
  intro fn hfn
  obtain ⟨rec, hrec⟩ : ∃ rec : LoopState → Option Code → Loop, rec = fun st pe => { state := st, pending := pe, fn, tmps := a.tmps, params := ps, assign, body, defers := w.heap.size } := ⟨_, rfl⟩
  obtain ⟨W1, hW1⟩ : ∃ W1, (w.alloc (.deferred (some []))).alloc (.loop (rec .ready none)) = W1 := ⟨_, rfl⟩
  have hL1 : W1.heap[w.heap.size + 1]? = some (.loop (rec .ready none)) := by
    rw [← hW1]; have := World.alloc_heap_new (w.alloc (.deferred (some []))) (.loop (rec .ready none)); rwa [World.size_alloc] at this
  have hK1 : W1.heap[w.heap.size]? = some (.deferred (some [])) := by
    rw [← hW1]; exact (Below.heap_alloc _ _ _ (by simp)).trans (World.alloc_heap_new w _)
  have hI1 : I [] W1 := by
    rw [← hW1]; exact hI _ _ _ h0 (((Keeps.refl _ w).alloc _).alloc _)
  have hb1 : Below w.heap.size w W1 := by
    rw [← hW1]; exact ((Below.refl _ w).alloc (Nat.le_refl _) _).alloc (by simp) _
  have lt_of : ∀ {W : World} {k : Nat} {o : Obj}, W.heap[k]? = some o → k < W.heap.size := fun h => (Array.getElem?_eq_some_iff.1 h).1
  have kpu : ∀ (W : World) (o : Obj), Keeps (fun k => K k ∧ k ≠ w.heap.size ∧ k ≠ w.heap.size + 1) W (W.putObj (w.heap.size + 1) o) := fun W o => putObj_keeps W _ o (by simp)
  refine ⟨w.heap.size + 1, [{ target := .collected w.heap.size, args := #[] }], W1, { target := .fn (.func gf) lb, args := #[.func (.yield (w.heap.size + 1)) #[] #[]] }, W1, gf,
    #[.func (.yield (w.heap.size + 1)) #[] #[]] ++ lb, W1, ?_, ?_, ?_, ?_, fun _ => by omega, ?_⟩
  · rw [← hW1, hrec]; exact run_enterLoop_outer _ _ _ _ _
  · simp only [resolve, hg]
    simp [go_sem]
  · intro f' _; trivial
  · simp [invoke, go_sem, eg]
  refine (hseq (w.heap.size + 1)
    (fun pre W => I pre W ∧ W.heap[w.heap.size + 1]? = some (.loop (rec .ready none)) ∧ W.heap[w.heap.size]? = some (.deferred (some [])))
    (fun pre W => ∃ c, Ix c pre W ∧ W.heap[w.heap.size + 1]? = some (.loop (rec .done (some c))) ∧ W.heap[w.heap.size]? = some (.deferred (some [])))
    W1 (hPre _ hb1)
    (fun pre W W' hs hk => ⟨hI _ _ _ hs.1 ⟨hk.os, hk.tape, hk.output, hk.size, fun k h1 h2 => hk.block k h1 h2.1⟩, (hk.block _ (lt_of hs.2.1) hK.2).trans hs.2.1, (hk.block _ (lt_of hs.2.2) hK.1).trans hs.2.2⟩)
    (fun pre W W' hs hk => by
      obtain ⟨c, hc, hl, hd⟩ := hs
      exact ⟨c, hIx _ _ _ _ hc ⟨hk.os, hk.tape, hk.output, hk.size, fun k h1 h2 => hk.block k h1 h2.1⟩, (hk.block _ (lt_of hl) hK.2).trans hl, (hk.block _ (lt_of hd) hK.1).trans hd⟩)
    ?_ ⟨hI1, hL1, hK1⟩).mono ?_
  · rintro pre x W ⟨hi, hl, hd⟩ hx
    have hlt := lt_of hl
    have hy := run_yield (P := P) (args := encs x) hl (by rw [hrec]; exact hps x)
    rw [hrec] at hy
    refine ⟨fn, _, assign, body, hy, roundIn_of_wpIn hfn (wpIn_mono (hassign _ pre x W hi hx hlt) ?_)⟩
    intro e a₁ W2 hp
    cases e with
    | normal =>
      obtain ⟨hk2, hkp2, hsz, hia⟩ := hp
      have hl2 := hk2.2.trans hl
      have hd2 := hk2.1.trans hd
      refine ⟨_, run_beginRound hl2 (by rw [hrec]), ?_⟩
      have hl3 : (W2.putObj (w.heap.size + 1) (.loop { rec .ready none with state := .busy })).heap[w.heap.size + 1]? = some (.loop { rec .ready none with state := .busy }) := World.putObj_heap_same (lt_of hl2)
      have hd3 : (W2.putObj (w.heap.size + 1) (.loop { rec .ready none with state := .busy })).heap[w.heap.size]? = some (.deferred (some [])) := (World.putObj_heap_other (by omega)).trans hd2
      refine wpIn_mono (hbody _ pre x _ _ (hIa _ _ _ _ _ hia (kpu _ _)) hx (by simp; omega)) ?_
      have fin : ∀ (jump : Option Code) (W4 : World), KeepsAt w.heap.size (W2.putObj (w.heap.size + 1) (.loop { rec .ready none with state := .busy })) W4 →
          (Instr.endRound (w.heap.size + 1) jump).run P W4 = .ok (.bool jump.isNone) (W4.putObj (w.heap.size + 1) (.loop (rec (if jump.isNone then .ready else .done) jump))) ∧
          (W4.putObj (w.heap.size + 1) (.loop (rec (if jump.isNone then .ready else .done) jump))).heap[w.heap.size + 1]? = some (.loop (rec (if jump.isNone then .ready else .done) jump)) ∧
          (W4.putObj (w.heap.size + 1) (.loop (rec (if jump.isNone then .ready else .done) jump))).heap[w.heap.size]? = some (.deferred (some [])) := fun jump W4 hk4 => by
        have hl4 := hk4.2.trans hl3
        have := run_endRound (P := P) jump hl4
        rw [hrec] at this ⊢
        exact ⟨this, World.putObj_heap_same (lt_of hl4), (World.putObj_heap_other (by omega)).trans (hk4.1.trans hd3)⟩
      rintro e a3 W3 hp
      cases e with
      | normal =>
        obtain ⟨hk3, hkp3, hi3⟩ := hp
        obtain ⟨hr, hl4, hd4⟩ := fin none W3 hk3
        exact ⟨_, _, hr, .inl ⟨rfl, ⟨hI _ _ _ hi3 (kpu _ _), hl4, hd4⟩, hKt hkp2 (hKt (hKb _ _) (hKt hkp3 (hKb _ _)))⟩⟩
      | ret =>
        obtain ⟨hk3, hi3⟩ := hp
        obtain ⟨hr, hl4, hd4⟩ := fin (some .ret) W3 hk3
        exact ⟨_, _, hr, .inr ⟨rfl, .ret, hIx _ _ _ _ hi3 (kpu _ _), hl4, hd4⟩⟩
      | exit id =>
        obtain ⟨hk3, hi3⟩ := hp
        obtain ⟨hr, hl4, hd4⟩ := fin (some (.exit id)) W3 hk3
        exact ⟨_, _, hr, .inr ⟨rfl, .exit id, hIx _ _ _ _ hi3 (kpu _ _), hl4, hd4⟩⟩
      | goto t =>
        obtain ⟨hk3, hi3⟩ := hp
        obtain ⟨hr, hl4, hd4⟩ := fin (some (.goto t)) W3 hk3
        exact ⟨_, _, hr, .inr ⟨rfl, .goto t, hIx _ _ _ _ hi3 (kpu _ _), hl4, hd4⟩⟩
      | panic ch => exact hp.elim
      | outgrown => exact hp.elim
    | ret => exact hp.elim
    | exit id => exact hp.elim
    | goto t => exact hp.elim
    | panic ch => exact hp.elim
    | outgrown => exact hp.elim
  · rintro e W2 ⟨⟨v, rfl⟩, (⟨xs, hS, hi, hl, hd⟩ | ⟨pre, hSp, c, hi, hl, hd⟩)⟩
    · exact ⟨none, _, by have := run_endLoop (P := P) hl (by rw [hrec]; simp); rw [hrec] at this; exact this, hdone xs _ hS (hI _ _ _ hi (kpu _ _)) ((World.putObj_heap_other (by omega)).trans hd)⟩
    · exact ⟨some c, _, by have := run_endLoop (P := P) hl (by rw [hrec]; simp); rw [hrec] at this; exact this, hstop c pre _ hSp (hIx _ _ _ _ hi (kpu _ _)) ((World.putObj_heap_other (by omega)).trans hd)⟩

theorem hmf {fn : Fn} {first cap : Array Value} {w : World} : (Instr.makeFunc fn first cap).run Try.prog w = .ok (.func fn first cap) w := rfl
theorem app1In {F : Fence} {nF : Nat} {ops : Array Oper} {rest : List Oper} {o : Oper} {a : Act} {Q : Exit → Act → World → Prop} (hgd : o.guard = none) (s x : Operand)
    (ho : o.op = .call { callee := .builtin .append, args := #[s, x], argTypes := #[22, 22] }) {w : World} (B : Nat) (v : Value) (l : List Pr) (c d : Int) (W : World)
    (hs : a.eval s = v) (hx : a.eval x = .slice (some ⟨W.heap.size, 0, none⟩) 1 1) (hw : w = W.alloc (.cells #[.int .u64 c, .int .u64 d] 52)) (own : POwn B W v l) (hB : B ≤ W.heap.size) (hlen : l.length ≤ 100000000)
    (h : ∀ v' w1, POwn B w1 v' (l ++ [(c, d)]) → Keeps (fun k => some k ≠ v.ownBlock) W w1 → (v'.ownBlock = v.ownBlock ∨ ∃ k, v'.ownBlock = some k ∧ W.heap.size ≤ k) → wpListIn F nF Try.prog ops Q rest (a.put o.dst v') w1) : wpListIn F nF Try.prog ops Q (o :: rest) a w := by
  obtain ⟨i, hi, hz0, hz1, hz2⟩ := infoP'
  subst hw
  refine wpListIn_append_own_at _ hgd s x 22 ho B 52 i (.agg #[.int .u64 0, .int .u64 0]) 2 16 Try.underlying22 hi hz0 hz1 hz2 rfl (by decide) v l.length _ hs (World.ownsRow.alloc own _) ⟨W.heap.size, 0, none⟩ 1 1 [.int .u64 c, .int .u64 d] hx rfl ?_ ?_ ?_ ?_ ?_ ?_
  · intro j u hj
    match j, hj with
    | 0, hj => simp at hj; subst hj; simp [Addr.add]
    | 1, hj => simp at hj; subst hj; simp [Addr.add]
    | j + 2, hj => simp at hj
  · intro u hu; simp at hu; rcases hu with rfl | rfl <;> rfl
  · unfold maxLen; omega
  · omega
  · simp; omega
  · intro v' w1 h1 h2 _ h4
    refine h v' w1 ?_ ?_ ?_
    · unfold POwn
      rw [flat_append, List.length_append]
      exact h1
    · have hs := h2.size
      simp only [World.size_alloc] at hs
      exact ⟨h2.os, h2.tape, h2.output, by omega, fun k hk hK => (h2.block k (by simp; omega) hK).trans (Below.heap_alloc _ _ _ hk)⟩
    · rcases h4 with h4 | h4
      · exact .inl h4
      · exact .inr ⟨_, h4, by simp⟩
theorem PRow.drop {w : World} {p : Option Addr} {cap : Nat} {l : List Pr} (h : PRow w (.slice p l.length cap) l) (k : Nat) (hk : k ≤ l.length) : PRow w (.slice (if cap = k then p else p.map (·.add (k * 2))) (l.length - k) (cap - k)) (l.drop k) := by
  obtain ⟨p', cap', e, h1, h2, h4, h3⟩ := h
  simp only [Value.slice.injEq, true_and] at e
  obtain ⟨rfl, rfl⟩ := e
  refine ⟨_, _, by rw [List.length_drop], by rw [List.length_drop]; omega, fun hn => ?_, by omega, fun hl => ?_⟩
  · split at hn
    · omega
    · simp at hn
      have := h2 hn; omega
  · rw [List.length_drop] at hl
    obtain ⟨g, o, rfl, h5⟩ := h3 (by omega)
    have : ¬ cap = k := by omega
    rw [if_neg this]
    have hadd : (⟨g, o, none⟩ : Addr).add (k * 2) = ⟨g, o + k * 2, none⟩ := by unfold Addr.add; split <;> simp_all
    refine ⟨g, o + k * 2, by rw [Option.map_some, hadd], fun j x hj => ?_⟩
    rw [List.getElem?_drop] at hj
    have := h5 _ _ hj
    rw [show o + k * 2 + j * 2 = o + (k + j) * 2 by omega]
    exact this

def KZ (Z : Zone) (w A B : World) : Prop := ∀ g, Z g → g < w.heap.size → B.heap[g]? = A.heap[g]?
theorem KZ.trans {Z : Zone} {w A B C : World} (h : KZ Z w A B) (k : KZ Z w B C) : KZ Z w A C := fun g h1 h2 => (k g h1 h2).trans (h g h1 h2)
theorem Iter.mono {P : Program} {g : Nat} {lb : Array Value} {α : Type} {encs : α → Array Value} {K : Nat → Prop} {Pre Pre' : World → Prop} {Kp Kp' : World → World → Prop} {Sx Sx' : List α → α → Prop} {S S' Sp Sp' : List α → Prop}
    (h : Iter P g lb encs K Pre Kp Sx S Sp) (h1 : ∀ W, Pre' W → Pre W) (h2 : ∀ A B, Kp' A B → Kp A B) (h3 : ∀ l x, Sx l x → Sx' l x) (h4 : ∀ l, S l → S' l) (h5 : ∀ l, Sp l → Sp' l) : Iter P g lb encs K Pre' Kp' Sx' S' Sp' := by
  intro l J Jx W hp j1 j2 hy h0
  refine (h l J Jx W (h1 W hp) j1 j2 (fun pre x W1 hj hs => (hy pre x W1 hj (h3 _ _ hs)).mono ?_) h0).mono ?_
  · rintro e w (⟨a, b, c⟩ | h)
    · exact .inl ⟨a, b, h2 _ _ c⟩
    · exact .inr h
  · rintro e w ⟨a, (⟨xs, b, c⟩ | ⟨xs, b, c⟩)⟩
    · exact ⟨a, .inl ⟨xs, h4 _ b, c⟩⟩
    · exact ⟨a, .inr ⟨xs, h5 _ b, c⟩⟩
def ItOk (P : Program) (l : List (List DV)) (Z : Zone) (w : World) (v : Value) : Prop := ∃ gf lb, v = .func (.func gf) #[] lb ∧ (∀ args w, (callFunc gf args).run P w = .ok (.enter gf args) w) ∧
  Iter P gf lb (fun vs => vs) (fun _ => True) (fun W => KZ Z w w W) (fun A B => KZ Z w A B) (fun pre vs => ∃ x, l[pre.length]? = some x ∧ Reps (fun g => Z g ∧ g < w.heap.size) w vs x) (fun xs => xs.length = l.length) (fun _ => True)
def itP (P : Program) (l : List (List DV)) : SP where
  p := ItOk P l
  evo := by
    rintro Z Z' w w' v ⟨gf, lb, e, h1, h2⟩ hz
    have lt : ∀ g, Z g → g < w.heap.size → g < w'.heap.size := fun g hg hl => by
      obtain ⟨_, b⟩ := hz g hg hl
      rw [Array.getElem?_eq_getElem hl] at b
      exact (Array.getElem?_eq_some_iff.1 b).1
    refine ⟨gf, lb, e, h1, h2.mono (fun W h g hg hl => ?_) (fun A B h g hg hl => h g (hz g hg hl).1 (lt g hg hl)) (fun pre vs ⟨x, a, b⟩ => ⟨x, a, b.1, fun i y hi => (b.2 i y hi).evo fun g ⟨hg, hl⟩ hl' => ⟨⟨(hz g hg hl).1, lt g hg hl⟩, (hz g hg hl).2⟩⟩) (fun _ h => h) (fun _ h => h)⟩
    rw [h g (hz g hg hl).1 (lt g hg hl)]
    exact (hz g hg hl).2
  one := by
    rintro Z w v ⟨gf, lb, rfl, _⟩
    rfl

def vtOf : Row → Row
  | [] => []
  | (.tmp t, v) :: L => (.vt 0 t, v) :: vtOf L
  | (.vt _ _, _) :: L => vtOf L
  | kv :: L => kv :: vtOf L
def tmOf : Row → Row
  | [] => []
  | (.vt 0 t, v) :: L => (.tmp t, v) :: tmOf L
  | (.vt _ _, _) :: L => tmOf L
  | (.tmp _, _) :: L => tmOf L
  | kv :: L => kv :: tmOf L
theorem lk_vtOf : ∀ (L : Row) (k : Key), lk (vtOf L) k = match k with | .tmp _ => .unk | .vt 0 t => lk L (.tmp t) | .vt _ _ => .unk | k => lk L k
  | [], k => by cases k <;> first | rfl | (rename_i i t; cases i <;> rfl)
  | (.tmp t, v) :: L, k => by
    have ih := lk_vtOf L k
    cases k with
    | vt i t' =>
      cases i with
      | zero =>
        simp only [vtOf, lk, Key.vt.injEq, Key.tmp.injEq, true_and] at ih ⊢
        rw [ih]
      | succ i => simp only [vtOf, lk] at ih ⊢; rw [if_neg (by simp)]; exact ih
    | _ => simp only [vtOf, lk] at ih ⊢; rw [ih]; simp
  | (.vt i t, v) :: L, k => by
    have ih := lk_vtOf L k
    cases k with
    | vt i' t' =>
      cases i' with
      | zero => simp only [vtOf, lk] at ih ⊢; rw [ih]; simp
      | succ i' => simp only [vtOf, lk] at ih ⊢; exact ih
    | _ => simp only [vtOf, lk] at ih ⊢; rw [ih]; try simp
  | (.cell a b, v) :: L, k => by
    have ih := lk_vtOf L k
    cases k with
    | vt i' t' => cases i' <;> (simp only [vtOf, lk] at ih ⊢; rw [ih]; try simp)
    | _ => simp only [vtOf, lk] at ih ⊢; rw [ih]; try simp
  | (.zn a, v) :: L, k => by
    have ih := lk_vtOf L k
    cases k with
    | vt i' t' => cases i' <;> (simp only [vtOf, lk] at ih ⊢; rw [ih]; try simp)
    | _ => simp only [vtOf, lk] at ih ⊢; rw [ih]; try simp
  | (.nm a, v) :: L, k => by
    have ih := lk_vtOf L k
    cases k with
    | vt i' t' => cases i' <;> (simp only [vtOf, lk] at ih ⊢; rw [ih]; try simp)
    | _ => simp only [vtOf, lk] at ih ⊢; rw [ih]; try simp
  | (.sz a, v) :: L, k => by
    have ih := lk_vtOf L k
    cases k with
    | vt i' t' => cases i' <;> (simp only [vtOf, lk] at ih ⊢; rw [ih]; try simp)
    | _ => simp only [vtOf, lk] at ih ⊢; rw [ih]; try simp
  | (.hd a, v) :: L, k => by
    have ih := lk_vtOf L k
    cases k with
    | vt i' t' => cases i' <;> (simp only [vtOf, lk] at ih ⊢; rw [ih]; try simp)
    | _ => simp only [vtOf, lk] at ih ⊢; rw [ih]; try simp
  | (.df, v) :: L, k => by
    have ih := lk_vtOf L k
    cases k with
    | vt i' t' => cases i' <;> (simp only [vtOf, lk] at ih ⊢; rw [ih]; try simp)
    | _ => simp only [vtOf, lk] at ih ⊢; rw [ih]; try simp
theorem lk_tmOf : ∀ (L : Row) (k : Key), lk (tmOf L) k = match k with | .tmp t => lk L (.vt 0 t) | .vt _ _ => .unk | k => lk L k
  | [], k => by cases k <;> rfl
  | (.vt 0 t, v) :: L, k => by
    have ih := lk_tmOf L k
    cases k with
    | tmp t' => simp only [tmOf, lk, Key.vt.injEq, Key.tmp.injEq, true_and] at ih ⊢; rw [ih]
    | _ => simp only [tmOf, lk] at ih ⊢; rw [ih]; try simp
  | (.vt (i + 1) t, v) :: L, k => by
    have ih := lk_tmOf L k
    cases k with
    | tmp t' => simp only [tmOf, lk] at ih ⊢; rw [ih]; simp
    | _ => simp only [tmOf, lk] at ih ⊢; rw [ih]; try simp
  | (.tmp t, v) :: L, k => by
    have ih := lk_tmOf L k
    cases k <;> (simp only [tmOf, lk] at ih ⊢; rw [ih]; try simp)
  | (.cell a b, v) :: L, k => by
    have ih := lk_tmOf L k
    cases k <;> (simp only [tmOf, lk] at ih ⊢; rw [ih]; try simp)
  | (.zn a, v) :: L, k => by
    have ih := lk_tmOf L k
    cases k <;> (simp only [tmOf, lk] at ih ⊢; rw [ih]; try simp)
  | (.nm a, v) :: L, k => by
    have ih := lk_tmOf L k
    cases k <;> (simp only [tmOf, lk] at ih ⊢; rw [ih]; try simp)
  | (.sz a, v) :: L, k => by
    have ih := lk_tmOf L k
    cases k <;> (simp only [tmOf, lk] at ih ⊢; rw [ih]; try simp)
  | (.hd a, v) :: L, k => by
    have ih := lk_tmOf L k
    cases k <;> (simp only [tmOf, lk] at ih ⊢; rw [ih]; try simp)
  | (.df, v) :: L, k => by
    have ih := lk_tmOf L k
    cases k <;> (simp only [tmOf, lk] at ih ⊢; rw [ih]; try simp)
def parRows (zs : List Nat) : List Nat → List DV → Row
  | p :: ps, d :: ds => (.tmp p, .av (atz zs d)) :: parRows zs ps ds
  | _, _ => []
def vtKeys : Row → List Nat
  | [] => []
  | (.vt 0 t, _) :: L => t :: vtKeys L
  | _ :: L => vtKeys L
theorem mem_vtKeys : ∀ {L : Row} {t : Nat}, lk L (.vt 0 t) ≠ .unk → t ∈ vtKeys L
  | [], t, h => absurd rfl h
  | (k, v) :: L, t, h => by
    by_cases e : k = .vt 0 t
    · subst e; simp [vtKeys]
    · simp only [lk, if_neg e] at h
      have := mem_vtKeys h
      unfold vtKeys
      split <;> simp_all
theorem lk_par {zs : List Nat} : ∀ {ps : List Nat} {ds : List DV} {k : Key} {r : Row}, (∀ p ∈ ps, k ≠ .tmp p) → lk (parRows zs ps ds ++ r) k = lk r k
  | [], ds, k, r, h => by cases ds <;> rfl
  | p :: ps, [], k, r, h => rfl
  | p :: ps, d :: ds, k, r, h => by
    simp only [parRows, List.cons_append, lk]
    rw [if_neg (fun e => h p (by simp) e.symm)]
    exact lk_par fun q hq => h q (by simp [hq])
theorem lk_par_at {zs : List Nat} : ∀ {ps : List Nat} {ds : List DV} {t : Nat} {r : Row} {x : AV}, lk (parRows zs ps ds ++ r) (.tmp t) = .av x → (∃ (i : Nat) (d : DV), ps[i]? = some t ∧ ds[i]? = some d ∧ x = atz zs d ∧ ∀ j, j < i → ps[j]? ≠ some t) ∨ lk r (.tmp t) = .av x
  | [], ds, t, r, x, h => by cases ds <;> exact .inr h
  | p :: ps, [], t, r, x, h => .inr h
  | p :: ps, d :: ds, t, r, x, h => by
    simp only [parRows, List.cons_append, lk, Key.tmp.injEq] at h
    by_cases e : p = t
    · subst e
      rw [if_pos rfl] at h
      simp only [KV.av.injEq] at h
      exact .inl ⟨0, d, rfl, rfl, h.symm, fun j hj => by omega⟩
    · rw [if_neg e] at h
      rcases lk_par_at h with ⟨i, d', h1, h2, h3, h4⟩ | h
      · refine .inl ⟨i + 1, d', by simpa using h1, by simpa using h2, h3, fun j hj => ?_⟩
        cases j with
        | zero => simp; exact e
        | succ j => simpa using h4 j (by omega)
      · exact .inr h
section
variable {P : Program} {C C1 C2 : Cx} {G : Gh} {σ σ' : St} {a a' : Act} {w w' : World}
theorem ASG.rebase (h : ASG C1 G σ a w) (hW : C2.W0 = w) (hN : C2.N = C1.N) (hpv : ∀ i t x, σ (.vt i t) = .av x → Rep G σ w (C2.pv i t) x) (hz : ∀ z ∈ C2.pz, Lv σ z → ∀ g, G.ζ z g ↔ C2.Zp z g) (hB1 : ∀ n, Nm σ n → ¬ C2.B (G.ρ n))
    (hB2 : ∀ z g, z ∉ C2.pz → Lv σ z → G.ζ z g → ¬ C2.B g ∧ Soft w g) (hdf : σ .df = .df 0) (hob : C2.ob = []) : ASG C2 G σ a w := by
  obtain ⟨k, d1, d2⟩ := h.df
  rw [hdf] at d1; cases d1
  exact ⟨by rw [hW]; exact Keeps.refl _ _, ⟨0, hdf, d2.eq, fun i hi => by omega, fun i j hi => by omega⟩, by rw [hN]; exact h.sz, h.tmp, hpv, h.cell, fun n hn => ⟨hB1 n hn, (h.nm n hn).2⟩, h.inj, h.sep, hB2, h.disj, h.hd, hz, by rw [hob]; simp, h.sf⟩
theorem ASG.react (h : ASG C G σ a w) (hk : ∀ key, (∀ t, key ≠ .tmp t) → σ' key = σ key) (hs : a'.tmps.size = C.N) (hd : a'.defers = a.defers) (ht : ∀ t x, σ' (.tmp t) = .av x → ∃ v, a'.tmps[t]? = some v ∧ Rep G σ w v x) : ASG C G σ' a' w := by
  have lv : ∀ z, Lv σ' z ↔ Lv σ z := fun z => by unfold Lv; rw [hk _ (by simp)]
  have nm : ∀ z, Nm σ' z ↔ Nm σ z := fun z => by unfold Nm; rw [hk _ (by simp)]
  have ev : Evo G G σ σ' w w := by
    refine ⟨fun z h => ?_, fun z h => ?_, fun m hm => ⟨(nm m).2 hm, rfl⟩, fun z _ hl => ⟨(lv z).1 hl, rfl, fun _ _ => rfl⟩, fun z _ hl => ⟨?_, rfl⟩⟩
    · unfold Uz; rw [hk _ (by simp)]; exact h
    · unfold Uh; rw [hk _ (by simp)]; exact h
    · unfold Lh at hl ⊢; rw [hk _ (by simp)] at hl; exact hl
  obtain ⟨k, d1, d2⟩ := h.df
  refine ⟨h.fr, ⟨k, (hk _ (by simp)).trans d1, hd.trans d2.eq, fun i hi => ⟨(d2.ok i hi).obj, (d2.ok i hi).nb, fun q hq => (d2.ok i hi).nn q ((nm q).1 hq), fun z hz => (d2.ok i hi).nz z ((lv z).1 hz)⟩, d2.inj⟩, hs, fun t x e => ?_, fun i t x e => ?_, fun n j x e => ?_, fun n hn => h.nm n ((nm n).1 hn), fun n m hn hm => h.inj n m ((nm n).1 hn) ((nm m).1 hm),
    fun z g hl hg => ?_, fun z g h0 hl hg => h.new z g h0 ((lv z).1 hl) hg, fun y z g hne hy hz => h.disj y z g hne ((lv y).1 hy) ((lv z).1 hz), fun h' E sz y zs rows e => ?_, fun z hz hl => h.zz z hz ((lv z).1 hl), fun p hp => ⟨(h.ob p hp).obj, (h.ob p hp).nb, fun n hn => (h.ob p hp).nn n ((nm n).1 hn), fun z hz => (h.ob p hp).nz z ((lv z).1 hz)⟩, fun n hn => (h.sf n ((nm n).1 hn)).of_ko (hk _ (by simp))⟩
  · obtain ⟨v, h1, h2⟩ := ht t x e
    exact ⟨v, h1, h2.evo ev⟩
  · rw [hk _ (by simp)] at e; exact (h.vt i t x e).evo ev
  · rw [hk _ (by simp)] at e
    obtain ⟨h1, v, h2, h3, h4⟩ := h.cell n j x e
    exact ⟨(nm n).2 h1, v, h2, h3, h4.evo ev⟩
  · obtain ⟨h1, h2⟩ := h.sep z g ((lv z).1 hl) hg
    exact ⟨h1, fun n hn => h2 n ((nm n).1 hn)⟩
  · rw [hk _ (by simp)] at e
    exact (h.hd h' E sz y zs rows e).evo ev rfl
theorem wpIn_n {c : Code} {Q : Exit → Act → World → Prop} {r : Option Nat} {n m : Nat} (h : c.wpIn (Fr r) n P Q a w) : c.wpIn (Fr r) m P Q a w := fun b k cs h1 h2 _ => h b k cs h1 h2 (fun d hd => by cases hd)
theorem size_params (ps : List Nat) : ∀ (vs : List Value) (tm : Array Value), ((ps.zip vs).foldl (fun t (p, v) => t.setIfInBounds p v) tm).size = tm.size := by
  induction ps with
  | nil => intro vs tm; rfl
  | cons p ps ih =>
    intro vs tm
    cases vs with
    | nil => rfl
    | cons v vs => simp only [List.zip_cons_cons, List.foldl_cons]; rw [ih]; simp
theorem get_params {t : Nat} : ∀ (ps : List Nat) (vs : List Value) (tm : Array Value), t ∉ ps → ((ps.zip vs).foldl (fun t (p, v) => t.setIfInBounds p v) tm)[t]? = tm[t]?
  | [], vs, tm, h => rfl
  | p :: ps, [], tm, h => rfl
  | p :: ps, v :: vs, tm, h => by
    simp only [List.zip_cons_cons, List.foldl_cons]
    rw [get_params ps vs _ (fun h' => h (by simp [h'])), Array.getElem?_setIfInBounds_ne (fun e => h (by simp [e]))]
theorem at_params {t : Nat} : ∀ (ps : List Nat) (vs : List Value) (tm : Array Value) (i : Nat) (v : Value), ps.Nodup → ps[i]? = some t → vs[i]? = some v → t < tm.size → ((ps.zip vs).foldl (fun t (p, v) => t.setIfInBounds p v) tm)[t]? = some v
  | [], vs, tm, i, v, _, h, _, _ => by simp at h
  | p :: ps, [], tm, i, v, _, _, h, _ => by simp at h
  | p :: ps, u :: vs, tm, i, v, nd, h1, h2, hs => by
    simp only [List.zip_cons_cons, List.foldl_cons]
    rw [List.nodup_cons] at nd
    cases i with
    | zero =>
      simp at h1 h2
      subst h1; subst h2
      rw [get_params ps vs _ nd.1]
      simp [hs]
    | succ i => exact at_params ps vs _ i v nd.2 (by simpa using h1) (by simpa using h2) (by simpa using hs)
end

theorem range_wide2 {P : Program} {α : Type} {g : Operand} {ps : Array Tmp} {assign body : Code} {Q : Exit → Act → World → Prop} {a : Act} {w : World}
    {gf : Nat} {lb : Array Value} (hg : a.eval g = .func (.func gf) #[] lb) (eg : ∀ args w, (callFunc gf args).run P w = .ok (.enter gf args) w)
    {encs : α → Array Value} {K : Nat → Prop} {Pre : World → Prop} {Kp : World → World → Prop} {Sx : List α → α → Prop} {S Sp : List α → Prop}
    (hseq : Iter P gf lb encs K Pre Kp Sx S Sp) (hPre : ∀ W, Below w.heap.size w W → Pre W) (hK : K w.heap.size ∧ K (w.heap.size + 1))
    (hKt : ∀ {A B C : World}, Kp A B → Kp B C → Kp A C) (hKb : ∀ (W : World) (o : Obj), Kp W (W.putObj (w.heap.size + 1) o)) (hps : ∀ pre x, Sx pre x → (encs x).size = ps.size)
    (I : List α → World → Prop) (Ix : Code → List α → World → Prop) (Ia : List α → α → Act → World → Prop)
    (hI : ∀ pre W W', I pre W → Keeps (fun k => K k ∧ k ≠ w.heap.size ∧ k ≠ w.heap.size + 1) W W' → I pre W')
    (hIx : ∀ c pre W W', Ix c pre W → Keeps (fun k => K k ∧ k ≠ w.heap.size ∧ k ≠ w.heap.size + 1) W W' → Ix c pre W')
    (hIa : ∀ pre x a W W', Ia pre x a W → Keeps (fun k => K k ∧ k ≠ w.heap.size ∧ k ≠ w.heap.size + 1) W W' → Ia pre x a W')
    (h0 : I [] w)
    (hassign : ∀ (l : Nat) (pre : List α) (x : α) (W : World), I pre W → Sx pre x → w.heap.size + 2 ≤ W.heap.size →
      assign.wpIn (Fence.wide.inRound l) 8 P (Exit.then (fun a₁ W' => KeepsAt w.heap.size W W' ∧ Kp W W' ∧ W.heap.size ≤ W'.heap.size ∧ Ia pre x a₁ W') (fun _ _ _ => False)) { tmps := (ps.zip (encs x)).foldl (fun t (p, v) => t.setIfInBounds p v) a.tmps, defers := [] } W)
    (hbody : ∀ (l : Nat) (pre : List α) (x : α) (a₁ : Act) (W : World), Ia pre x a₁ W → Sx pre x → w.heap.size + 2 ≤ W.heap.size →
      body.wpIn (Fence.wide.inRound l) 8 P (roundEnd w.heap.size Kp I Ix (pre ++ [x]) W) a₁ W)
    (hdone : ∀ (xs : List α) (W : World), S xs → I xs W → W.heap[w.heap.size]? = some (.deferred (some [])) → Q .normal { a with defers := { target := .collected w.heap.size, args := #[] } :: a.defers } W)
    (hstop : ∀ (c : Code) (pre : List α) (W : World), Sp pre → Ix c pre W → W.heap[w.heap.size]? = some (.deferred (some [])) → c.wpIn Fence.wide 10 P Q { a with defers := { target := .collected w.heap.size, args := #[] } :: a.defers } W) :
    (Code.rangeFunc g ps assign body).wpIn Fence.wide 10 P Q a w := by
  refine wpIn_rangeFunc ?_
  intro fn hfn
  obtain ⟨rec, hrec⟩ : ∃ rec : LoopState → Option Code → Loop, rec = fun st pe => { state := st, pending := pe, fn, tmps := a.tmps, params := ps, assign, body, defers := w.heap.size } := ⟨_, rfl⟩
  obtain ⟨W1, hW1⟩ : ∃ W1, (w.alloc (.deferred (some []))).alloc (.loop (rec .ready none)) = W1 := ⟨_, rfl⟩
  have hL1 : W1.heap[w.heap.size + 1]? = some (.loop (rec .ready none)) := by
    rw [← hW1]; have := World.alloc_heap_new (w.alloc (.deferred (some []))) (.loop (rec .ready none)); rwa [World.size_alloc] at this
  have hK1 : W1.heap[w.heap.size]? = some (.deferred (some [])) := by
    rw [← hW1]; exact (Below.heap_alloc _ _ _ (by simp)).trans (World.alloc_heap_new w _)
  have hI1 : I [] W1 := by
    rw [← hW1]; exact hI _ _ _ h0 (((Keeps.refl _ w).alloc _).alloc _)
  have hb1 : Below w.heap.size w W1 := by
    rw [← hW1]; exact ((Below.refl _ w).alloc (Nat.le_refl _) _).alloc (by simp) _
  have lt_of : ∀ {W : World} {k : Nat} {o : Obj}, W.heap[k]? = some o → k < W.heap.size := fun h => (Array.getElem?_eq_some_iff.1 h).1
  have kpu : ∀ (W : World) (o : Obj), Keeps (fun k => K k ∧ k ≠ w.heap.size ∧ k ≠ w.heap.size + 1) W (W.putObj (w.heap.size + 1) o) := fun W o => putObj_keeps W _ o (by simp)
  refine ⟨w.heap.size + 1, [{ target := .collected w.heap.size, args := #[] }], W1, { target := .fn (.func gf) lb, args := #[.func (.yield (w.heap.size + 1)) #[] #[]] }, W1, gf,
    #[.func (.yield (w.heap.size + 1)) #[] #[]] ++ lb, W1, ?_, ?_, ?_, ?_, fun _ => by omega, ?_⟩
  · rw [← hW1, hrec]; exact run_enterLoop_outer _ _ _ _ _
  · simp only [resolve, hg]
    simp [go_sem]
  · intro f' _; trivial
  · simp [invoke, go_sem, eg]
  refine (hseq (w.heap.size + 1)
    (fun pre W => I pre W ∧ W.heap[w.heap.size + 1]? = some (.loop (rec .ready none)) ∧ W.heap[w.heap.size]? = some (.deferred (some [])))
    (fun pre W => ∃ c, Ix c pre W ∧ W.heap[w.heap.size + 1]? = some (.loop (rec .done (some c))) ∧ W.heap[w.heap.size]? = some (.deferred (some [])))
    W1 (hPre _ hb1)
    (fun pre W W' hs hk => ⟨hI _ _ _ hs.1 ⟨hk.os, hk.tape, hk.output, hk.size, fun k h1 h2 => hk.block k h1 h2.1⟩, (hk.block _ (lt_of hs.2.1) hK.2).trans hs.2.1, (hk.block _ (lt_of hs.2.2) hK.1).trans hs.2.2⟩)
    (fun pre W W' hs hk => by
      obtain ⟨c, hc, hl, hd⟩ := hs
      exact ⟨c, hIx _ _ _ _ hc ⟨hk.os, hk.tape, hk.output, hk.size, fun k h1 h2 => hk.block k h1 h2.1⟩, (hk.block _ (lt_of hl) hK.2).trans hl, (hk.block _ (lt_of hd) hK.1).trans hd⟩)
    ?_ ⟨hI1, hL1, hK1⟩).mono ?_
  · rintro pre x W ⟨hi, hl, hd⟩ hx
    have hlt := lt_of hl
    have hy := run_yield (P := P) (args := encs x) hl (by rw [hrec]; exact hps _ x hx)
    rw [hrec] at hy
    refine ⟨fn, _, assign, body, hy, roundIn_of_wpIn hfn (wpIn_mono (hassign _ pre x W hi hx hlt) ?_)⟩
    intro e a₁ W2 hp
    cases e with
    | normal =>
      obtain ⟨hk2, hkp2, hsz, hia⟩ := hp
      have hl2 := hk2.2.trans hl
      have hd2 := hk2.1.trans hd
      refine ⟨_, run_beginRound hl2 (by rw [hrec]), ?_⟩
      have hl3 : (W2.putObj (w.heap.size + 1) (.loop { rec .ready none with state := .busy })).heap[w.heap.size + 1]? = some (.loop { rec .ready none with state := .busy }) := World.putObj_heap_same (lt_of hl2)
      have hd3 : (W2.putObj (w.heap.size + 1) (.loop { rec .ready none with state := .busy })).heap[w.heap.size]? = some (.deferred (some [])) := (World.putObj_heap_other (by omega)).trans hd2
      refine wpIn_mono (hbody _ pre x _ _ (hIa _ _ _ _ _ hia (kpu _ _)) hx (by simp; omega)) ?_
      have fin : ∀ (jump : Option Code) (W4 : World), KeepsAt w.heap.size (W2.putObj (w.heap.size + 1) (.loop { rec .ready none with state := .busy })) W4 →
          (Instr.endRound (w.heap.size + 1) jump).run P W4 = .ok (.bool jump.isNone) (W4.putObj (w.heap.size + 1) (.loop (rec (if jump.isNone then .ready else .done) jump))) ∧
          (W4.putObj (w.heap.size + 1) (.loop (rec (if jump.isNone then .ready else .done) jump))).heap[w.heap.size + 1]? = some (.loop (rec (if jump.isNone then .ready else .done) jump)) ∧
          (W4.putObj (w.heap.size + 1) (.loop (rec (if jump.isNone then .ready else .done) jump))).heap[w.heap.size]? = some (.deferred (some [])) := fun jump W4 hk4 => by
        have hl4 := hk4.2.trans hl3
        have := run_endRound (P := P) jump hl4
        rw [hrec] at this ⊢
        exact ⟨this, World.putObj_heap_same (lt_of hl4), (World.putObj_heap_other (by omega)).trans (hk4.1.trans hd3)⟩
      rintro e a3 W3 hp
      cases e with
      | normal =>
        obtain ⟨hk3, hkp3, hi3⟩ := hp
        obtain ⟨hr, hl4, hd4⟩ := fin none W3 hk3
        exact ⟨_, _, hr, .inl ⟨rfl, ⟨hI _ _ _ hi3 (kpu _ _), hl4, hd4⟩, hKt hkp2 (hKt (hKb _ _) (hKt hkp3 (hKb _ _)))⟩⟩
      | ret =>
        obtain ⟨hk3, hi3⟩ := hp
        obtain ⟨hr, hl4, hd4⟩ := fin (some .ret) W3 hk3
        exact ⟨_, _, hr, .inr ⟨rfl, .ret, hIx _ _ _ _ hi3 (kpu _ _), hl4, hd4⟩⟩
      | exit id =>
        obtain ⟨hk3, hi3⟩ := hp
        obtain ⟨hr, hl4, hd4⟩ := fin (some (.exit id)) W3 hk3
        exact ⟨_, _, hr, .inr ⟨rfl, .exit id, hIx _ _ _ _ hi3 (kpu _ _), hl4, hd4⟩⟩
      | goto t =>
        obtain ⟨hk3, hi3⟩ := hp
        obtain ⟨hr, hl4, hd4⟩ := fin (some (.goto t)) W3 hk3
        exact ⟨_, _, hr, .inr ⟨rfl, .goto t, hIx _ _ _ _ hi3 (kpu _ _), hl4, hd4⟩⟩
      | panic ch => exact hp.elim
      | outgrown => exact hp.elim
    | ret => exact hp.elim
    | exit id => exact hp.elim
    | goto t => exact hp.elim
    | panic ch => exact hp.elim
    | outgrown => exact hp.elim
  · rintro e W2 ⟨⟨v, rfl⟩, (⟨xs, hS, hi, hl, hd⟩ | ⟨pre, hSp, c, hi, hl, hd⟩)⟩
    · exact ⟨none, _, by have := run_endLoop (P := P) hl (by rw [hrec]; simp); rw [hrec] at this; exact this, hdone xs _ hS (hI _ _ _ hi (kpu _ _)) ((World.putObj_heap_other (by omega)).trans hd)⟩
    · exact ⟨some c, _, by have := run_endLoop (P := P) hl (by rw [hrec]; simp); rw [hrec] at this; exact this, hstop c pre _ hSp (hIx _ _ _ _ hi (kpu _ _)) ((World.putObj_heap_other (by omega)).trans hd)⟩

def tmB : Row → Row
  | [] => []
  | (.vt 0 t, v) :: L => (.tmp t, v) :: (.vt 0 t, v) :: tmB L
  | kv :: L => kv :: tmB L
def noT : Row → Bool
  | [] => true
  | (.tmp _, _) :: _ => false
  | _ :: L => noT L
theorem noT_lk : ∀ {L : Row}, noT L = true → ∀ t, lk L (.tmp t) = .unk
  | [], _, _ => rfl
  | (k, v) :: L, h, t => by
    cases k <;> first | (simp [noT] at h; done) | (simp only [noT] at h; simp only [lk]; rw [if_neg (by simp)]; exact noT_lk h t)
theorem lk_tmB : ∀ {L : Row}, noT L = true → ∀ k : Key, lk (tmB L) k = match k with | .tmp t => lk L (.vt 0 t) | k => lk L k
  | [], _, k => by cases k <;> rfl
  | (.vt 0 t, v) :: L, h, k => by
    have ih := lk_tmB (L := L) h k
    cases k with
    | tmp t' => simp only [tmB, lk, Key.vt.injEq, Key.tmp.injEq, true_and] at ih ⊢; rw [ih]; simp
    | vt i t' => simp only [tmB, lk] at ih ⊢; rw [ih]; simp
    | _ => simp only [tmB, lk] at ih ⊢; rw [ih]; simp
  | (.vt (i + 1) t, v) :: L, h, k => by
    have ih := lk_tmB (L := L) h k
    cases k with
    | tmp t' => simp only [tmB, lk] at ih ⊢; rw [ih]; simp
    | _ => simp only [tmB, lk] at ih ⊢; rw [ih]
  | (.tmp t, v) :: L, h, k => by simp [noT] at h
  | (.cell a b, v) :: L, h, k => by
    have ih := lk_tmB (L := L) h k
    cases k <;> (simp only [tmB, lk] at ih ⊢; rw [ih]; try simp)
  | (.zn a, v) :: L, h, k => by
    have ih := lk_tmB (L := L) h k
    cases k <;> (simp only [tmB, lk] at ih ⊢; rw [ih]; try simp)
  | (.nm a, v) :: L, h, k => by
    have ih := lk_tmB (L := L) h k
    cases k <;> (simp only [tmB, lk] at ih ⊢; rw [ih]; try simp)
  | (.sz a, v) :: L, h, k => by
    have ih := lk_tmB (L := L) h k
    cases k <;> (simp only [tmB, lk] at ih ⊢; rw [ih]; try simp)
  | (.hd a, v) :: L, h, k => by
    have ih := lk_tmB (L := L) h k
    cases k <;> (simp only [tmB, lk] at ih ⊢; rw [ih]; try simp)
  | (.df, v) :: L, h, k => by
    have ih := lk_tmB (L := L) h k
    cases k <;> (simp only [tmB, lk] at ih ⊢; rw [ih]; try simp)
def liveB : KV → Bool
  | .zn .live => true
  | _ => false
theorem liveB_ok {k : KV} (h : liveB k = true) : k = .zn .live := by
  unfold liveB at h
  split at h
  · rfl
  · cases h
def df0B : KV → Bool
  | .df 0 => true
  | _ => false
theorem df0B_ok {k : KV} (h : df0B k = true) : k = .df 0 := by
  unfold df0B at h
  split at h
  · rfl
  · cases h
def okM (N : Nat) (ps zs : List Nat) (L : Row) : Bool := noT L && ((vtKeys L).all fun t => decide (t < N) && !ps.contains t) && (zs.all fun z => liveB (lk L (.zn z))) && df0B (lk L .df)
structure OkM (N : Nat) (ps zs : List Nat) (L : Row) : Prop where
  nt : noT L = true
  vt : ∀ t, lk L (.vt 0 t) ≠ .unk → t < N ∧ t ∉ ps
  lv : ∀ z ∈ zs, Lv (lk L) z
  df : lk L .df = .df 0
theorem okM_ok {N : Nat} {ps zs : List Nat} {L : Row} (h : okM N ps zs L = true) : OkM N ps zs L := by
  unfold okM at h
  simp only [Bool.and_eq_true, List.all_eq_true] at h
  obtain ⟨⟨⟨h1, h2⟩, h3⟩, h4⟩ := h
  refine ⟨h1, fun t ht => ?_, fun z hz => liveB_ok (h3 z hz), df0B_ok h4⟩
  have := h2 t (mem_vtKeys ht)
  simpa using this
def ctxR (C : Cx) (G0 : Gh) (zs : List Nat) (D : Nat) (a : Act) (W : World) : Cx where
  W0 := W
  B := fun g => g < W.heap.size ∧ (C.B g ∨ G0.zu zs g ∨ g = D ∨ g = D + 1)
  N := C.N
  pv := fun _ t => a.tmps.getD t undef
  pz := C.pz ++ zs
  Zp := fun z g => (if z ∈ zs then G0.ζ z g else C.Zp z g) ∧ g < D
  ob := []
  hB := fun _ h => h.1
def RB (C : Cx) (M : Nat → Row) (Mx : Code → Nat → Option Row) (k : Nat) : Exit → Act → World → Prop
  | .normal, a, w => AS C (lk (M (k + 1))) a w
  | .ret, a, w => ∃ L, Mx .ret k = some L ∧ AS C (lk L) a w
  | .exit i, a, w => ∃ L, Mx (.exit i) k = some L ∧ AS C (lk L) a w
  | _, _, _ => False
def RN (C : Cx) (L1 : Row) : Exit → Act → World → Prop := fun e a w => e = .normal ∧ AS C (lk L1) a w
section
variable {P : Program} {C : Cx} {G0 G : Gh} {σ : St} {a a1 : Act} {w W W1 W2 : World} {zs : List Nat}
theorem ASG.mv (h : ASG (ctxR C G0 zs w.heap.size a W) G σ a1 W1) (hdf : σ .df = .df 0) (hC : C.W0.heap.size ≤ w.heap.size) (hZ : ∀ g, G0.zu zs g → g < w.heap.size) (hW : w.heap.size ≤ W.heap.size)
    (hD : ∀ g, g < W1.heap.size → (g = w.heap.size ∨ g = w.heap.size + 1) → g < W.heap.size) (hk : Keeps (fun k => k ≠ w.heap.size ∧ k ≠ w.heap.size + 1) W1 W2) : ASG (ctxR C G0 zs w.heap.size a W2) G σ a1 W2 := by
  have hs := hk.size
  have cB : ∀ g, C.B g → g < w.heap.size := fun g hg => Nat.lt_of_lt_of_le (C.hB g hg) hC
  have hn : ∀ n, Nm σ n → ¬ C.B (G.ρ n) ∧ ¬ G0.zu zs (G.ρ n) ∧ G.ρ n ≠ w.heap.size ∧ G.ρ n ≠ w.heap.size + 1 := fun n hn => by
    obtain ⟨q1, q2⟩ := h.nm n hn
    refine ⟨fun e => q1 ⟨by have := cB _ e; omega, .inl e⟩, fun e => q1 ⟨by have := hZ _ e; omega, .inr (.inl e)⟩, fun e => q1 ⟨hD _ q2 (.inl e), .inr (.inr (.inl e))⟩, fun e => q1 ⟨hD _ q2 (.inr e), .inr (.inr (.inr e))⟩⟩
  have hz : ∀ z g, z ∉ C.pz ++ zs → Lv σ z → G.ζ z g → ¬ C.B g ∧ ¬ G0.zu zs g ∧ g ≠ w.heap.size ∧ g ≠ w.heap.size + 1 := fun z g h0 hl hg => by
    have q2 := (h.sep z g hl hg).1
    have q1 := (h.new z g h0 hl hg).1
    refine ⟨fun e => q1 ⟨by have := cB _ e; omega, .inl e⟩, fun e => q1 ⟨by have := hZ _ e; omega, .inr (.inl e)⟩, fun e => q1 ⟨hD _ q2 (.inl e), .inr (.inr (.inl e))⟩, fun e => q1 ⟨hD _ q2 (.inr e), .inr (.inr (.inr e))⟩⟩
  have hp : ∀ z g, z ∈ C.pz ++ zs → Lv σ z → G.ζ z g → g < w.heap.size := fun z g h0 hl hg => ((h.zz z h0 hl g).1 hg).2
  have hB2 : ∀ g, ¬ C.B g ∧ ¬ G0.zu zs g → ¬ (g < W1.heap.size ∧ (C.B g ∨ G0.zu zs g)) := fun g q e => e.2.elim q.1 q.2
  have h1 : ASG { ctxR C G0 zs w.heap.size a W with W0 := W1, B := fun g => g < W1.heap.size ∧ (C.B g ∨ G0.zu zs g), hB := fun _ h => h.1 } G σ a1 W1 :=
    h.rebase rfl rfl (fun i t x e => h.vt i t x e) (fun z h0 hl g => h.zz z h0 hl g) (fun n q => hB2 _ ⟨(hn n q).1, (hn n q).2.1⟩) (fun z g h0 hl hg => ⟨hB2 _ ⟨(hz z g h0 hl hg).1, (hz z g h0 hl hg).2.1⟩, (h.new z g h0 hl hg).2⟩) hdf rfl
  have h2 := (h1.step hk (fun g hg => by
      have : g < w.heap.size := hg.2.elim (cB g) (hZ g)
      constructor <;> omega)
    (fun n q => ⟨(hn n q).2.2.1, (hn n q).2.2.2⟩)
    (fun z g hl hg => by
      by_cases h0 : z ∈ C.pz ++ zs
      · have := hp z g h0 hl hg
        constructor <;> omega
      · exact ⟨(hz z g h0 hl hg).2.2.1, (hz z g h0 hl hg).2.2.2⟩)
    (fun k i e hi => by rw [hdf] at e; cases e; omega) (fun p q => by cases q)).1
  exact h2.rebase rfl rfl (fun i t x e => h2.vt i t x e) (fun z h0 hl g => h2.zz z h0 hl g)
    (fun n q e => by
      obtain ⟨a1, a2, a3, a4⟩ := hn n q
      rcases e.2 with e | e | e | e <;> contradiction)
    (fun z g h0 hl hg => ⟨fun e => by
      obtain ⟨a1, a2, a3, a4⟩ := hz z g h0 hl hg
      rcases e.2 with e | e | e | e <;> contradiction, (h2.new z g h0 hl hg).2⟩) hdf rfl
theorem ASG.toR {L : Row} (h : ASG C G0 (lk L) a w) (hlv : ∀ z ∈ zs, Lv (lk L) z) (hdf : lk L .df = .df 0) : ASG (ctxR C G0 zs w.heap.size a w) G0 (lk (vtOf L)) { tmps := a.tmps, defers := [] } w := by
  have ke : ∀ key, (∀ t, key ≠ .tmp t) → (∀ i t, key ≠ .vt i t) → lk (vtOf L) key = lk L key := fun key k1 k2 => by
    rw [lk_vtOf]
    cases key <;> first | (exact absurd rfl (k1 _)) | (exact absurd rfl (k2 _ _)) | rfl
  have lv : ∀ z, Lv (lk (vtOf L)) z ↔ Lv (lk L) z := fun z => by unfold Lv; rw [ke _ (by simp) (by simp)]
  have nm : ∀ z, Nm (lk (vtOf L)) z ↔ Nm (lk L) z := fun z => by unfold Nm; rw [ke _ (by simp) (by simp)]
  have ev : Evo G0 G0 (lk L) (lk (vtOf L)) w w := by
    refine ⟨fun z h => ?_, fun z h => ?_, fun m hm => ⟨(nm m).2 hm, rfl⟩, fun z _ hl => ⟨(lv z).1 hl, rfl, fun _ _ => rfl⟩, fun z _ hl => ⟨?_, rfl⟩⟩
    · unfold Uz; rw [ke _ (by simp) (by simp)]; exact h
    · unfold Uh; rw [ke _ (by simp) (by simp)]; exact h
    · unfold Lh at hl ⊢; rw [ke _ (by simp) (by simp)] at hl; exact hl
  have hC : C.W0.heap.size ≤ w.heap.size := h.fr.size
  have cB : ∀ g, C.B g → g < w.heap.size := fun g hg => Nat.lt_of_lt_of_le (C.hB g hg) hC
  have zu : ∀ g, G0.zu zs g → g < w.heap.size := fun g ⟨z, hz, hg⟩ => (h.sep z g (hlv z hz) hg).1
  refine ⟨Keeps.refl _ _, ⟨0, ?_, rfl, fun i hi => by omega, fun i j hi => by omega⟩, h.sz, fun t x e => ?_, fun i t x e => ?_, fun n j x e => ?_, fun n hn => ⟨fun e => ?_, (h.nm n ((nm n).1 hn)).2⟩, fun n m hn hm => h.inj n m ((nm n).1 hn) ((nm m).1 hm),
    fun z g hl hg => ?_, fun z g h0 hl hg => ?_, fun y z g hne hy hz => h.disj y z g hne ((lv y).1 hy) ((lv z).1 hz), fun h' E sz y zs rows e => ?_, fun z hz hl g => ?_, fun p hp => by simp [ctxR] at hp, fun n hn => (h.sf n ((nm n).1 hn)).of_ko (ke _ (by simp) (by simp))⟩
  · rw [ke _ (by simp) (by simp)]; exact hdf
  · rw [lk_vtOf] at e; cases e
  · rw [lk_vtOf] at e
    cases i with
    | zero =>
      obtain ⟨v, h1, h2⟩ := h.tmp t x e
      have : (ctxR C G0 zs w.heap.size a w).pv 0 t = v := by simp [ctxR, Array.getD_eq_getD_getElem?, h1]
      rw [this]; exact h2.evo ev
    | succ i => cases e
  · rw [ke _ (by simp) (by simp)] at e
    obtain ⟨h1, v, h2, h3, h4⟩ := h.cell n j x e
    exact ⟨(nm n).2 h1, v, h2, h3, h4.evo ev⟩
  · have hn' := (nm n).1 hn
    have hlt := (h.nm n hn').2
    rcases e.2 with e | ⟨z, hz, hg⟩ | e | e
    · exact (h.nm n hn').1 e
    · exact (h.sep z _ (hlv z hz) hg).2 n hn' rfl
    · omega
    · omega
  · obtain ⟨h1, h2⟩ := h.sep z g ((lv z).1 hl) hg
    exact ⟨h1, fun n hn => h2 n ((nm n).1 hn)⟩
  · have hl' := (lv z).1 hl
    have h0' : z ∉ C.pz ∧ z ∉ zs := by simpa [ctxR] using h0
    obtain ⟨h1, h2⟩ := h.new z g h0'.1 hl' hg
    refine ⟨fun e => ?_, h2⟩
    have hlt := (h.sep z g hl' hg).1
    rcases e.2 with e | ⟨y, hy, hg'⟩ | e | e
    · exact h1 e
    · exact h.disj y z g (fun e => h0'.2 (e ▸ hy)) (hlv y hy) hl' hg' hg
    · omega
    · omega
  · rw [ke _ (by simp) (by simp)] at e
    exact (h.hd h' E sz y zs rows e).evo ev rfl
  · have hl' := (lv z).1 hl
    show _ ↔ (if z ∈ zs then G0.ζ z g else C.Zp z g) ∧ g < w.heap.size
    by_cases hz' : z ∈ zs
    · rw [if_pos hz']
      exact ⟨fun hg => ⟨hg, (h.sep z g hl' hg).1⟩, fun hg => hg.1⟩
    · rw [if_neg hz']
      have hzp : z ∈ C.pz := by simpa [ctxR, hz'] using hz
      exact ⟨fun hg => ⟨(h.zz z hzp hl' g).1 hg, (h.sep z g hl' hg).1⟩, fun hg => (h.zz z hzp hl' g).2 hg.1⟩
theorem ASG.back {L L' : Row} {ps : List Nat} (h0 : ASG C G0 (lk L) a w) (hdf : lk L .df = .df 0) (hlv : ∀ z ∈ zs, Lv (lk L) z) (hZp : ∀ z g, C.Zp z g → g < C.W0.heap.size) (hO : C.ob = []) (hm : OkM C.N ps zs L')
    (hk : Keeps C.B C.W0 W)  (kz : KZ (G0.zu zs) w w W) (hd : W.heap[w.heap.size]? = some (.deferred (some [])))
    (h : ASG (ctxR C G0 zs w.heap.size a W) G (lk L') { tmps := a.tmps, defers := [] } W) : AS C (lk ((.df, .df 1) :: tmOf L')) { a with defers := { target := .collected w.heap.size, args := #[] } :: a.defers } W := by
  have hC : C.W0.heap.size ≤ w.heap.size := h0.fr.size
  have cB : ∀ g, C.B g → g < w.heap.size := fun g hg => Nat.lt_of_lt_of_le (C.hB g hg) hC
  obtain ⟨L2, hL2⟩ : ∃ L2, L2 = (.df, .df 1) :: tmOf L' := ⟨_, rfl⟩
  rw [← hL2]
  have ke : ∀ key, (∀ t, key ≠ .tmp t) → (∀ i t, key ≠ .vt i t) → key ≠ .df → lk L2 key = lk L' key := fun key k1 k2 k3 => by
    rw [hL2]
    simp only [lk]
    rw [if_neg (fun e => k3 e.symm), lk_tmOf]
    cases key <;> first | (exact absurd rfl (k1 _)) | (exact absurd rfl (k2 _ _)) | rfl
  have ket : ∀ t, lk L2 (.tmp t) = lk L' (.vt 0 t) := fun t => by rw [hL2]; simp only [lk]; rw [if_neg (by simp), lk_tmOf]
  have kev : ∀ i t, lk L2 (.vt i t) = .unk := fun i t => by rw [hL2]; simp only [lk]; rw [if_neg (by simp), lk_tmOf]
  have ked : lk L2 .df = .df 1 := by rw [hL2]; simp [lk]
  have lv : ∀ z, Lv (lk L2) z ↔ Lv (lk L') z := fun z => by unfold Lv; rw [ke _ (by simp) (by simp) (by simp)]
  have nm : ∀ z, Nm (lk L2) z ↔ Nm (lk L') z := fun z => by unfold Nm; rw [ke _ (by simp) (by simp) (by simp)]
  have ev : Evo G { G with δ := fun _ => w.heap.size } (lk L') (lk L2) W W := by
    refine ⟨fun z h => ?_, fun z h => ?_, fun m hm => ⟨(nm m).2 hm, rfl⟩, fun z _ hl => ⟨(lv z).1 hl, rfl, fun _ _ => rfl⟩, fun z _ hl => ⟨?_, rfl⟩⟩
    · unfold Uz; rw [ke _ (by simp) (by simp) (by simp)]; exact h
    · unfold Uh; rw [ke _ (by simp) (by simp) (by simp)]; exact h
    · unfold Lh at hl ⊢; rw [ke _ (by simp) (by simp) (by simp)] at hl; exact hl
  have hdf0 : a.defers = [] := by
    obtain ⟨k, d1, d2⟩ := h0.df
    rw [hdf] at d1; cases d1
    exact d2.eq
  have bB : ∀ g, g < W.heap.size → ¬ (ctxR C G0 zs w.heap.size a W).B g → ¬ C.B g ∧ g ≠ w.heap.size := fun g hg q => ⟨fun e => q ⟨hg, .inl e⟩, fun e => q ⟨hg, .inr (.inr (.inl e))⟩⟩
  refine ⟨{ G with δ := fun _ => w.heap.size }, hk, ⟨1, ked, by simp [marks, hdf0], fun i hi => ⟨hd, fun e => ?_, fun n hn => ?_, fun z hl hg => ?_⟩, fun i j hi hj _ => by omega⟩, h0.sz, fun t x e => ?_, fun i t x e => ?_, fun n j x e => ?_, fun n hn => ?_, fun n m hn hm => h.inj n m ((nm n).1 hn) ((nm m).1 hm),
    fun z g hl hg => ?_, fun z g h1 hl hg => ?_, fun y z g hne hy hz => h.disj y z g hne ((lv y).1 hy) ((lv z).1 hz), fun h' E sz y zs rows e => ?_, fun z hz hl g => ?_, fun p hp => by rw [hO] at hp; simp at hp, fun n hn => (h.sf n ((nm n).1 hn)).of_ko (ke _ (by simp) (by simp) (by simp))⟩
  · have := cB _ e; simp at this
  · obtain ⟨q1, q2⟩ := h.nm n ((nm n).1 hn)
    exact (bB _ q2 q1).2
  · have hl' := (lv z).1 hl
    by_cases hz : z ∈ C.pz ++ zs
    · have := ((h.zz z hz hl' _).1 hg).2
      simp at this
    · exact (bB _ (h.sep z _ hl' hg).1 (h.new z _ hz hl' hg).1).2 rfl
  · rw [ket] at e
    have hlt := (hm.vt t (by rw [e]; simp)).1
    have h1 := h.vt 0 t x e
    have hs : t < a.tmps.size := by rw [h0.sz]; exact hlt
    have e2 : (ctxR C G0 zs w.heap.size a W).pv 0 t = a.tmps[t] := by simp [ctxR, Array.getD_eq_getD_getElem?, hs]
    rw [e2] at h1
    exact ⟨_, by simp [hs], h1.evo ev⟩
  · rw [kev] at e; cases e
  · rw [ke _ (by simp) (by simp) (by simp)] at e
    obtain ⟨h1, v, h2, h3, h4⟩ := h.cell n j x e
    exact ⟨(nm n).2 h1, v, h2, h3, h4.evo ev⟩
  · obtain ⟨q1, q2⟩ := h.nm n ((nm n).1 hn)
    exact ⟨(bB _ q2 q1).1, q2⟩
  · obtain ⟨h1, h2⟩ := h.sep z g ((lv z).1 hl) hg
    exact ⟨h1, fun n hn => h2 n ((nm n).1 hn)⟩
  · have hl' := (lv z).1 hl
    by_cases hz' : z ∈ zs
    · have hg0 := ((h.zz z (by simp [ctxR, hz']) hl' g).1 hg).1
      rw [if_pos hz'] at hg0
      obtain ⟨q1, q2⟩ := h0.new z g h1 (hlv z hz') hg0
      exact ⟨q1, q2.of_eq (kz g ⟨z, hz', hg0⟩ (h0.sep z g (hlv z hz') hg0).1)⟩
    · have hz : z ∉ C.pz ++ zs := by simp [h1, hz']
      obtain ⟨q1, q2⟩ := h.new z g hz hl' hg
      exact ⟨(bB _ (h.sep z g hl' hg).1 q1).1, q2⟩
  · rw [ke _ (by simp) (by simp) (by simp)] at e
    exact (h.hd h' E sz y zs rows e).evo ev rfl
  · have hl' := (lv z).1 hl
    have := h.zz z (by simp [ctxR, hz]) hl' g
    refine this.trans ?_
    show (if z ∈ zs then G0.ζ z g else C.Zp z g) ∧ g < w.heap.size ↔ _
    by_cases hz' : z ∈ zs
    · rw [if_pos hz', h0.zz z hz (hlv z hz') g]
      exact ⟨fun e => e.1, fun e => ⟨e, Nat.lt_of_lt_of_le (hZp z g e) hC⟩⟩
    · rw [if_neg hz']
      exact ⟨fun e => e.1, fun e => ⟨e, Nat.lt_of_lt_of_le (hZp z g e) hC⟩⟩
theorem ASG.par {L' : Row} {ps : List Nat} {vs : Array Value} {x : List DV} (hm : OkM C.N ps zs L') (hnd : ps.Nodup) (hs : a.tmps.size = C.N) (hps : ∀ p ∈ ps, p < C.N) (hx : Reps (G.zu zs) W vs x)
    (h : ASG (ctxR C G0 zs w.heap.size a W) G (lk L') { tmps := a.tmps, defers := [] } W) :
    ASG (ctxR C G0 zs w.heap.size a W) G (lk (parRows zs ps x ++ tmB L')) { tmps := (ps.zip vs.toList).foldl (fun t (p, v) => t.setIfInBounds p v) a.tmps, defers := [] } W := by
  refine h.react (fun key hk => ?_) (by rw [size_params]; exact hs) rfl (fun t y e => ?_)
  · rw [lk_par (fun p _ => hk p), lk_tmB hm.nt]
    cases key <;> first | exact absurd rfl (hk _) | rfl
  · rcases lk_par_at e with ⟨i, d, e1, e2, e3, e4⟩ | e
    · have hi : i < vs.size := by rw [hx.1]; exact (List.getElem?_eq_some_iff.1 e2).1
      refine ⟨vs[i], at_params ps vs.toList a.tmps i _ hnd e1 (by simp [hi]) (by rw [hs]; exact hps t (List.mem_of_getElem? e1)), ?_⟩
      rw [e3]
      have := hx.2 i d e2
      rw [Array.getD_eq_getD_getElem?, Array.getElem?_eq_getElem hi] at this
      have r := atz_rep (σ := lk L') (fun z hz => (hm.lv z hz).used) this
      exact r
    · rw [lk_tmB hm.nt] at e
      have e : lk L' (.vt 0 t) = .av y := e
      obtain ⟨h1, h2⟩ := hm.vt t (by rw [e]; simp)
      have hlt : t < a.tmps.size := by rw [hs]; exact h1
      rw [get_params ps vs.toList a.tmps h2]
      have r := h.vt 0 t y e
      have e2 : (ctxR C G0 zs w.heap.size a W).pv 0 t = a.tmps[t] := by simp [ctxR, Array.getD_eq_getD_getElem?, hlt]
      rw [e2] at r
      exact ⟨_, by simp [hlt], r⟩
theorem AW.range {o : Operand} {ps : Array Tmp} {asg body : Code} {Q : Exit → Act → World → Prop} {L rr rz : Row} {l : List (List DV)} (hO : C.ob = []) (hZp : ∀ z g, C.Zp z g → g < C.W0.heap.size) (hdf : lk L .df = .df 0)
    (ho : opd (lk L) o = some (rr, .c zs (.st (itP P l)))) (hz : zr (lk L) zs = some rz) (hps : ∀ x ∈ l, x.length = ps.size) (hnd : ps.toList.Nodup) (hpN : ∀ p ∈ ps.toList, p < C.N)
    (M : Nat → Row) (Mx : Code → Nat → Option Row) (hM : ∀ k, okM C.N ps.toList zs (M k) = true) (hMx : ∀ c k L', Mx c k = some L' → okM C.N ps.toList zs L' = true)
    (h0 : ∀ C' : Cx, C'.pz = C.pz ++ zs → C'.N = C.N → ∀ a w, AS C' (lk (vtOf L)) a w → AS C' (lk (M 0)) a w)
    (hr : ∀ (k : Nat) (x : List DV), l[k]? = some x → ∃ L1, df0B (lk L1 .df) = true ∧ (∀ ln, ∀ C' : Cx, C'.pz = C.pz ++ zs → C'.N = C.N → AW P C' (some ln) asg (RN C' L1) (parRows zs ps.toList x ++ tmB (M k))) ∧
      ∀ ln, ∀ C' : Cx, C'.pz = C.pz ++ zs → C'.N = C.N → AW P C' (some ln) body (RB C' M Mx k) L1)
    (hdone : NX C Q .normal ((.df, .df 1) :: tmOf (M l.length)))
    (hstop : ∀ c k L', Mx c k = some L' → k < l.length → AW P C none c Q ((.df, .df 1) :: tmOf L')) : AW P C none (.rangeFunc o ps asg body) Q L := by
  rintro a w ⟨G0, hG⟩
  have hv := opd_ok ho hG (opd_rd ho)
  have hlv := zr_ok hz (zr_rd hz)
  have hit := hv.rep hlv
  have hi : ItOk P l (G0.zu zs) w (a.eval o) := by
    generalize a.eval o = v at hit
    cases hit with
    | st φ v h => exact h
  obtain ⟨gf, lb, he, eg, hI⟩ := hi
  have hC : C.W0.heap.size ≤ w.heap.size := hG.fr.size
  have cB : ∀ g, C.B g → g < w.heap.size := fun g hg => Nat.lt_of_lt_of_le (C.hB g hg) hC
  have hZ : ∀ g, G0.zu zs g → g < w.heap.size := fun g ⟨z, hz, hg⟩ => (hG.sep z g (hlv z hz) hg).1
  have keepR : ∀ {W W' : World} {σ : St} {a' : Act} {G : Gh}, ASG (ctxR C G0 zs w.heap.size a W) G σ a' W' → Keeps C.B C.W0 W → KZ (G0.zu zs) w w W → w.heap.size ≤ W.heap.size →
      Keeps C.B C.W0 W' ∧ KZ (G0.zu zs) w w W' ∧ KZ (G0.zu zs) w W W' ∧ W.heap.size ≤ W'.heap.size ∧ (w.heap.size + 2 ≤ W.heap.size → KeepsAt w.heap.size W W') := by
    intro W W' σ a' G h k1 k2 hW
    have f := h.fr
    have b : ∀ g, G0.zu zs g → W'.heap[g]? = W.heap[g]? := fun g hg => f.block g (by have := hZ g hg; show g < W.heap.size; omega) ⟨by have := hZ g hg; omega, .inr (.inl hg)⟩
    refine ⟨k1.trans ⟨f.os, f.tape, f.output, f.size, fun g hg hb => f.block g hg ⟨hg, .inl hb⟩⟩, fun g hg hl => (b g hg).trans (k2 g hg hl), fun g hg hl => b g hg, f.size, fun hs => ⟨f.block _ (by show _ < W.heap.size; omega) ⟨by omega, .inr (.inr (.inl rfl))⟩, f.block _ (by show _ < W.heap.size; omega) ⟨by omega, .inr (.inr (.inr rfl))⟩⟩⟩
  have keepK : ∀ {W W' : World}, Keeps C.B C.W0 W → KZ (G0.zu zs) w w W → w.heap.size ≤ W.heap.size → Keeps (fun k => True ∧ k ≠ w.heap.size ∧ k ≠ w.heap.size + 1) W W' → Keeps C.B C.W0 W' ∧ KZ (G0.zu zs) w w W' ∧ w.heap.size ≤ W'.heap.size := by
    intro W W' k1 k2 hW hk
    have hs := hk.size
    refine ⟨k1.trans ⟨hk.os, hk.tape, hk.output, hk.size, fun g hg hb => hk.block g hg ⟨trivial, ?_, ?_⟩⟩, fun g hg hl => (hk.block g (by omega) ⟨trivial, ?_, ?_⟩).trans (k2 g hg hl), by omega⟩
    · have := cB g hb; omega
    · have := cB g hb; omega
    · have := hZ g hg; omega
    · have := hZ g hg; omega
  let a0 : Act := { tmps := a.tmps, defers := [] }
  let IS : Row → Act → World → Prop := fun Lk b W => Keeps C.B C.W0 W ∧ KZ (G0.zu zs) w w W ∧ w.heap.size ≤ W.heap.size ∧ (∃ G, ASG (ctxR C G0 zs w.heap.size a W) G (lk Lk) b W) ∧ lk Lk .df = .df 0
  have isK : ∀ {Lk : Row} {b : Act} {W W' : World}, IS Lk b W → Keeps (fun k => True ∧ k ≠ w.heap.size ∧ k ≠ w.heap.size + 1) W W' → IS Lk b W' := by
    rintro Lk b W W' ⟨k1, k2, k3, ⟨G, h⟩, k5⟩ hk
    obtain ⟨q1, q2, q3⟩ := keepK k1 k2 k3 hk
    exact ⟨q1, q2, q3, ⟨G, h.mv k5 hC hZ k3 (fun g hg _ => hg) ⟨hk.os, hk.tape, hk.output, hk.size, fun g hg hb => hk.block g hg ⟨trivial, hb.1, hb.2⟩⟩⟩, k5⟩
  have isR : ∀ {Lk : Row} {b : Act} {W W' : World}, Keeps C.B C.W0 W → KZ (G0.zu zs) w w W → w.heap.size + 2 ≤ W.heap.size → lk Lk .df = .df 0 → AS (ctxR C G0 zs w.heap.size a W) (lk Lk) b W' →
      KeepsAt w.heap.size W W' ∧ KZ (G0.zu zs) w W W' ∧ W.heap.size ≤ W'.heap.size ∧ IS Lk b W' := by
    rintro Lk b W W' k1 k2 k3 k5 ⟨G, h⟩
    obtain ⟨q1, q2, q3, q4, q5⟩ := keepR h k1 k2 (by omega)
    exact ⟨q5 k3, q3, q4, q1, q2, by omega, ⟨G, h.mv k5 hC hZ (by omega) (fun g _ e => by omega) (Keeps.refl _ _)⟩, k5⟩
  have is0 : ∀ {Lk : Row} {b : Act} {W : World}, okM C.N ps.toList zs Lk = true → IS Lk b W → IS Lk a0 W := by
    rintro Lk b W hm ⟨k1, k2, k3, ⟨G, h⟩, k5⟩
    have m := okM_ok hm
    refine ⟨k1, k2, k3, ⟨G, h.react (fun _ _ => rfl) hG.sz ?_ (fun t x e => by rw [noT_lk m.nt] at e; cases e)⟩, k5⟩
    obtain ⟨k, d1, d2⟩ := h.df
    rw [k5] at d1; cases d1
    exact d2.eq.symm
  refine wpIn_n (n := 10) ?_
  refine range_wide2 (hg := he) (eg := eg) hI (K := fun _ => True) (fun W hb g hg hl => hb.block g hl) ⟨trivial, trivial⟩ (fun h k => h.trans k)
    (fun W o' g hg hl => World.putObj_heap_other (by omega)) (fun pre vs ⟨x, h1, h2⟩ => by rw [h2.1]; exact hps x (List.mem_of_getElem? h1))
    (fun xs W => IS (M xs.length) a0 W) (fun c xs W => ∃ k Lx, k < l.length ∧ Mx c k = some Lx ∧ IS Lx a0 W)
    (fun pre vs a₁ W => ∃ (x : List DV) (L1 : Row), l[pre.length]? = some x ∧ (∀ ln, ∀ C' : Cx, C'.pz = C.pz ++ zs → C'.N = C.N → AW P C' (some ln) body (RB C' M Mx pre.length) L1) ∧ IS L1 a₁ W)
    (fun pre W W' h hk => isK h hk) (fun c pre W W' ⟨k, Lx, h1, h2, h3⟩ hk => ⟨k, Lx, h1, h2, isK h3 hk⟩) (fun pre x a₁ W W' ⟨y, L1, h1, h2, h3⟩ hk => ⟨y, L1, h1, h2, isK h3 hk⟩)
    ?_ ?_ ?_ ?_ ?_
  · refine ⟨hG.fr, fun g _ _ => rfl, Nat.le_refl _, ?_, (okM_ok (hM 0)).df⟩
    exact h0 (ctxR C G0 zs w.heap.size a w) rfl rfl a0 w ⟨G0, hG.toR hlv hdf⟩
  · rintro ln pre vs W ⟨k1, k2, k3, ⟨G, h⟩, k5⟩ ⟨x, hx, hxr⟩ hW
    obtain ⟨L1, d1, r1, r2⟩ := hr pre.length x hx
    have hm := okM_ok (hM pre.length)
    have hx' : Reps (G.zu zs) W vs x := ⟨hxr.1, fun i y hy => (hxr.2 i y hy).evo fun g ⟨hg, hl⟩ _ => ⟨by
      obtain ⟨z, hz, hg'⟩ := hg
      exact ⟨z, hz, (h.zz z (by simp [ctxR, hz]) (hm.lv z hz) g).2 ⟨by rw [if_pos hz]; exact hg', hl⟩⟩, k2 g hg hl⟩⟩
    have hp := h.par hm hnd hG.sz hpN hx'
    rw [← Array.toList_zip, Array.foldl_toList] at hp
    refine wpIn_n (wpIn_mono (r1 ln (ctxR C G0 zs w.heap.size a W) rfl rfl _ W ⟨G, hp⟩) ?_)
    rintro e a₁ W2 ⟨rfl, hA⟩
    obtain ⟨q1, q2, q3, q4⟩ := isR k1 k2 hW (df0B_ok d1) hA
    exact ⟨q1, q2, q3, x, L1, hx, r2, q4⟩
  · rintro ln pre vs a₁ W ⟨x, L1, hx, r2, k1, k2, k3, hA, k5⟩ hs hW
    refine wpIn_n (wpIn_mono (r2 ln (ctxR C G0 zs w.heap.size a W) rfl rfl a₁ W hA) ?_)
    intro e a2 W2 hq
    have hlt : pre.length < l.length := (List.getElem?_eq_some_iff.1 hx).1
    have el : (pre ++ [vs]).length = pre.length + 1 := by simp
    cases e with
    | normal =>
      have hm := hM (pre.length + 1)
      obtain ⟨q1, q2, q3, q4⟩ := isR k1 k2 hW (okM_ok hm).df hq
      refine ⟨q1, q2, ?_⟩
      show IS (M (pre ++ [vs]).length) a0 W2
      rw [el]
      exact is0 hm q4
    | ret =>
      obtain ⟨Lx, h1, h2⟩ := hq
      have hm := hMx _ _ _ h1
      obtain ⟨q1, q2, q3, q4⟩ := isR k1 k2 hW (okM_ok hm).df h2
      exact ⟨q1, _, Lx, hlt, h1, is0 hm q4⟩
    | exit i =>
      obtain ⟨Lx, h1, h2⟩ := hq
      have hm := hMx _ _ _ h1
      obtain ⟨q1, q2, q3, q4⟩ := isR k1 k2 hW (okM_ok hm).df h2
      exact ⟨q1, _, Lx, hlt, h1, is0 hm q4⟩
    | _ => exact hq.elim
  · rintro xs W hS ⟨k1, k2, k3, ⟨G, h⟩, k5⟩ hd
    have hS : xs.length = l.length := hS
    rw [hS] at h
    exact hdone _ _ (hG.back hdf hlv hZp hO (okM_ok (hM l.length)) k1 k2 hd h)
  · rintro c pre W hS ⟨k, Lx, hlt, h1, k1, k2, k3, ⟨G, h⟩, k5⟩ hd
    exact hstop _ _ _ h1 hlt _ _ (hG.back hdf hlv hZp hO (okM_ok (hMx _ _ _ h1)) k1 k2 hd h)
end

def ti2 : TI := ⟨1, .int .i64 0, 8, .int .i64, [none]⟩
theorem tk2 : TOk Try.prog 2 ti2 := ⟨by kernel_rfl, by kernel_rfl⟩
def ti3 : TI := ⟨1, .int .i64 0, 8, .int .i64, [none]⟩
theorem tk3 : TOk Try.prog 3 ti3 := ⟨by kernel_rfl, by kernel_rfl⟩
def ti4 : TI := ⟨1, .bool false, 1, .bool, [none]⟩
theorem tk4 : TOk Try.prog 4 ti4 := ⟨by kernel_rfl, by kernel_rfl⟩
def ti5 : TI := ⟨1, .int .u8 0, 1, .int .u8, [none]⟩
theorem tk5 : TOk Try.prog 5 ti5 := ⟨by kernel_rfl, by kernel_rfl⟩
def ti6 : TI := ⟨1, .int .u8 0, 1, .int .u8, [none]⟩
theorem tk6 : TOk Try.prog 6 ti6 := ⟨by kernel_rfl, by kernel_rfl⟩
def ti7 : TI := ⟨4, .agg #[.int .i64 0, .int .i64 0, .bool false, .int .u8 0], 24, .struct [(0, 2), (1, 3), (2, 4), (3, 6)], [none, none, none, none]⟩
theorem tk7 : TOk Try.prog 7 ti7 := ⟨by kernel_rfl, by kernel_rfl⟩
def ti8 : TI := ⟨4, .agg #[.int .i64 0, .int .i64 0, .bool false, .int .u8 0], 24, .struct [(0, 2), (1, 3), (2, 4), (3, 6)], [none, none, none, none]⟩
theorem tk8 : TOk Try.prog 8 ti8 := ⟨by kernel_rfl, by kernel_rfl⟩
def ti9 : TI := ⟨1, .string ⟨#[]⟩, 16, .str, [none]⟩
theorem tk9 : TOk Try.prog 9 ti9 := ⟨by kernel_rfl, by kernel_rfl⟩
def ti10 : TI := ⟨1, .string ⟨#[]⟩, 16, .str, [none]⟩
theorem tk10 : TOk Try.prog 10 ti10 := ⟨by kernel_rfl, by kernel_rfl⟩
def ti11 : TI := ⟨1, .string ⟨#[]⟩, 16, .str, [none]⟩
theorem tk11 : TOk Try.prog 11 ti11 := ⟨by kernel_rfl, by kernel_rfl⟩
def ti12 : TI := ⟨1, .int .u64 0, 8, .int .u64, [none]⟩
theorem tk12 : TOk Try.prog 12 ti12 := ⟨by kernel_rfl, by kernel_rfl⟩
def ti13 : TI := ⟨2, .agg #[.string ⟨#[]⟩, .int .u64 0], 24, .struct [(0, 9), (1, 12)], [none, none]⟩
theorem tk13 : TOk Try.prog 13 ti13 := ⟨by kernel_rfl, by kernel_rfl⟩
def ti14 : TI := ⟨2, .agg #[.string ⟨#[]⟩, .int .u64 0], 24, .struct [(0, 9), (1, 12)], [none, none]⟩
theorem tk14 : TOk Try.prog 14 ti14 := ⟨by kernel_rfl, by kernel_rfl⟩
def ti15 : TI := ⟨1, .pointer none, 8, .word, [none]⟩
theorem tk15 : TOk Try.prog 15 ti15 := ⟨by kernel_rfl, by kernel_rfl⟩
def ti16 : TI := ⟨1, .pointer none, 8, .word, [none]⟩
theorem tk16 : TOk Try.prog 16 ti16 := ⟨by kernel_rfl, by kernel_rfl⟩
def ti17 : TI := ⟨1, .pointer none, 8, .word, [none]⟩
theorem tk17 : TOk Try.prog 17 ti17 := ⟨by kernel_rfl, by kernel_rfl⟩
def ti18 : TI := ⟨1, .agg #[.pointer none], 8, .struct [(0, 17)], [none]⟩
theorem tk18 : TOk Try.prog 18 ti18 := ⟨by kernel_rfl, by kernel_rfl⟩
def ti19 : TI := ⟨1, .agg #[.pointer none], 8, .struct [(0, 17)], [none]⟩
theorem tk19 : TOk Try.prog 19 ti19 := ⟨by kernel_rfl, by kernel_rfl⟩
def ti20 : TI := ⟨1, .nilIface, 16, .word, [none]⟩
theorem tk20 : TOk Try.prog 20 ti20 := ⟨by kernel_rfl, by kernel_rfl⟩
def ti21 : TI := ⟨1, .int .i32 0, 4, .int .i32, [none]⟩
theorem tk21 : TOk Try.prog 21 ti21 := ⟨by kernel_rfl, by kernel_rfl⟩
def ti22 : TI := ⟨1, .slice none 0 0, 24, .slice 52, [some 2]⟩
theorem tk22 : TOk Try.prog 22 ti22 := ⟨by kernel_rfl, by kernel_rfl⟩
def ti23 : TI := ⟨2, .agg #[.slice none 0 0, .slice none 0 0], 48, .struct [(0, 22), (1, 22)], [some 2, some 2]⟩
theorem tk23 : TOk Try.prog 23 ti23 := ⟨by kernel_rfl, by kernel_rfl⟩
def ti24 : TI := ⟨2, .agg #[.slice none 0 0, .slice none 0 0], 48, .struct [(0, 22), (1, 22)], [some 2, some 2]⟩
theorem tk24 : TOk Try.prog 24 ti24 := ⟨by kernel_rfl, by kernel_rfl⟩
def ti25 : TI := ⟨8, .agg #[.slice none 0 0, .slice none 0 0, .slice none 0 0, .slice none 0 0, .bool false, .int .i64 0, .slice none 0 0, .slice none 0 0], 160, .struct [(0, 24), (2, 24), (4, 4), (5, 3), (6, 24)], [some 2, some 2, some 2, some 2, none, none, some 2, some 2]⟩
theorem tk25 : TOk Try.prog 25 ti25 := ⟨by kernel_rfl, by kernel_rfl⟩
def ti26 : TI := ⟨8, .agg #[.slice none 0 0, .slice none 0 0, .slice none 0 0, .slice none 0 0, .bool false, .int .i64 0, .slice none 0 0, .slice none 0 0], 160, .struct [(0, 24), (2, 24), (4, 4), (5, 3), (6, 24)], [some 2, some 2, some 2, some 2, none, none, some 2, some 2]⟩
theorem tk26 : TOk Try.prog 26 ti26 := ⟨by kernel_rfl, by kernel_rfl⟩
def ti27 : TI := ⟨1, .slice none 0 0, 24, .slice 3, [some 1]⟩
theorem tk27 : TOk Try.prog 27 ti27 := ⟨by kernel_rfl, by kernel_rfl⟩
def ti30 : TI := ⟨1, .int .i64 0, 8, .int .i64, [none]⟩
theorem tk30 : TOk Try.prog 30 ti30 := ⟨by kernel_rfl, by kernel_rfl⟩
def ti40 : TI := ⟨1, .slice none 0 0, 24, .slice 24, [some 2]⟩
theorem tk40 : TOk Try.prog 40 ti40 := ⟨by kernel_rfl, by kernel_rfl⟩
def ti48 : TI := ⟨1, .int .u64 0, 8, .int .u64, [none]⟩
theorem tk48 : TOk Try.prog 48 ti48 := ⟨by kernel_rfl, by kernel_rfl⟩
def ti50 : TI := ⟨1, .int .u64 0, 8, .int .u64, [none]⟩
theorem tk50 : TOk Try.prog 50 ti50 := ⟨by kernel_rfl, by kernel_rfl⟩
def ti51 : TI := ⟨2, .agg #[.int .u64 0, .int .u64 0], 16, .struct [(0, 50), (1, 50)], [none, none]⟩
theorem tk51 : TOk Try.prog 51 ti51 := ⟨by kernel_rfl, by kernel_rfl⟩
def ti52 : TI := ⟨2, .agg #[.int .u64 0, .int .u64 0], 16, .struct [(0, 50), (1, 50)], [none, none]⟩
theorem tk52 : TOk Try.prog 52 ti52 := ⟨by kernel_rfl, by kernel_rfl⟩
def ti55 : TI := ⟨1, .slice none 0 0, 24, .slice 63, [some 3]⟩
theorem tk55 : TOk Try.prog 55 ti55 := ⟨by kernel_rfl, by kernel_rfl⟩
def ti57 : TI := ⟨1, .pointer none, 8, .word, [none]⟩
theorem tk57 : TOk Try.prog 57 ti57 := ⟨by kernel_rfl, by kernel_rfl⟩
def ti62 : TI := ⟨3, .agg #[.int .i64 0, .int .u64 0, .int .u64 0], 24, .struct [(0, 3), (1, 52)], [none, none, none]⟩
theorem tk62 : TOk Try.prog 62 ti62 := ⟨by kernel_rfl, by kernel_rfl⟩
def ti63 : TI := ⟨3, .agg #[.int .i64 0, .int .u64 0, .int .u64 0], 24, .struct [(0, 3), (1, 52)], [none, none, none]⟩
theorem tk63 : TOk Try.prog 63 ti63 := ⟨by kernel_rfl, by kernel_rfl⟩
def ti85 : TI := ⟨1, .slice none 0 0, 24, .slice 50, [some 1]⟩
theorem tk85 : TOk Try.prog 85 ti85 := ⟨by kernel_rfl, by kernel_rfl⟩
def ti94 : TI := ⟨1, .slice none 0 0, 24, .slice 22, [some 1]⟩
theorem tk94 : TOk Try.prog 94 ti94 := ⟨by kernel_rfl, by kernel_rfl⟩
def ti101 : TI := ⟨2, .agg #[.int .i64 0, .int .i64 0], 16, .arr 2 3, [none, none]⟩
theorem tk101 : TOk Try.prog 101 ti101 := ⟨by kernel_rfl, by kernel_rfl⟩
def ti121 : TI := ⟨1, .slice none 0 0, 24, .slice 126, [some 3]⟩
theorem tk121 : TOk Try.prog 121 ti121 := ⟨by kernel_rfl, by kernel_rfl⟩
def ti122 : TI := ⟨1, .slice none 0 0, 24, .slice 126, [some 3]⟩
theorem tk122 : TOk Try.prog 122 ti122 := ⟨by kernel_rfl, by kernel_rfl⟩
def ti123 : TI := ⟨4, .agg #[.slice none 0 0, .int .u64 0, .int .u64 0, .bool false], 48, .struct [(0, 122), (1, 52), (3, 4)], [some 3, none, none, none]⟩
theorem tk123 : TOk Try.prog 123 ti123 := ⟨by kernel_rfl, by kernel_rfl⟩
def ti124 : TI := ⟨4, .agg #[.slice none 0 0, .int .u64 0, .int .u64 0, .bool false], 48, .struct [(0, 122), (1, 52), (3, 4)], [some 3, none, none, none]⟩
theorem tk124 : TOk Try.prog 124 ti124 := ⟨by kernel_rfl, by kernel_rfl⟩
def ti125 : TI := ⟨3, .agg #[.int .i64 0, .bool false, .slice none 0 0], 40, .struct [(0, 3), (1, 4), (2, 22)], [none, none, some 2]⟩
theorem tk125 : TOk Try.prog 125 ti125 := ⟨by kernel_rfl, by kernel_rfl⟩
def ti126 : TI := ⟨3, .agg #[.int .i64 0, .bool false, .slice none 0 0], 40, .struct [(0, 3), (1, 4), (2, 22)], [none, none, some 2]⟩
theorem tk126 : TOk Try.prog 126 ti126 := ⟨by kernel_rfl, by kernel_rfl⟩
def ti128 : TI := ⟨1, .pointer none, 8, .word, [none]⟩
theorem tk128 : TOk Try.prog 128 ti128 := ⟨by kernel_rfl, by kernel_rfl⟩
def ti148 : TI := ⟨2, .agg #[.bool false, .bool false], 2, .struct [(0, 4), (1, 4)], [none, none]⟩
theorem tk148 : TOk Try.prog 148 ti148 := ⟨by kernel_rfl, by kernel_rfl⟩
def ti149 : TI := ⟨2, .agg #[.bool false, .bool false], 2, .struct [(0, 4), (1, 4)], [none, none]⟩
theorem tk149 : TOk Try.prog 149 ti149 := ⟨by kernel_rfl, by kernel_rfl⟩
def ti151 : TI := ⟨1, .map none, 8, .word, [none]⟩
theorem tk151 : TOk Try.prog 151 ti151 := ⟨by kernel_rfl, by kernel_rfl⟩
def ti164 : TI := ⟨1, .nilIface, 16, .word, [none]⟩
theorem tk164 : TOk Try.prog 164 ti164 := ⟨by kernel_rfl, by kernel_rfl⟩
def ti165 : TI := ⟨1, .nilIface, 16, .word, [none]⟩
theorem tk165 : TOk Try.prog 165 ti165 := ⟨by kernel_rfl, by kernel_rfl⟩
def ti179 : TI := ⟨2, .agg #[.slice none 0 0, .slice none 0 0], 48, .arr 2 22, [some 2, some 2]⟩
theorem tk179 : TOk Try.prog 179 ti179 := ⟨by kernel_rfl, by kernel_rfl⟩
def ti182 : TI := ⟨1, .slice none 0 0, 24, .slice 40, [some 1]⟩
theorem tk182 : TOk Try.prog 182 ti182 := ⟨by kernel_rfl, by kernel_rfl⟩
def ti196 : TI := ⟨1, .int .i64 0, 8, .int .i64, [none]⟩
theorem tk196 : TOk Try.prog 196 ti196 := ⟨by kernel_rfl, by kernel_rfl⟩
def ti203 : TI := ⟨1, .int .u32 0, 4, .int .u32, [none]⟩
theorem tk203 : TOk Try.prog 203 ti203 := ⟨by kernel_rfl, by kernel_rfl⟩
def ti205 : TI := ⟨1, .int .u64 0, 8, .int .u64, [none]⟩
theorem tk205 : TOk Try.prog 205 ti205 := ⟨by kernel_rfl, by kernel_rfl⟩
def ti209 : TI := ⟨1, .pointer none, 8, .word, [none]⟩
theorem tk209 : TOk Try.prog 209 ti209 := ⟨by kernel_rfl, by kernel_rfl⟩
def ti211 : TI := ⟨1, .pointer none, 8, .word, [none]⟩
theorem tk211 : TOk Try.prog 211 ti211 := ⟨by kernel_rfl, by kernel_rfl⟩
def ti215 : TI := ⟨4, .agg #[.pointer none, .pointer none, .pointer none, .string ⟨#[]⟩], 40, .struct [(0, 17), (1, 17), (2, 17), (3, 9)], [none, none, none, none]⟩
theorem tk215 : TOk Try.prog 215 ti215 := ⟨by kernel_rfl, by kernel_rfl⟩
def ti216 : TI := ⟨4, .agg #[.pointer none, .pointer none, .pointer none, .string ⟨#[]⟩], 40, .struct [(0, 17), (1, 17), (2, 17), (3, 9)], [none, none, none, none]⟩
theorem tk216 : TOk Try.prog 216 ti216 := ⟨by kernel_rfl, by kernel_rfl⟩
def ti217 : TI := ⟨0, .agg #[], 0, .arr 0 16, []⟩
theorem tk217 : TOk Try.prog 217 ti217 := ⟨by kernel_rfl, by kernel_rfl⟩
def ti218 : TI := ⟨0, .agg #[], 0, .struct [(0, 217)], []⟩
theorem tk218 : TOk Try.prog 218 ti218 := ⟨by kernel_rfl, by kernel_rfl⟩
def ti219 : TI := ⟨0, .agg #[], 0, .struct [(0, 217)], []⟩
theorem tk219 : TOk Try.prog 219 ti219 := ⟨by kernel_rfl, by kernel_rfl⟩
def ti220 : TI := ⟨1, .int .u8 0, 1, .int .u8, [none]⟩
theorem tk220 : TOk Try.prog 220 ti220 := ⟨by kernel_rfl, by kernel_rfl⟩
def ti221 : TI := ⟨1, .int .u8 0, 1, .int .u8, [none]⟩
theorem tk221 : TOk Try.prog 221 ti221 := ⟨by kernel_rfl, by kernel_rfl⟩
def ti223 : TI := ⟨1, .pointer none, 8, .word, [none]⟩
theorem tk223 : TOk Try.prog 223 ti223 := ⟨by kernel_rfl, by kernel_rfl⟩
def ti224 : TI := ⟨1, .int .i32 0, 4, .int .i32, [none]⟩
theorem tk224 : TOk Try.prog 224 ti224 := ⟨by kernel_rfl, by kernel_rfl⟩
def ti225 : TI := ⟨1, .int .i32 0, 4, .int .i32, [none]⟩
theorem tk225 : TOk Try.prog 225 ti225 := ⟨by kernel_rfl, by kernel_rfl⟩
def ti226 : TI := ⟨11, .agg #[.int .u64 0, .int .u64 0, .int .u32 0, .int .u8 0, .int .u8 0, .int .u8 0, .int .u8 0, .nilFunc, .pointer none, .int .i32 0, .int .i32 0], 48, .struct [(0, 12), (1, 12), (2, 203), (3, 220), (4, 5), (5, 5), (6, 221), (7, 222), (8, 223), (9, 224), (10, 225)], [none, none, none, none, none, none, none, none, none, none, none]⟩
theorem tk226 : TOk Try.prog 226 ti226 := ⟨by kernel_rfl, by kernel_rfl⟩
def ti227 : TI := ⟨11, .agg #[.int .u64 0, .int .u64 0, .int .u32 0, .int .u8 0, .int .u8 0, .int .u8 0, .int .u8 0, .nilFunc, .pointer none, .int .i32 0, .int .i32 0], 48, .struct [(0, 12), (1, 12), (2, 203), (3, 220), (4, 5), (5, 5), (6, 221), (7, 222), (8, 223), (9, 224), (10, 225)], [none, none, none, none, none, none, none, none, none, none, none]⟩
theorem tk227 : TOk Try.prog 227 ti227 := ⟨by kernel_rfl, by kernel_rfl⟩
def tyf : TypeId → Option TI
  | 2 => some ti2
  | 3 => some ti3
  | 4 => some ti4
  | 5 => some ti5
  | 6 => some ti6
  | 7 => some ti7
  | 8 => some ti8
  | 9 => some ti9
  | 10 => some ti10
  | 11 => some ti11
  | 12 => some ti12
  | 13 => some ti13
  | 14 => some ti14
  | 15 => some ti15
  | 16 => some ti16
  | 17 => some ti17
  | 18 => some ti18
  | 19 => some ti19
  | 20 => some ti20
  | 21 => some ti21
  | 22 => some ti22
  | 23 => some ti23
  | 24 => some ti24
  | 25 => some ti25
  | 26 => some ti26
  | 27 => some ti27
  | 30 => some ti30
  | 40 => some ti40
  | 48 => some ti48
  | 50 => some ti50
  | 51 => some ti51
  | 52 => some ti52
  | 55 => some ti55
  | 57 => some ti57
  | 62 => some ti62
  | 63 => some ti63
  | 85 => some ti85
  | 94 => some ti94
  | 101 => some ti101
  | 121 => some ti121
  | 122 => some ti122
  | 123 => some ti123
  | 124 => some ti124
  | 125 => some ti125
  | 126 => some ti126
  | 128 => some ti128
  | 148 => some ti148
  | 149 => some ti149
  | 151 => some ti151
  | 164 => some ti164
  | 165 => some ti165
  | 179 => some ti179
  | 182 => some ti182
  | 196 => some ti196
  | 203 => some ti203
  | 205 => some ti205
  | 209 => some ti209
  | 211 => some ti211
  | 215 => some ti215
  | 216 => some ti216
  | 217 => some ti217
  | 218 => some ti218
  | 219 => some ti219
  | 220 => some ti220
  | 221 => some ti221
  | 223 => some ti223
  | 224 => some ti224
  | 225 => some ti225
  | 226 => some ti226
  | 227 => some ti227
  | _ => none
def ty : Tab Try.prog where
  f := tyf
  ok := fun t i h => by
    unfold tyf at h
    split at h
    all_goals first
      | (cases h; done)
      | (cases h; exact tk2)
      | (cases h; exact tk3)
      | (cases h; exact tk4)
      | (cases h; exact tk5)
      | (cases h; exact tk6)
      | (cases h; exact tk7)
      | (cases h; exact tk8)
      | (cases h; exact tk9)
      | (cases h; exact tk10)
      | (cases h; exact tk11)
      | (cases h; exact tk12)
      | (cases h; exact tk13)
      | (cases h; exact tk14)
      | (cases h; exact tk15)
      | (cases h; exact tk16)
      | (cases h; exact tk17)
      | (cases h; exact tk18)
      | (cases h; exact tk19)
      | (cases h; exact tk20)
      | (cases h; exact tk21)
      | (cases h; exact tk22)
      | (cases h; exact tk23)
      | (cases h; exact tk24)
      | (cases h; exact tk25)
      | (cases h; exact tk26)
      | (cases h; exact tk27)
      | (cases h; exact tk30)
      | (cases h; exact tk40)
      | (cases h; exact tk48)
      | (cases h; exact tk50)
      | (cases h; exact tk51)
      | (cases h; exact tk52)
      | (cases h; exact tk55)
      | (cases h; exact tk57)
      | (cases h; exact tk62)
      | (cases h; exact tk63)
      | (cases h; exact tk85)
      | (cases h; exact tk94)
      | (cases h; exact tk101)
      | (cases h; exact tk121)
      | (cases h; exact tk122)
      | (cases h; exact tk123)
      | (cases h; exact tk124)
      | (cases h; exact tk125)
      | (cases h; exact tk126)
      | (cases h; exact tk128)
      | (cases h; exact tk148)
      | (cases h; exact tk149)
      | (cases h; exact tk151)
      | (cases h; exact tk164)
      | (cases h; exact tk165)
      | (cases h; exact tk179)
      | (cases h; exact tk182)
      | (cases h; exact tk196)
      | (cases h; exact tk203)
      | (cases h; exact tk205)
      | (cases h; exact tk209)
      | (cases h; exact tk211)
      | (cases h; exact tk215)
      | (cases h; exact tk216)
      | (cases h; exact tk217)
      | (cases h; exact tk218)
      | (cases h; exact tk219)
      | (cases h; exact tk220)
      | (cases h; exact tk221)
      | (cases h; exact tk223)
      | (cases h; exact tk224)
      | (cases h; exact tk225)
      | (cases h; exact tk226)
      | (cases h; exact tk227)
theorem ty2 : ty.f 2 = some ⟨1, .int .i64 0, 8, .int .i64, [none]⟩ := rfl
theorem ty3 : ty.f 3 = some ⟨1, .int .i64 0, 8, .int .i64, [none]⟩ := rfl
theorem ty4 : ty.f 4 = some ⟨1, .bool false, 1, .bool, [none]⟩ := rfl
theorem ty5 : ty.f 5 = some ⟨1, .int .u8 0, 1, .int .u8, [none]⟩ := rfl
theorem ty6 : ty.f 6 = some ⟨1, .int .u8 0, 1, .int .u8, [none]⟩ := rfl
theorem ty7 : ty.f 7 = some ⟨4, .agg #[.int .i64 0, .int .i64 0, .bool false, .int .u8 0], 24, .struct [(0, 2), (1, 3), (2, 4), (3, 6)], [none, none, none, none]⟩ := rfl
theorem ty8 : ty.f 8 = some ⟨4, .agg #[.int .i64 0, .int .i64 0, .bool false, .int .u8 0], 24, .struct [(0, 2), (1, 3), (2, 4), (3, 6)], [none, none, none, none]⟩ := rfl
theorem ty9 : ty.f 9 = some ⟨1, .string ⟨#[]⟩, 16, .str, [none]⟩ := rfl
theorem ty10 : ty.f 10 = some ⟨1, .string ⟨#[]⟩, 16, .str, [none]⟩ := rfl
theorem ty11 : ty.f 11 = some ⟨1, .string ⟨#[]⟩, 16, .str, [none]⟩ := rfl
theorem ty12 : ty.f 12 = some ⟨1, .int .u64 0, 8, .int .u64, [none]⟩ := rfl
theorem ty13 : ty.f 13 = some ⟨2, .agg #[.string ⟨#[]⟩, .int .u64 0], 24, .struct [(0, 9), (1, 12)], [none, none]⟩ := rfl
theorem ty14 : ty.f 14 = some ⟨2, .agg #[.string ⟨#[]⟩, .int .u64 0], 24, .struct [(0, 9), (1, 12)], [none, none]⟩ := rfl
theorem ty15 : ty.f 15 = some ⟨1, .pointer none, 8, .word, [none]⟩ := rfl
theorem ty16 : ty.f 16 = some ⟨1, .pointer none, 8, .word, [none]⟩ := rfl
theorem ty17 : ty.f 17 = some ⟨1, .pointer none, 8, .word, [none]⟩ := rfl
theorem ty18 : ty.f 18 = some ⟨1, .agg #[.pointer none], 8, .struct [(0, 17)], [none]⟩ := rfl
theorem ty19 : ty.f 19 = some ⟨1, .agg #[.pointer none], 8, .struct [(0, 17)], [none]⟩ := rfl
theorem ty20 : ty.f 20 = some ⟨1, .nilIface, 16, .word, [none]⟩ := rfl
theorem ty21 : ty.f 21 = some ⟨1, .int .i32 0, 4, .int .i32, [none]⟩ := rfl
theorem ty22 : ty.f 22 = some ⟨1, .slice none 0 0, 24, .slice 52, [some 2]⟩ := rfl
theorem ty23 : ty.f 23 = some ⟨2, .agg #[.slice none 0 0, .slice none 0 0], 48, .struct [(0, 22), (1, 22)], [some 2, some 2]⟩ := rfl
theorem ty24 : ty.f 24 = some ⟨2, .agg #[.slice none 0 0, .slice none 0 0], 48, .struct [(0, 22), (1, 22)], [some 2, some 2]⟩ := rfl
theorem ty25 : ty.f 25 = some ⟨8, .agg #[.slice none 0 0, .slice none 0 0, .slice none 0 0, .slice none 0 0, .bool false, .int .i64 0, .slice none 0 0, .slice none 0 0], 160, .struct [(0, 24), (2, 24), (4, 4), (5, 3), (6, 24)], [some 2, some 2, some 2, some 2, none, none, some 2, some 2]⟩ := rfl
theorem ty26 : ty.f 26 = some ⟨8, .agg #[.slice none 0 0, .slice none 0 0, .slice none 0 0, .slice none 0 0, .bool false, .int .i64 0, .slice none 0 0, .slice none 0 0], 160, .struct [(0, 24), (2, 24), (4, 4), (5, 3), (6, 24)], [some 2, some 2, some 2, some 2, none, none, some 2, some 2]⟩ := rfl
theorem ty27 : ty.f 27 = some ⟨1, .slice none 0 0, 24, .slice 3, [some 1]⟩ := rfl
theorem ty30 : ty.f 30 = some ⟨1, .int .i64 0, 8, .int .i64, [none]⟩ := rfl
theorem ty40 : ty.f 40 = some ⟨1, .slice none 0 0, 24, .slice 24, [some 2]⟩ := rfl
theorem ty48 : ty.f 48 = some ⟨1, .int .u64 0, 8, .int .u64, [none]⟩ := rfl
theorem ty50 : ty.f 50 = some ⟨1, .int .u64 0, 8, .int .u64, [none]⟩ := rfl
theorem ty51 : ty.f 51 = some ⟨2, .agg #[.int .u64 0, .int .u64 0], 16, .struct [(0, 50), (1, 50)], [none, none]⟩ := rfl
theorem ty52 : ty.f 52 = some ⟨2, .agg #[.int .u64 0, .int .u64 0], 16, .struct [(0, 50), (1, 50)], [none, none]⟩ := rfl
theorem ty55 : ty.f 55 = some ⟨1, .slice none 0 0, 24, .slice 63, [some 3]⟩ := rfl
theorem ty57 : ty.f 57 = some ⟨1, .pointer none, 8, .word, [none]⟩ := rfl
theorem ty62 : ty.f 62 = some ⟨3, .agg #[.int .i64 0, .int .u64 0, .int .u64 0], 24, .struct [(0, 3), (1, 52)], [none, none, none]⟩ := rfl
theorem ty63 : ty.f 63 = some ⟨3, .agg #[.int .i64 0, .int .u64 0, .int .u64 0], 24, .struct [(0, 3), (1, 52)], [none, none, none]⟩ := rfl
theorem ty85 : ty.f 85 = some ⟨1, .slice none 0 0, 24, .slice 50, [some 1]⟩ := rfl
theorem ty94 : ty.f 94 = some ⟨1, .slice none 0 0, 24, .slice 22, [some 1]⟩ := rfl
theorem ty101 : ty.f 101 = some ⟨2, .agg #[.int .i64 0, .int .i64 0], 16, .arr 2 3, [none, none]⟩ := rfl
theorem ty121 : ty.f 121 = some ⟨1, .slice none 0 0, 24, .slice 126, [some 3]⟩ := rfl
theorem ty122 : ty.f 122 = some ⟨1, .slice none 0 0, 24, .slice 126, [some 3]⟩ := rfl
theorem ty123 : ty.f 123 = some ⟨4, .agg #[.slice none 0 0, .int .u64 0, .int .u64 0, .bool false], 48, .struct [(0, 122), (1, 52), (3, 4)], [some 3, none, none, none]⟩ := rfl
theorem ty124 : ty.f 124 = some ⟨4, .agg #[.slice none 0 0, .int .u64 0, .int .u64 0, .bool false], 48, .struct [(0, 122), (1, 52), (3, 4)], [some 3, none, none, none]⟩ := rfl
theorem ty125 : ty.f 125 = some ⟨3, .agg #[.int .i64 0, .bool false, .slice none 0 0], 40, .struct [(0, 3), (1, 4), (2, 22)], [none, none, some 2]⟩ := rfl
theorem ty126 : ty.f 126 = some ⟨3, .agg #[.int .i64 0, .bool false, .slice none 0 0], 40, .struct [(0, 3), (1, 4), (2, 22)], [none, none, some 2]⟩ := rfl
theorem ty128 : ty.f 128 = some ⟨1, .pointer none, 8, .word, [none]⟩ := rfl
theorem ty148 : ty.f 148 = some ⟨2, .agg #[.bool false, .bool false], 2, .struct [(0, 4), (1, 4)], [none, none]⟩ := rfl
theorem ty149 : ty.f 149 = some ⟨2, .agg #[.bool false, .bool false], 2, .struct [(0, 4), (1, 4)], [none, none]⟩ := rfl
theorem ty151 : ty.f 151 = some ⟨1, .map none, 8, .word, [none]⟩ := rfl
theorem ty164 : ty.f 164 = some ⟨1, .nilIface, 16, .word, [none]⟩ := rfl
theorem ty165 : ty.f 165 = some ⟨1, .nilIface, 16, .word, [none]⟩ := rfl
theorem ty179 : ty.f 179 = some ⟨2, .agg #[.slice none 0 0, .slice none 0 0], 48, .arr 2 22, [some 2, some 2]⟩ := rfl
theorem ty182 : ty.f 182 = some ⟨1, .slice none 0 0, 24, .slice 40, [some 1]⟩ := rfl
theorem ty196 : ty.f 196 = some ⟨1, .int .i64 0, 8, .int .i64, [none]⟩ := rfl
theorem ty203 : ty.f 203 = some ⟨1, .int .u32 0, 4, .int .u32, [none]⟩ := rfl
theorem ty205 : ty.f 205 = some ⟨1, .int .u64 0, 8, .int .u64, [none]⟩ := rfl
theorem ty209 : ty.f 209 = some ⟨1, .pointer none, 8, .word, [none]⟩ := rfl
theorem ty211 : ty.f 211 = some ⟨1, .pointer none, 8, .word, [none]⟩ := rfl
theorem ty215 : ty.f 215 = some ⟨4, .agg #[.pointer none, .pointer none, .pointer none, .string ⟨#[]⟩], 40, .struct [(0, 17), (1, 17), (2, 17), (3, 9)], [none, none, none, none]⟩ := rfl
theorem ty216 : ty.f 216 = some ⟨4, .agg #[.pointer none, .pointer none, .pointer none, .string ⟨#[]⟩], 40, .struct [(0, 17), (1, 17), (2, 17), (3, 9)], [none, none, none, none]⟩ := rfl
theorem ty217 : ty.f 217 = some ⟨0, .agg #[], 0, .arr 0 16, []⟩ := rfl
theorem ty218 : ty.f 218 = some ⟨0, .agg #[], 0, .struct [(0, 217)], []⟩ := rfl
theorem ty219 : ty.f 219 = some ⟨0, .agg #[], 0, .struct [(0, 217)], []⟩ := rfl
theorem ty220 : ty.f 220 = some ⟨1, .int .u8 0, 1, .int .u8, [none]⟩ := rfl
theorem ty221 : ty.f 221 = some ⟨1, .int .u8 0, 1, .int .u8, [none]⟩ := rfl
theorem ty223 : ty.f 223 = some ⟨1, .pointer none, 8, .word, [none]⟩ := rfl
theorem ty224 : ty.f 224 = some ⟨1, .int .i32 0, 4, .int .i32, [none]⟩ := rfl
theorem ty225 : ty.f 225 = some ⟨1, .int .i32 0, 4, .int .i32, [none]⟩ := rfl
theorem ty226 : ty.f 226 = some ⟨11, .agg #[.int .u64 0, .int .u64 0, .int .u32 0, .int .u8 0, .int .u8 0, .int .u8 0, .int .u8 0, .nilFunc, .pointer none, .int .i32 0, .int .i32 0], 48, .struct [(0, 12), (1, 12), (2, 203), (3, 220), (4, 5), (5, 5), (6, 221), (7, 222), (8, 223), (9, 224), (10, 225)], [none, none, none, none, none, none, none, none, none, none, none]⟩ := rfl
theorem ty227 : ty.f 227 = some ⟨11, .agg #[.int .u64 0, .int .u64 0, .int .u32 0, .int .u8 0, .int .u8 0, .int .u8 0, .int .u8 0, .nilFunc, .pointer none, .int .i32 0, .int .i32 0], 48, .struct [(0, 12), (1, 12), (2, 203), (3, 220), (4, 5), (5, 5), (6, 221), (7, 222), (8, 223), (9, 224), (10, 225)], [none, none, none, none, none, none, none, none, none, none, none]⟩ := rfl

theorem rises_cons {x : Pr} {a : List Pr} : Rises (x :: a) ↔ (∀ y ∈ a, lt x y) ∧ Rises a := by unfold Rises; exact List.pairwise_cons
theorem Rises.nil : Rises [] := List.Pairwise.nil
theorem rises_ext : ∀ {a b : List Pr}, Rises a → Rises b → (∀ p, p ∈ a ↔ p ∈ b) → a = b
  | [], [], _, _, _ => rfl
  | [], y :: b, _, _, h => by have := (h y).2 (by simp); simp at this
  | x :: a, [], _, _, h => by have := (h x).1 (by simp); simp at this
  | x :: a, y :: b, ha, hb, h => by
    obtain ⟨ha1, ha2⟩ := rises_cons.1 ha
    obtain ⟨hb1, hb2⟩ := rises_cons.1 hb
    have e : x = y := by
      have h1 := (h x).1 (by simp)
      have h2 := (h y).2 (by simp)
      simp only [List.mem_cons] at h1 h2
      rcases h1 with h1 | h1
      · exact h1
      · rcases h2 with h2 | h2
        · exact h2.symm
        · exact absurd (ha1 y h2) (lt_asymm (hb1 x h1))
    subst e
    rw [rises_ext ha2 hb2 fun p => ?_]
    have hp := h p
    simp only [List.mem_cons] at hp
    constructor
    · intro hm
      rcases hp.1 (.inr hm) with e | e
      · subst e; exact absurd (ha1 _ hm) (lt_irrefl _)
      · exact e
    · intro hm
      rcases hp.2 (.inr hm) with e | e
      · subst e; exact absurd (hb1 _ hm) (lt_irrefl _)
      · exact e
theorem Rises.sub {a b : List Pr} (h : Rises b) (s : List.Sublist a b) : Rises a := List.Pairwise.sublist s h

theorem withL_mem (l : List Pr) (p q : Pr) : q ∈ withL l p ↔ q ∈ l ∨ q = p := by
  unfold withL
  simp only [List.mem_append, List.mem_filter, List.mem_singleton, decide_eq_true_eq]
  constructor
  · rintro ((h | h) | h)
    · exact .inl h.1
    · exact .inr h
    · exact .inl h.1
  · rintro (h | h)
    · rcases lt_total q p with k | k | k
      · exact .inl (.inl ⟨h, k⟩)
      · exact .inl (.inr k)
      · exact .inr ⟨h, k⟩
    · exact .inl (.inr h)
theorem withL_rises {l : List Pr} (h : Rises l) (p : Pr) : Rises (withL l p) := by
  unfold withL Rises
  rw [List.pairwise_append, List.pairwise_append]
  refine ⟨⟨List.Pairwise.filter _ h, List.pairwise_singleton _ _, ?_⟩, List.Pairwise.filter _ h, ?_⟩
  · intro a ha b hb
    simp at ha hb; subst hb; exact ha.2
  · intro a ha b hb
    simp at ha hb
    rcases ha with ha | rfl
    · exact lt_trans ha.2 hb.2
    · exact hb.2
theorem fold_mem (l : List Pr) : ∀ (s : List Pr) (q : Pr), q ∈ l.foldl withL s ↔ q ∈ s ∨ q ∈ l := by
  induction l with
  | nil => intro s q; simp
  | cons x l ih => intro s q; rw [List.foldl_cons, ih, withL_mem, List.mem_cons, or_assoc]
theorem fold_rises (l : List Pr) : ∀ {s : List Pr}, Rises s → Rises (l.foldl withL s) := by
  induction l with
  | nil => intro s h; exact h
  | cons x l ih => intro s h; exact ih (withL_rises h x)
theorem ofL_mem (l : List Pr) (q : Pr) : q ∈ ofL l ↔ q ∈ l := by unfold ofL; rw [fold_mem]; simp
theorem ofL_rises (l : List Pr) : Rises (ofL l) := fold_rises l Rises.nil
theorem unionL_mem (a b : List Pr) (q : Pr) : q ∈ unionL a b ↔ q ∈ a ∨ q ∈ b := by unfold unionL; rw [fold_mem, ofL_mem]
theorem unionL_rises (a b : List Pr) : Rises (unionL a b) := fold_rises b (ofL_rises a)
def uniF : Nat → List Pr → List Pr → List Pr
  | 0, _, _ => []
  | _ + 1, [], b => b
  | f + 1, x :: a, [] => x :: uniF f a []
  | f + 1, x :: a, y :: b => if lt x y then x :: uniF f a (y :: b) else if lt y x then y :: uniF f (x :: a) b else uniF f a (y :: b)
def uniL (a b : List Pr) : List Pr := uniF (a.length + b.length + 1) a b
def allL (a b c d : List Pr) : List Pr := uniL (uniL (uniL (uniL [] a) b) c) d
theorem uniF_len : ∀ (f : Nat) (a b : List Pr), (uniF f a b).length ≤ a.length + b.length
  | 0, a, b => by simp [uniF]
  | f + 1, [], b => by simp [uniF]
  | f + 1, x :: a, [] => by
    have := uniF_len f a []
    simp [uniF] at this ⊢; omega
  | f + 1, x :: a, y :: b => by
    have h1 := uniF_len f a (y :: b)
    have h2 := uniF_len f (x :: a) b
    unfold uniF
    simp only [List.length_cons] at h1 h2 ⊢
    split
    · simp; omega
    · split
      · simp; omega
      · omega
theorem uniL_len (a b : List Pr) : (uniL a b).length ≤ a.length + b.length := uniF_len _ _ _

abbrev Told := Pr × Bool × Bool
def mgF : Nat → List Pr → List Pr → List Told
  | 0, _, _ => []
  | _ + 1, [], [] => []
  | f + 1, x :: a, [] => (x, true, false) :: mgF f a []
  | f + 1, [], y :: b => (y, false, true) :: mgF f [] b
  | f + 1, x :: a, y :: b => if lt x y then (x, true, false) :: mgF f a (y :: b) else if lt y x then (y, false, true) :: mgF f (x :: a) b else (x, true, true) :: mgF f a b
def mergedL (a b : List Pr) : List Told := mgF (a.length + b.length + 1) a b
theorem mgF_more : ∀ (f g : Nat) (a b : List Pr), a.length + b.length < f → a.length + b.length < g → mgF f a b = mgF g a b
  | 0, g, a, b, h, k => by omega
  | f, 0, a, b, h, k => by omega
  | f + 1, g + 1, [], [], h, k => rfl
  | f + 1, g + 1, x :: a, [], h, k => by
    simp only [mgF]
    rw [mgF_more f g a [] (by simp at h ⊢; omega) (by simp at k ⊢; omega)]
  | f + 1, g + 1, [], y :: b, h, k => by
    simp only [mgF]
    rw [mgF_more f g [] b (by simp at h ⊢; omega) (by simp at k ⊢; omega)]
  | f + 1, g + 1, x :: a, y :: b, h, k => by
    simp only [List.length_cons] at h k
    simp only [mgF]
    rw [mgF_more f g a (y :: b) (by simp; omega) (by simp; omega), mgF_more f g (x :: a) b (by simp; omega) (by simp; omega), mgF_more f g a b (by omega) (by omega)]
theorem mergedL_nil : mergedL [] [] = [] := rfl
theorem mergedL_left (x : Pr) (a : List Pr) : mergedL (x :: a) [] = (x, true, false) :: mergedL a [] := rfl
theorem mergedL_right (y : Pr) (b : List Pr) : mergedL [] (y :: b) = (y, false, true) :: mergedL [] b := by
  show mgF _ _ _ = _
  simp only [List.length_cons, List.length_nil, mgF]
  rfl
theorem mergedL_both (x y : Pr) (a b : List Pr) : mergedL (x :: a) (y :: b) = if lt x y then (x, true, false) :: mergedL a (y :: b) else if lt y x then (y, false, true) :: mergedL (x :: a) b else (x, true, true) :: mergedL a b := by
  unfold mergedL
  simp only [List.length_cons]
  rw [show a.length + 1 + (b.length + 1) + 1 = (a.length + 1 + b.length + 1) + 1 by omega]
  simp only [mgF]
  rw [mgF_more (a.length + 1 + b.length + 1) (a.length + (b.length + 1) + 1) a (y :: b) (by simp; omega) (by simp),
    mgF_more (a.length + 1 + b.length + 1) (a.length + b.length + 1) a b (by omega) (by omega)]
theorem mgF_is : ∀ (f : Nat) (a b : List Pr), a.length + b.length < f → Rises a → Rises b →
    Rises ((mgF f a b).map (·.1)) ∧ (∀ p, p ∈ (mgF f a b).map (·.1) ↔ p ∈ a ∨ p ∈ b) ∧ ∀ q ∈ mgF f a b, q.2.1 = decide (q.1 ∈ a) ∧ q.2.2 = decide (q.1 ∈ b)
  | 0, a, b, h, _, _ => by omega
  | f + 1, [], [], h, _, _ => by simp [mgF, Rises.nil]
  | f + 1, x :: a, [], h, ha, hb => by
    obtain ⟨h1, h2⟩ := rises_cons.1 ha
    obtain ⟨i1, i2, i3⟩ := mgF_is f a [] (by simp at h ⊢; omega) h2 hb
    simp only [mgF, List.map_cons]
    refine ⟨rises_cons.2 ⟨fun q hq => ?_, i1⟩, fun p => ?_, fun q hq => ?_⟩
    · rcases (i2 q).1 hq with k | k
      · exact h1 _ k
      · simp at k
    · rw [List.mem_cons, i2]; simp
    · rw [List.mem_cons] at hq
      rcases hq with rfl | hq
      · simp
      · have hm := (i2 q.1).1 (List.mem_map_of_mem hq)
        obtain ⟨j1, j2⟩ := i3 q hq
        rw [j1, j2]
        simp at hm ⊢
        exact fun _ => hm
  | f + 1, [], y :: b, h, ha, hb => by
    obtain ⟨h1, h2⟩ := rises_cons.1 hb
    obtain ⟨i1, i2, i3⟩ := mgF_is f [] b (by simp at h ⊢; omega) ha h2
    simp only [mgF, List.map_cons]
    refine ⟨rises_cons.2 ⟨fun q hq => ?_, i1⟩, fun p => ?_, fun q hq => ?_⟩
    · rcases (i2 q).1 hq with k | k
      · simp at k
      · exact h1 _ k
    · rw [List.mem_cons, i2]; simp
    · rw [List.mem_cons] at hq
      rcases hq with rfl | hq
      · simp
      · have hm := (i2 q.1).1 (List.mem_map_of_mem hq)
        obtain ⟨j1, j2⟩ := i3 q hq
        rw [j1, j2]
        simp at hm ⊢
        exact fun _ => hm
  | f + 1, x :: a, y :: b, h, ha, hb => by
    simp only [List.length_cons] at h
    obtain ⟨ha1, ha2⟩ := rises_cons.1 ha
    obtain ⟨hb1, hb2⟩ := rises_cons.1 hb
    simp only [mgF]
    by_cases c1 : lt x y
    · rw [if_pos c1]
      obtain ⟨i1, i2, i3⟩ := mgF_is f a (y :: b) (by simp; omega) ha2 hb
      have gt : ∀ q, q ∈ a ∨ q ∈ y :: b → lt x q := by
        rintro q (k | k)
        · exact ha1 _ k
        · rw [List.mem_cons] at k
          rcases k with rfl | k
          · exact c1
          · exact lt_trans c1 (hb1 _ k)
      refine ⟨rises_cons.2 ⟨fun q hq => gt q ((i2 q).1 hq), i1⟩, fun p => ?_, fun q hq => ?_⟩
      · rw [List.map_cons, List.mem_cons, i2, List.mem_cons (a := p) (b := x), or_assoc]
      · rw [List.mem_cons] at hq
        rcases hq with rfl | hq
        · have : x ∉ y :: b := fun k => lt_irrefl _ (gt x (.inr k))
          simp only [List.mem_cons, true_or, decide_true, true_and]
          simp only [List.mem_cons] at this
          simp [this]
        · have hm := gt q.1 ((i2 q.1).1 (List.mem_map_of_mem hq))
          obtain ⟨j1, j2⟩ := i3 q hq
          have hne : q.1 ≠ x := fun e => lt_irrefl x (by rw [e] at hm; exact hm)
          rw [j1, j2]
          simp [hne]
    · rw [if_neg c1]
      by_cases c2 : lt y x
      · rw [if_pos c2]
        obtain ⟨i1, i2, i3⟩ := mgF_is f (x :: a) b (by simp; omega) ha hb2
        have gt : ∀ q, q ∈ x :: a ∨ q ∈ b → lt y q := by
          rintro q (k | k)
          · rw [List.mem_cons] at k
            rcases k with rfl | k
            · exact c2
            · exact lt_trans c2 (ha1 _ k)
          · exact hb1 _ k
        refine ⟨rises_cons.2 ⟨fun q hq => gt q ((i2 q).1 hq), i1⟩, fun p => ?_, fun q hq => ?_⟩
        · rw [List.map_cons, List.mem_cons, i2, List.mem_cons (a := p) (b := y)]
          constructor
          · rintro (k | k | k) <;> simp_all
          · rintro (k | k | k) <;> simp_all
        · rw [List.mem_cons] at hq
          rcases hq with rfl | hq
          · have : y ∉ x :: a := fun k => lt_irrefl _ (gt y (.inl k))
            simp only [List.mem_cons] at this
            simp [this]
          · have hm := gt q.1 ((i2 q.1).1 (List.mem_map_of_mem hq))
            obtain ⟨j1, j2⟩ := i3 q hq
            have hne : q.1 ≠ y := fun e => lt_irrefl y (by rw [e] at hm; exact hm)
            rw [j1, j2]
            simp [hne]
      · rw [if_neg c2]
        have e : x = y := by rcases lt_total x y with k | k | k; exact absurd k c1; exact k; exact absurd k c2
        subst e
        obtain ⟨i1, i2, i3⟩ := mgF_is f a b (by omega) ha2 hb2
        have gt : ∀ q, q ∈ a ∨ q ∈ b → lt x q := by
          rintro q (k | k)
          · exact ha1 _ k
          · exact hb1 _ k
        refine ⟨rises_cons.2 ⟨fun q hq => gt q ((i2 q).1 hq), i1⟩, fun p => ?_, fun q hq => ?_⟩
        · rw [List.map_cons, List.mem_cons, i2, List.mem_cons (a := p) (b := x), List.mem_cons (a := p) (b := x)]
          constructor
          · rintro (k | k | k) <;> simp_all
          · rintro ((k | k) | k | k) <;> simp_all
        · rw [List.mem_cons] at hq
          rcases hq with rfl | hq
          · simp
          · have hm := gt q.1 ((i2 q.1).1 (List.mem_map_of_mem hq))
            obtain ⟨j1, j2⟩ := i3 q hq
            have hne : q.1 ≠ x := fun e => lt_irrefl x (by rw [e] at hm; exact hm)
            rw [j1, j2]
            simp [hne]
def keptH (h : Bool → Bool → Bool) (a b : List Pr) : List Pr := ((mergedL a b).filter (fun q => h q.2.1 q.2.2)).map (·.1)
theorem keptH_mem (h : Bool → Bool → Bool) {a b : List Pr} (ha : Rises a) (hb : Rises b) (p : Pr) : p ∈ keptH h a b ↔ (p ∈ a ∨ p ∈ b) ∧ h (decide (p ∈ a)) (decide (p ∈ b)) = true := by
  obtain ⟨i1, i2, i3⟩ := mgF_is (a.length + b.length + 1) a b (by omega) ha hb
  unfold keptH mergedL
  rw [← i2]
  simp only [List.mem_map, List.mem_filter]
  constructor
  · rintro ⟨q, ⟨k1, k2⟩, rfl⟩
    obtain ⟨j1, j2⟩ := i3 q k1
    rw [j1, j2] at k2
    exact ⟨⟨q, k1, rfl⟩, k2⟩
  · rintro ⟨⟨q, k1, rfl⟩, k2⟩
    obtain ⟨j1, j2⟩ := i3 q k1
    rw [← j1, ← j2] at k2
    exact ⟨q, ⟨k1, k2⟩, rfl⟩
theorem mgF_len : ∀ (f : Nat) (a b : List Pr), (mgF f a b).length ≤ a.length + b.length
  | 0, a, b => by simp [mgF]
  | f + 1, [], [] => by simp [mgF]
  | f + 1, x :: a, [] => by
    have := mgF_len f a []
    simp [mgF] at this ⊢; omega
  | f + 1, [], y :: b => by
    have := mgF_len f [] b
    simp [mgF] at this ⊢; omega
  | f + 1, x :: a, y :: b => by
    have h1 := mgF_len f a (y :: b)
    have h2 := mgF_len f (x :: a) b
    have h3 := mgF_len f a b
    unfold mgF
    simp only [List.length_cons] at h1 h2 ⊢
    split
    · simp; omega
    · split <;> (simp; omega)
theorem keptH_both {a b : List Pr} (ha : Rises a) (hb : Rises b) : ((keptH (fun x y => x && y) a b).length = 0) = ((keptL a b true).length = 0) := by
  rw [List.length_eq_zero_iff, List.length_eq_zero_iff, List.eq_nil_iff_forall_not_mem, List.eq_nil_iff_forall_not_mem]
  refine propext (forall_congr' fun p => ?_)
  rw [keptH_mem _ ha hb]
  unfold keptL
  simp only [List.mem_filter]
  by_cases h1 : p ∈ a <;> by_cases h2 : p ∈ b <;> simp [h1, h2]

def KU (Z : Zone) (A B : World) : Prop := A.heap.size ≤ B.heap.size ∧ ∀ b, Z b → b < A.heap.size → B.heap[b]? = A.heap[b]?
theorem KU.trans {Z : Zone} {A B C : World} (h : KU Z A B) (k : KU Z B C) : KU Z A C := ⟨Nat.le_trans h.1 k.1, fun b h1 h2 => (k.2 b h1 (by have := h.1; omega)).trans (h.2 b h1 h2)⟩
theorem KU.refl (Z : Zone) (A : World) : KU Z A A := ⟨Nat.le_refl _, fun _ _ _ => rfl⟩
theorem KU.mono {Z Z' : Zone} {A B : World} (h : KU Z A B) (hz : ∀ b, Z' b → Z b) : KU Z' A B := ⟨h.1, fun b h1 h2 => h.2 b (hz b h1) h2⟩
def IterU (P : Program) (g : Nat) (lb : Array Value) {α : Type} (encs : α → Array Value) (Z U0 : Zone) (Pre : World → Prop) (Sx : List α → α → Prop) (S : List α → Prop) : Prop :=
  ∀ (l : Nat) (J : Zone → List α → World → Prop) (W : World), Pre W →
    (∀ U U' pre W W', J U pre W → Keeps (fun b => ¬ U b) W W' → (∀ b, U' b → b < W'.heap.size ∧ (U b ∨ W.heap.size ≤ b)) → J U' pre W') →
    (∀ U pre x W1, J U pre W1 → Sx pre x → YieldAt Fence.wide 8 P l (encs x) W1 fun e W' => e = .returned (.bool true) ∧ J U (pre ++ [x]) W' ∧ KU (fun b => Z b ∨ U b) W1 W') →
    J U0 [] W →
    CallsIn Fence.wide 9 P g (#[.func (.yield l) #[] #[]] ++ lb) W fun e W' => (∃ v, e = .returned v) ∧ ∃ U xs, S xs ∧ J U xs W'
def roundEndU {α : Type} (D : Nat) (Z U : Zone) (I : Zone → List α → World → Prop) (xs : List α) (W : World) : Exit → Act → World → Prop
  | .normal, _, W' => KeepsAt D W W' ∧ KU (fun b => Z b ∨ U b) W W' ∧ I U xs W'
  | _, _, _ => False
theorem range_wideU {P : Program} {α : Type} {g : Operand} {ps : Array Tmp} {assign body : Code} {Q : Exit → Act → World → Prop} {a : Act} {w : World}
    {gf : Nat} {lb : Array Value} (hg : a.eval g = .func (.func gf) #[] lb) (eg : ∀ args w, (callFunc gf args).run P w = .ok (.enter gf args) w)
    {encs : α → Array Value} {Z U0 : Zone} {Pre : World → Prop} {Sx : List α → α → Prop} {S : List α → Prop}
    (hseq : IterU P gf lb encs Z U0 Pre Sx S) (hPre : ∀ W, Below w.heap.size w W → Pre W) (hZ : ∀ b, Z b → b < w.heap.size) (hU : ∀ b, U0 b → b < w.heap.size)
    (hps : ∀ pre x, Sx pre x → (encs x).size = ps.size)
    (I : Zone → List α → World → Prop) (Ia : Zone → List α → α → Act → World → Prop)
    (hI : ∀ U U' pre W W', I U pre W → Keeps (fun b => ¬ U b ∧ b ≠ w.heap.size ∧ b ≠ w.heap.size + 1) W W' → w.heap.size + 2 ≤ W'.heap.size → (∀ b, U' b → b < W'.heap.size ∧ (U b ∨ W.heap.size ≤ b)) → ¬ U' w.heap.size → ¬ U' (w.heap.size + 1) → I U' pre W')
    (hIa : ∀ U pre x a W W', Ia U pre x a W → Keeps (fun k => True ∧ k ≠ w.heap.size ∧ k ≠ w.heap.size + 1) W W' → Ia U pre x a W')
    (h0 : I U0 [] w)
    (hassign : ∀ (l : Nat) (U : Zone) (pre : List α) (x : α) (W : World), I U pre W → Sx pre x → w.heap.size + 2 ≤ W.heap.size →
      assign.wpIn (Fence.wide.inRound l) 8 P (Exit.then (fun a₁ W' => KeepsAt w.heap.size W W' ∧ KU (fun b => Z b ∨ U b) W W' ∧ Ia U pre x a₁ W') (fun _ _ _ => False)) { tmps := (ps.zip (encs x)).foldl (fun t (p, v) => t.setIfInBounds p v) a.tmps, defers := [] } W)
    (hbody : ∀ (l : Nat) (U : Zone) (pre : List α) (x : α) (a₁ : Act) (W : World), Ia U pre x a₁ W → Sx pre x → w.heap.size + 2 ≤ W.heap.size →
      body.wpIn (Fence.wide.inRound l) 8 P (roundEndU w.heap.size Z U I (pre ++ [x]) W) a₁ W)
    (hdone : ∀ (U : Zone) (xs : List α) (W : World), S xs → I U xs W → W.heap[w.heap.size]? = some (.deferred (some [])) → Q .normal { a with defers := { target := .collected w.heap.size, args := #[] } :: a.defers } W)
    (hlt : ∀ U pre W b, I U pre W → U b → b < W.heap.size) :
    (Code.rangeFunc g ps assign body).wpIn Fence.wide 10 P Q a w := by
  refine wpIn_rangeFunc ?_
  intro fn hfn
  obtain ⟨rec, hrec⟩ : ∃ rec : LoopState → Option Code → Loop, rec = fun st pe => { state := st, pending := pe, fn, tmps := a.tmps, params := ps, assign, body, defers := w.heap.size } := ⟨_, rfl⟩
  obtain ⟨W1, hW1⟩ : ∃ W1, (w.alloc (.deferred (some []))).alloc (.loop (rec .ready none)) = W1 := ⟨_, rfl⟩
  have hL1 : W1.heap[w.heap.size + 1]? = some (.loop (rec .ready none)) := by
    rw [← hW1]; have := World.alloc_heap_new (w.alloc (.deferred (some []))) (.loop (rec .ready none)); rwa [World.size_alloc] at this
  have hK1 : W1.heap[w.heap.size]? = some (.deferred (some [])) := by
    rw [← hW1]; exact (Below.heap_alloc _ _ _ (by simp)).trans (World.alloc_heap_new w _)
  have hb1 : Below w.heap.size w W1 := by
    rw [← hW1]; exact ((Below.refl _ w).alloc (Nat.le_refl _) _).alloc (by simp) _
  have lt_of : ∀ {W : World} {k : Nat} {o : Obj}, W.heap[k]? = some o → k < W.heap.size := fun h => (Array.getElem?_eq_some_iff.1 h).1
  have n0 : ¬ U0 w.heap.size ∧ ¬ U0 (w.heap.size + 1) := ⟨fun e => by have := hU _ e; omega, fun e => by have := hU _ e; omega⟩
  have hI1 : I U0 [] W1 := by
    refine hI U0 U0 _ _ _ h0 ?_ ?_ ?_ n0.1 n0.2
    · rw [← hW1]; exact ((Keeps.refl _ w).alloc _).alloc _
    · have := lt_of hL1; omega
    · exact fun b hb => ⟨by have := hU b hb; have := hb1.size; omega, .inl hb⟩
  have kpu : ∀ (U : Zone) (W : World) (o : Obj), Keeps (fun k => ¬ U k ∧ k ≠ w.heap.size ∧ k ≠ w.heap.size + 1) W (W.putObj (w.heap.size + 1) o) := fun U W o => putObj_keeps W _ o (by simp)
  have kpt : ∀ (W : World) (o : Obj), Keeps (fun k => True ∧ k ≠ w.heap.size ∧ k ≠ w.heap.size + 1) W (W.putObj (w.heap.size + 1) o) := fun W o => putObj_keeps W _ o (by simp)
  have kub : ∀ (U : Zone) (W : World) (o : Obj), ¬ U (w.heap.size + 1) → KU (fun b => Z b ∨ U b) W (W.putObj (w.heap.size + 1) o) := fun U W o h => ⟨by simp, fun b hb _ => World.putObj_heap_other (by
    rintro rfl
    rcases hb with hb | hb
    · have := hZ _ hb; omega
    · exact h hb)⟩
  have Iput : ∀ {U : Zone} {pre : List α} {W : World} (o : Obj), I U pre W → w.heap.size + 2 ≤ W.heap.size → ¬ U w.heap.size → ¬ U (w.heap.size + 1) → I U pre (W.putObj (w.heap.size + 1) o) := fun {U pre W} o h hs a1 a2 =>
    hI U U _ _ _ h (kpu U W o) (by simpa using hs) (fun b hb => ⟨by simpa using hlt _ _ _ _ h hb, .inl hb⟩) a1 a2
  refine ⟨w.heap.size + 1, [{ target := .collected w.heap.size, args := #[] }], W1, { target := .fn (.func gf) lb, args := #[.func (.yield (w.heap.size + 1)) #[] #[]] }, W1, gf,
    #[.func (.yield (w.heap.size + 1)) #[] #[]] ++ lb, W1, ?_, ?_, ?_, ?_, fun _ => by omega, ?_⟩
  · rw [← hW1, hrec]; exact run_enterLoop_outer _ _ _ _ _
  · simp only [resolve, hg]
    simp [go_sem]
  · intro f' _; trivial
  · simp [invoke, go_sem, eg]
  refine (hseq (w.heap.size + 1)
    (fun U pre W => I U pre W ∧ W.heap[w.heap.size + 1]? = some (.loop (rec .ready none)) ∧ W.heap[w.heap.size]? = some (.deferred (some [])) ∧ ¬ U w.heap.size ∧ ¬ U (w.heap.size + 1))
    W1 (hPre _ hb1)
    (fun U U' pre W W' hs hk hu => by
      obtain ⟨h1, h2, h3, h4, h5⟩ := hs
      have n4 : ¬ U' w.heap.size := fun e => by rcases (hu _ e).2 with e | e; exact h4 e; have := lt_of h3; omega
      have n5 : ¬ U' (w.heap.size + 1) := fun e => by rcases (hu _ e).2 with e | e; exact h5 e; have := lt_of h2; omega
      refine ⟨hI _ _ _ _ _ h1 ⟨hk.os, hk.tape, hk.output, hk.size, fun k q1 q2 => hk.block k q1 q2.1⟩ ?_ hu n4 n5, (hk.block _ (lt_of h2) h5).trans h2, (hk.block _ (lt_of h3) h4).trans h3, n4, n5⟩
      have := lt_of h2; have := hk.size; omega)
    ?_ ⟨hI1, hL1, hK1, n0.1, n0.2⟩).mono ?_
  · rintro U pre x W ⟨hi, hl, hd, u1, u2⟩ hx
    have hlt := lt_of hl
    have hy := run_yield (P := P) (args := encs x) hl (by rw [hrec]; exact hps _ x hx)
    rw [hrec] at hy
    refine ⟨fn, _, assign, body, hy, roundIn_of_wpIn hfn (wpIn_mono (hassign _ U pre x W hi hx hlt) ?_)⟩
    intro e a₁ W2 hp
    cases e with
    | normal =>
      obtain ⟨hk2, hkp2, hia⟩ := hp
      have hl2 := hk2.2.trans hl
      have hd2 := hk2.1.trans hd
      refine ⟨_, run_beginRound hl2 (by rw [hrec]), ?_⟩
      have hl3 : (W2.putObj (w.heap.size + 1) (.loop { rec .ready none with state := .busy })).heap[w.heap.size + 1]? = some (.loop { rec .ready none with state := .busy }) := World.putObj_heap_same (lt_of hl2)
      have hd3 : (W2.putObj (w.heap.size + 1) (.loop { rec .ready none with state := .busy })).heap[w.heap.size]? = some (.deferred (some [])) := (World.putObj_heap_other (by omega)).trans hd2
      have hs2 := hkp2.1
      refine wpIn_mono (hbody _ U pre x _ _ (hIa _ _ _ _ _ _ hia (kpt _ _)) hx (by simp; omega)) ?_
      rintro e a3 W3 hp
      cases e with
      | normal =>
        obtain ⟨hk3, hkp3, hi3⟩ := hp
        have hl4 := hk3.2.trans hl3
        have hr := run_endRound (P := P) none hl4
        rw [hrec] at hr
        have hs3 := lt_of hl4
        refine ⟨_, _, hr, rfl, ⟨Iput _ hi3 (by omega) u1 u2, ?_, (World.putObj_heap_other (by omega)).trans (hk3.1.trans hd3), u1, u2⟩, hkp2.trans ((kub U _ _ u2).trans (hkp3.trans (kub U _ _ u2)))⟩
        rw [hrec]
        exact World.putObj_heap_same (lt_of hl4)
      | _ => exact hp.elim
    | _ => exact hp.elim
  · rintro e W2 ⟨⟨v, rfl⟩, U, xs, hS, hi, hl, hd, u1, u2⟩
    refine ⟨none, _, by have := run_endLoop (P := P) hl (by rw [hrec]; simp); rw [hrec] at this; exact this, hdone U xs _ hS (Iput _ hi (by have := lt_of hl; omega) u1 u2) ((World.putObj_heap_other (by omega)).trans hd)⟩
def ctxU (C : Cx) (G0 : Gh) (zs : List Nat) (D : Nat) (a : Act) (U : Zone) (W : World) : Cx where
  W0 := W
  B := fun g => g < W.heap.size ∧ ((C.B g ∨ G0.zu zs g ∨ g = D ∨ g = D + 1) ∨ U g)
  N := C.N
  pv := fun _ t => a.tmps.getD t undef
  pz := C.pz ++ zs
  Zp := fun z g => (if z ∈ zs then G0.ζ z g else C.Zp z g) ∧ g < D
  ob := []
  hB := fun _ h => h.1
structure UI (C : Cx) (G0 : Gh) (zs : List Nat) (D : Nat) (U : Zone) (W : World) : Prop where
  lt : ∀ b, U b → b < W.heap.size
  nb : ∀ b, U b → ¬ C.B b
  nz : ∀ b, U b → ¬ G0.zu zs b
  nd : ¬ U D ∧ ¬ U (D + 1)
  np : ∀ b, U b → ∀ z ∈ C.pz, ¬ C.Zp z b
section
variable {P : Program} {C : Cx} {G0 G : Gh} {σ : St} {a a1 : Act} {w W W1 W2 : World} {zs : List Nat} {U U' : Zone}
theorem UI.next (h : UI C G0 zs w.heap.size U W) (hC : C.W0.heap.size ≤ w.heap.size) (hZp : ∀ z g, C.Zp z g → g < C.W0.heap.size) (hZ : ∀ g, G0.zu zs g → g < w.heap.size) (hW : w.heap.size ≤ W.heap.size) (hu : ∀ b, U' b → b < W2.heap.size ∧ (U b ∨ W.heap.size ≤ b)) (n1 : ¬ U' w.heap.size) (n2 : ¬ U' (w.heap.size + 1)) : UI C G0 zs w.heap.size U' W2 := by
  have key : ∀ b, U' b → U b ∨ w.heap.size ≤ b := fun b hb => by
    rcases (hu b hb).2 with h | h
    · exact .inl h
    · exact .inr (by omega)
  refine ⟨fun b hb => (hu b hb).1, fun b hb q => ?_, fun b hb q => ?_, ⟨n1, n2⟩, fun b hb z hz q => ?_⟩
  · rcases key b hb with h' | h'
    · exact h.nb b h' q
    · have := C.hB b q; omega
  · rcases key b hb with h' | h'
    · exact h.nz b h' q
    · have := hZ b q; omega
  · rcases key b hb with h' | h'
    · exact h.np b h' z hz q
    · have := hZp z b q; omega
theorem ASG.mvU (h : ASG (ctxU C G0 zs w.heap.size a U W) G σ a1 W1) (hi : UI C G0 zs w.heap.size U W) (hdf : σ .df = .df 0) (hC : C.W0.heap.size ≤ w.heap.size) (hZ : ∀ g, G0.zu zs g → g < w.heap.size)
    (hD : ∀ g, g < W1.heap.size → (g = w.heap.size ∨ g = w.heap.size + 1) → g < W.heap.size) (hW : w.heap.size ≤ W.heap.size) (hk : Keeps (fun k => ¬ U k ∧ k ≠ w.heap.size ∧ k ≠ w.heap.size + 1) W1 W2) (hu : ∀ b, U' b → U b ∨ W1.heap.size ≤ b) : ASG (ctxU C G0 zs w.heap.size a U' W2) G σ a1 W2 := by
  have cB : ∀ g, C.B g → g < w.heap.size := fun g hg => Nat.lt_of_lt_of_le (C.hB g hg) hC
  have hn : ∀ n, Nm σ n → ¬ C.B (G.ρ n) ∧ ¬ G0.zu zs (G.ρ n) ∧ G.ρ n ≠ w.heap.size ∧ G.ρ n ≠ w.heap.size + 1 ∧ ¬ U (G.ρ n) ∧ G.ρ n < W1.heap.size := fun n hn => by
    obtain ⟨q1, q2⟩ := h.nm n hn
    exact ⟨fun e => q1 ⟨by have := cB _ e; omega, .inl (.inl e)⟩, fun e => q1 ⟨by have := hZ _ e; omega, .inl (.inr (.inl e))⟩, fun e => q1 ⟨hD _ q2 (.inl e), .inl (.inr (.inr (.inl e)))⟩, fun e => q1 ⟨hD _ q2 (.inr e), .inl (.inr (.inr (.inr e)))⟩, fun e => q1 ⟨hi.lt _ e, .inr e⟩, q2⟩
  have hz : ∀ z g, z ∉ C.pz ++ zs → Lv σ z → G.ζ z g → ¬ C.B g ∧ ¬ G0.zu zs g ∧ g ≠ w.heap.size ∧ g ≠ w.heap.size + 1 ∧ ¬ U g ∧ g < W1.heap.size := fun z g h0 hl hg => by
    have q2 := (h.sep z g hl hg).1
    have q1 := (h.new z g h0 hl hg).1
    exact ⟨fun e => q1 ⟨by have := cB _ e; omega, .inl (.inl e)⟩, fun e => q1 ⟨by have := hZ _ e; omega, .inl (.inr (.inl e))⟩, fun e => q1 ⟨hD _ q2 (.inl e), .inl (.inr (.inr (.inl e)))⟩, fun e => q1 ⟨hD _ q2 (.inr e), .inl (.inr (.inr (.inr e)))⟩, fun e => q1 ⟨hi.lt _ e, .inr e⟩, q2⟩
  have hp : ∀ z g, z ∈ C.pz ++ zs → Lv σ z → G.ζ z g → g < w.heap.size ∧ ¬ U g := fun z g h0 hl hg => by
    obtain ⟨q1, q2⟩ := (h.zz z h0 hl g).1 hg
    refine ⟨q2, fun e => ?_⟩
    by_cases hz' : z ∈ zs
    · rw [if_pos hz'] at q1
      exact hi.nz g e ⟨z, hz', q1⟩
    · rw [if_neg hz'] at q1
      exact hi.np g e z (by simpa [hz'] using h0) q1
  have hB2 : ∀ g, ¬ C.B g ∧ ¬ G0.zu zs g → ¬ (g < W1.heap.size ∧ (C.B g ∨ G0.zu zs g)) := fun g q e => e.2.elim q.1 q.2
  have h1 : ASG { ctxU C G0 zs w.heap.size a U W with W0 := W1, B := fun g => g < W1.heap.size ∧ (C.B g ∨ G0.zu zs g), hB := fun _ h => h.1 } G σ a1 W1 :=
    h.rebase rfl rfl (fun i t x e => h.vt i t x e) (fun z h0 hl g => h.zz z h0 hl g) (fun n q => hB2 _ ⟨(hn n q).1, (hn n q).2.1⟩) (fun z g h0 hl hg => ⟨hB2 _ ⟨(hz z g h0 hl hg).1, (hz z g h0 hl hg).2.1⟩, (h.new z g h0 hl hg).2⟩) hdf rfl
  have h2 := (h1.step hk (fun g hg => by
      have h3 : g < w.heap.size := hg.2.elim (cB g) (hZ g)
      refine ⟨fun e => hg.2.elim (hi.nb g e) (hi.nz g e), ?_, ?_⟩ <;> omega)
    (fun n q => ⟨(hn n q).2.2.2.2.1, (hn n q).2.2.1, (hn n q).2.2.2.1⟩)
    (fun z g hl hg => by
      by_cases h0 : z ∈ C.pz ++ zs
      · have := hp z g h0 hl hg
        refine ⟨this.2, ?_, ?_⟩ <;> omega
      · exact ⟨(hz z g h0 hl hg).2.2.2.2.1, (hz z g h0 hl hg).2.2.1, (hz z g h0 hl hg).2.2.2.1⟩)
    (fun k i e hi => by rw [hdf] at e; cases e; omega) (fun p q => by cases q)).1
  exact h2.rebase rfl rfl (fun i t x e => h2.vt i t x e) (fun z h0 hl g => h2.zz z h0 hl g)
    (fun n q e => by
      obtain ⟨a1, a2, a3, a4, a5, a6⟩ := hn n q
      rcases e.2 with (e | e | e | e) | e
      · contradiction
      · contradiction
      · contradiction
      · contradiction
      · rcases hu _ e with e | e
        · contradiction
        · omega)
    (fun z g h0 hl hg => ⟨fun e => by
      obtain ⟨a1, a2, a3, a4, a5, a6⟩ := hz z g h0 hl hg
      rcases e.2 with (e | e | e | e) | e
      · contradiction
      · contradiction
      · contradiction
      · contradiction
      · rcases hu _ e with e | e
        · contradiction
        · omega, (h2.new z g h0 hl hg).2⟩) hdf rfl
theorem ASG.toU (h : ASG (ctxR C G0 zs w.heap.size a w) G σ a1 w) (hdf : σ .df = .df 0) (hn : ∀ b, U b → (∀ n, Nm σ n → G.ρ n ≠ b) ∧ ∀ z, z ∉ C.pz ++ zs → Lv σ z → ¬ G.ζ z b) : ASG (ctxU C G0 zs w.heap.size a U w) G σ a1 w :=
  h.rebase rfl rfl (fun i t x e => h.vt i t x e) (fun z h0 hl g => h.zz z h0 hl g)
    (fun n q e => by
      rcases e.2 with e' | e'
      · exact (h.nm n q).1 ⟨e.1, e'⟩
      · exact (hn _ e').1 n q rfl)
    (fun z g h0 hl hg => ⟨fun e => by
      rcases e.2 with e' | e'
      · exact (h.new z g h0 hl hg).1 ⟨e.1, e'⟩
      · exact (hn _ e').2 z h0 hl hg, (h.new z g h0 hl hg).2⟩) hdf rfl
theorem ASG.ofU (h : ASG (ctxU C G0 zs w.heap.size a U W) G σ a1 W) (hdf : σ .df = .df 0) : ASG (ctxR C G0 zs w.heap.size a W) G σ a1 W :=
  h.rebase rfl rfl (fun i t x e => h.vt i t x e) (fun z h0 hl g => h.zz z h0 hl g) (fun n q e => (h.nm n q).1 ⟨e.1, .inl e.2⟩) (fun z g h0 hl hg => ⟨fun e => (h.new z g h0 hl hg).1 ⟨e.1, .inl e.2⟩, (h.new z g h0 hl hg).2⟩) hdf rfl
end
section
variable {P : Program} {C : Cx} {G0 G : Gh} {σ : St} {a a1 : Act} {w W W1 W2 : World} {zs : List Nat} {U U' : Zone}
theorem ASG.parU {L' : Row} {ps : List Nat} {vs : Array Value} {x : List DV} (hm : OkM C.N ps zs L') (hnd : ps.Nodup) (hs : a.tmps.size = C.N) (hps : ∀ p ∈ ps, p < C.N) (hx : Reps (G.zu zs) W vs x)
    (h : ASG (ctxU C G0 zs w.heap.size a U W) G (lk L') { tmps := a.tmps, defers := [] } W) :
    ASG (ctxU C G0 zs w.heap.size a U W) G (lk (parRows zs ps x ++ tmB L')) { tmps := (ps.zip vs.toList).foldl (fun t (p, v) => t.setIfInBounds p v) a.tmps, defers := [] } W := by
  refine h.react (fun key hk => ?_) (by rw [size_params]; exact hs) rfl (fun t y e => ?_)
  · rw [lk_par (fun p _ => hk p), lk_tmB hm.nt]
    cases key <;> first | exact absurd rfl (hk _) | rfl
  · rcases lk_par_at e with ⟨i, d, e1, e2, e3, e4⟩ | e
    · have hi : i < vs.size := by rw [hx.1]; exact (List.getElem?_eq_some_iff.1 e2).1
      refine ⟨vs[i], at_params ps vs.toList a.tmps i _ hnd e1 (by simp [hi]) (by rw [hs]; exact hps t (List.mem_of_getElem? e1)), ?_⟩
      rw [e3]
      have := hx.2 i d e2
      rw [Array.getD_eq_getD_getElem?, Array.getElem?_eq_getElem hi] at this
      have r := atz_rep (σ := lk L') (fun z hz => (hm.lv z hz).used) this
      exact r
    · rw [lk_tmB hm.nt] at e
      have e : lk L' (.vt 0 t) = .av y := e
      obtain ⟨h1, h2⟩ := hm.vt t (by rw [e]; simp)
      have hlt : t < a.tmps.size := by rw [hs]; exact h1
      rw [get_params ps vs.toList a.tmps h2]
      have r := h.vt 0 t y e
      have e2 : (ctxU C G0 zs w.heap.size a U W).pv 0 t = a.tmps[t] := by simp [ctxU, Array.getD_eq_getD_getElem?, hlt]
      rw [e2] at r
      exact ⟨_, by simp [hlt], r⟩
theorem AW.rangeU {o : Operand} {ps : Array Tmp} {asg body : Code} {Q : Exit → Act → World → Prop} {L L0 : Row} {l : List (List DV)} (hO : C.ob = []) (hZp : ∀ z g, C.Zp z g → g < C.W0.heap.size) (hdf : lk L0 .df = .df 0) (hpz : ∀ z ∈ C.pz, Lv (lk L0) z) (hlv : ∀ z ∈ zs, Lv (lk L0) z)
    (hU : ∀ (a : Act) (w : World) (G : Gh), ASG C G (lk L) a w → ∃ (gf : Nat) (lb : Array Value) (U0 : Zone) (G' : Gh), a.eval o = .func (.func gf) #[] lb ∧ (∀ args w, (callFunc gf args).run P w = .ok (.enter gf args) w) ∧ ASG C G' (lk L0) a w ∧ (∀ b, U0 b → Mine C G' (lk L0) w b) ∧
      IterU P gf lb (fun vs : Array Value => vs) (G'.zu zs) U0 (fun W => KU (fun b => G'.zu zs b ∨ U0 b) w W) (fun pre vs => ∃ x, l[pre.length]? = some x ∧ Reps (fun _ => False) w vs x) (fun xs => xs.length = l.length))
    (hps : ∀ x ∈ l, x.length = ps.size) (hnd : ps.toList.Nodup) (hpN : ∀ p ∈ ps.toList, p < C.N)
    (M : Nat → Row) (hM : ∀ k, okM C.N ps.toList zs (M k) = true)
    (h0 : ∀ C' : Cx, C'.pz = C.pz ++ zs → C'.N = C.N → ∀ a w, AS C' (lk (vtOf L0)) a w → AS C' (lk (M 0)) a w)
    (hr : ∀ (k : Nat) (x : List DV), l[k]? = some x → ∃ L1, df0B (lk L1 .df) = true ∧ (∀ ln, ∀ C' : Cx, C'.pz = C.pz ++ zs → C'.N = C.N → AW P C' (some ln) asg (RN C' L1) (parRows zs ps.toList x ++ tmB (M k))) ∧
      ∀ ln, ∀ C' : Cx, C'.pz = C.pz ++ zs → C'.N = C.N → AW P C' (some ln) body (RN C' (M (k + 1))) L1)
    (hdone : ∀ (a : Act) (w : World), AS C (lk L) a w → ∀ d W, AS C (lk ((.df, .df 1) :: tmOf (M l.length))) { a with defers := d :: a.defers } W → Q .normal { a with defers := d :: a.defers } W) : AW P C none (.rangeFunc o ps asg body) Q L := by
  rintro a w ⟨G, hA⟩
  obtain ⟨gf, lb, U0, G0, he, eg, hG, hm, hI⟩ := hU a w G hA
  have hC : C.W0.heap.size ≤ w.heap.size := hG.fr.size
  have cB : ∀ g, C.B g → g < w.heap.size := fun g hg => Nat.lt_of_lt_of_le (C.hB g hg) hC
  have hZ : ∀ g, G0.zu zs g → g < w.heap.size := fun g ⟨z, hz, hg⟩ => (hG.sep z g (hlv z hz) hg).1
  have ui0 : UI C G0 zs w.heap.size U0 w := ⟨fun b hb => (hm b hb).lt, fun b hb => (hm b hb).nb, fun b hb ⟨z, hz, hg⟩ => (hm b hb).nz z (hlv z hz) hg, ⟨fun e => by have := (hm _ e).lt; omega, fun e => by have := (hm _ e).lt; omega⟩,
    fun b hb z hz q => (hm b hb).nz z (hpz z hz) ((hG.zz z hz (hpz z hz) b).2 q)⟩
  let a0 : Act := { tmps := a.tmps, defers := [] }
  let IS : Zone → Row → Act → World → Prop := fun U Lk b W => Keeps C.B C.W0 W ∧ KZ (G0.zu zs) w w W ∧ w.heap.size ≤ W.heap.size ∧ UI C G0 zs w.heap.size U W ∧ (∃ G, ASG (ctxU C G0 zs w.heap.size a U W) G (lk Lk) b W) ∧ lk Lk .df = .df 0
  have isK : ∀ {U U' : Zone} {Lk : Row} {b : Act} {W W' : World}, IS U Lk b W → Keeps (fun k => ¬ U k ∧ k ≠ w.heap.size ∧ k ≠ w.heap.size + 1) W W' → (∀ b, U' b → b < W'.heap.size ∧ (U b ∨ W.heap.size ≤ b)) → ¬ U' w.heap.size → ¬ U' (w.heap.size + 1) → IS U' Lk b W' := by
    rintro U U' Lk b W W' ⟨k1, k2, k3, k4, ⟨G, h⟩, k5⟩ hk hu n1 n2
    have hs := hk.size
    refine ⟨k1.trans ⟨hk.os, hk.tape, hk.output, hk.size, fun g hg hb => hk.block g hg ⟨fun e => k4.nb g e hb, ?_, ?_⟩⟩, fun g hg hl => (hk.block g (by omega) ⟨fun e => k4.nz g e hg, ?_, ?_⟩).trans (k2 g hg hl), by omega, k4.next hC hZp hZ k3 hu n1 n2, ⟨G, h.mvU k4 k5 hC hZ (fun g hg _ => hg) k3 hk fun b hb => (hu b hb).2⟩, k5⟩
    · have := cB g hb; omega
    · have := cB g hb; omega
    · have := hZ g hg; omega
    · have := hZ g hg; omega
  have isR : ∀ {U : Zone} {Lk : Row} {b : Act} {W W' : World}, Keeps C.B C.W0 W → KZ (G0.zu zs) w w W → w.heap.size + 2 ≤ W.heap.size → UI C G0 zs w.heap.size U W → lk Lk .df = .df 0 → AS (ctxU C G0 zs w.heap.size a U W) (lk Lk) b W' →
      KeepsAt w.heap.size W W' ∧ KU (fun b => G0.zu zs b ∨ U b) W W' ∧ IS U Lk b W' := by
    rintro U Lk b W W' k1 k2 k3 k4 k5 ⟨G, h⟩
    have f := h.fr
    have fs := f.size
    have fb : ∀ g, g < W.heap.size → ((C.B g ∨ G0.zu zs g ∨ g = w.heap.size ∨ g = w.heap.size + 1) ∨ U g) → W'.heap[g]? = W.heap[g]? := fun g hg hb => f.block g hg ⟨hg, hb⟩
    refine ⟨⟨fb _ (by omega) (.inl (.inr (.inr (.inl rfl)))), fb _ (by omega) (.inl (.inr (.inr (.inr rfl))))⟩, ⟨fs, fun g hg hl => fb g hl (hg.elim (fun e => .inl (.inr (.inl e))) .inr)⟩,
      k1.trans ⟨f.os, f.tape, f.output, f.size, fun g hg hb => fb g hg (.inl (.inl hb))⟩, fun g hg hl => (fb g (by have := hZ g hg; omega) (.inl (.inr (.inl hg)))).trans (k2 g hg hl), by have : W.heap.size ≤ W'.heap.size := fs; omega,
      k4.next hC hZp hZ (by omega) (fun b hb => ⟨by have := k4.lt b hb; have : W.heap.size ≤ W'.heap.size := fs; omega, .inl hb⟩) k4.nd.1 k4.nd.2, ⟨G, h.mvU k4 k5 hC hZ (fun g _ e => by omega) (by omega) (Keeps.refl _ _) fun b hb => .inl hb⟩, k5⟩
  have is0 : ∀ {U : Zone} {Lk : Row} {b : Act} {W : World}, okM C.N ps.toList zs Lk = true → IS U Lk b W → IS U Lk a0 W := by
    rintro U Lk b W hm ⟨k1, k2, k3, k4, ⟨G, h⟩, k5⟩
    have m := okM_ok hm
    refine ⟨k1, k2, k3, k4, ⟨G, h.react (fun _ _ => rfl) hG.sz ?_ (fun t x e => by rw [noT_lk m.nt] at e; cases e)⟩, k5⟩
    obtain ⟨k, d1, d2⟩ := h.df
    rw [k5] at d1; cases d1
    exact d2.eq.symm
  refine wpIn_n (n := 10) ?_
  refine range_wideU (hg := he) (eg := eg) hI (fun W hb => ⟨hb.size, fun b h1 h2 => hb.block b h2⟩) hZ ui0.lt
    (fun pre vs ⟨x, h1, h2⟩ => by rw [h2.1]; exact hps x (List.mem_of_getElem? h1))
    (fun U xs W => IS U (M xs.length) a0 W)
    (fun U pre vs a₁ W => ∃ (x : List DV) (L1 : Row), l[pre.length]? = some x ∧ (∀ ln, ∀ C' : Cx, C'.pz = C.pz ++ zs → C'.N = C.N → AW P C' (some ln) body (RN C' (M (pre.length + 1))) L1) ∧ IS U L1 a₁ W)
    (fun U U' pre W W' h hk _ hu n1 n2 => isK h hk hu n1 n2)
    (fun U pre x a₁ W W' ⟨y, L1, h1, h2, h3⟩ hk => ⟨y, L1, h1, h2, isK h3 ⟨hk.os, hk.tape, hk.output, hk.size, fun g hg hb => hk.block g hg ⟨trivial, hb.2⟩⟩ (fun b hb => ⟨by have := h3.2.2.2.1.lt b hb; have := hk.size; omega, .inl hb⟩) h3.2.2.2.1.nd.1 h3.2.2.2.1.nd.2⟩)
    ?_ ?_ ?_ ?_ (fun U pre W b h hb => h.2.2.2.1.lt b hb)
  · refine ⟨hG.fr, fun g _ _ => rfl, Nat.le_refl _, ui0, ?_, (okM_ok (hM 0)).df⟩
    have ke : ∀ key, (∀ t, key ≠ .tmp t) → (∀ i t, key ≠ .vt i t) → lk (vtOf L0) key = lk L0 key := fun key k1 k2 => by
      rw [lk_vtOf]
      cases key <;> first | (exact absurd rfl (k1 _)) | (exact absurd rfl (k2 _ _)) | rfl
    refine h0 (ctxU C G0 zs w.heap.size a U0 w) rfl rfl a0 w ⟨G0, (hG.toR hlv hdf).toU (by rw [ke _ (by simp) (by simp)]; exact hdf) fun b hb => ⟨fun n hn => (hm b hb).nn n (by unfold Nm at hn ⊢; rw [← ke _ (by simp) (by simp)]; exact hn), fun z _ hz => (hm b hb).nz z (by unfold Lv at hz ⊢; rw [← ke _ (by simp) (by simp)]; exact hz)⟩⟩
  · rintro ln U pre vs W ⟨k1, k2, k3, k4, ⟨G, h⟩, k5⟩ ⟨x, hx, hxr⟩ hW
    obtain ⟨L1, d1, r1, r2⟩ := hr pre.length x hx
    have hm := okM_ok (hM pre.length)
    have hx' : Reps (G.zu zs) W vs x := ⟨hxr.1, fun i y hy => (hxr.2 i y hy).evo fun g hg _ => hg.elim⟩
    have hp := h.parU hm hnd hG.sz hpN hx'
    rw [← Array.toList_zip, Array.foldl_toList] at hp
    refine wpIn_n (wpIn_mono (r1 ln (ctxU C G0 zs w.heap.size a U W) rfl rfl _ W ⟨G, hp⟩) ?_)
    rintro e a₁ W2 ⟨rfl, hA⟩
    obtain ⟨q1, q3, q4⟩ := isR k1 k2 hW k4 (df0B_ok d1) hA
    exact ⟨q1, q3, x, L1, hx, r2, q4⟩
  · rintro ln U pre vs a₁ W ⟨x, L1, hx, r2, k1, k2, k3, k4, hA, k5⟩ hs hW
    refine wpIn_n (wpIn_mono (r2 ln (ctxU C G0 zs w.heap.size a U W) rfl rfl a₁ W hA) ?_)
    rintro e a2 W2 ⟨rfl, hq⟩
    have el : (pre ++ [vs]).length = pre.length + 1 := by simp
    have hm := hM (pre.length + 1)
    obtain ⟨q1, q3, q4⟩ := isR k1 k2 hW k4 (okM_ok hm).df hq
    refine ⟨q1, q3, ?_⟩
    show IS U (M (pre ++ [vs]).length) a0 W2
    rw [el]
    exact is0 hm q4
  · rintro U xs W hS ⟨k1, k2, k3, k4, ⟨Gz, h⟩, k5⟩ hd
    have hS : xs.length = l.length := hS
    rw [hS] at h
    exact hdone a w ⟨G, hA⟩ _ _ (hG.back hdf hlv hZp hO (okM_ok (hM l.length)) k1 k2 hd (h.ofU (okM_ok (hM l.length)).df))
end
theorem AS.conv {C : Cx} {L : Row} {a : Act} {w : World} {t : Nat} {zs : List Nat} {d d' : D} (h : AS C (lk L) a w) (e : lk L (.tmp t) = .av (.c zs d)) (hd : ∀ Z v, RepD Z w v d → RepD Z w v d') :
    AS C (lk ((.tmp t, .av (.c zs d')) :: L)) a w := by
  obtain ⟨G, hG⟩ := h
  refine ⟨G, hG.react (fun key hk => ?_) hG.sz rfl (fun t' x hx => ?_)⟩
  · simp only [lk]
    rw [if_neg (fun q => hk t q.symm)]
  · simp only [lk, Key.tmp.injEq] at hx
    by_cases ht : t = t'
    · subst ht
      rw [if_pos rfl] at hx
      cases hx
      obtain ⟨v, h1, h2⟩ := hG.tmp t _ e
      exact ⟨v, h1, ⟨h2.ok, fun hl => hd _ _ (h2.rep hl)⟩⟩
    · rw [if_neg ht] at hx
      exact hG.tmp t' x hx
theorem AW.conv {P : Program} {C : Cx} {r : Option Nat} {x : Code} {Q : Exit → Act → World → Prop} {L : Row} (t : Nat) {zs : List Nat} {d d' : D} (e : lk L (.tmp t) = .av (.c zs d)) (hd : ∀ Z w v, RepD Z w v d → RepD Z w v d')
    (h : AW P C r x Q ((.tmp t, .av (.c zs d')) :: L)) : AW P C r x Q L := fun a w hA => h a w (hA.conv e fun Z v => hd Z w v)
def isU : SP where
  p := fun _ _ v => ∃ n : Int, v = .int .u64 n
  evo := fun _ _ _ _ _ h _ => h
  one := by
    rintro Z w v ⟨n, rfl⟩
    rfl
inductive Nums : D → Prop where
  | u : Nums (.st isU)
  | s (sz : Nat) (rows : List (List D)) (h : ∀ (i : Nat) (r : List D) (j : Nat) (x : D), rows[i]? = some r → r[j]? = some x → Nums x) : Nums (.s sz rows)
theorem Nums.set {Z : Zone} {w : World} {v : Value} {d : D} (h : RepD Z w v d) (hu : Nums d) {g o : Nat} {n n' : Int} (hc : w.cell? ⟨g, o, none⟩ = some (.int .u64 n)) : RepD Z (w.setCell ⟨g, o, none⟩ (.int .u64 n')) v d := by
  revert hu
  induction h with
  | v x => intro hu; cases hu
  | n sz => intro hu; cases hu
  | nil sz => intro _; exact .nil sz
  | emp a cap sz h => intro _; exact .emp a cap sz h
  | p => intro hu; cases hu
  | f => intro hu; cases hu
  | st φ v h => intro hu; cases hu; exact .st _ _ h
  | row g2 o2 m cap sz rows vals hn h1 h2 hl hcc hr ih =>
    intro hu
    cases hu with
    | s _ _ hu =>
      refine .row g2 o2 m cap sz rows (fun i j => if g2 = g ∧ o2 + i * sz + j = o then .int .u64 n' else vals i j) hn h1 h2 hl (fun i r j x hi hj => ?_) (fun i r j x hi hj => ?_)
      · obtain ⟨a, b⟩ := hcc i r j x hi hj
        refine ⟨a, ?_⟩
        by_cases e : g2 = g ∧ o2 + i * sz + j = o
        · simp only [if_pos e]
          obtain ⟨rfl, rfl⟩ := e
          exact World.cell?_setCell_same _ _ _ hc
        · simp only [if_neg e]
          rw [World.cell?_setCell_other _ _ _ _ (by simp only [ne_eq, Addr.mk.injEq, and_true]; intro q; exact e ⟨q.1.symm, q.2.symm⟩)]
          exact b
      · by_cases e : g2 = g ∧ o2 + i * sz + j = o
        · simp only [if_pos e]
          obtain ⟨a, b⟩ := hcc i r j x hi hj
          have hx := hr i r j x hi hj
          obtain ⟨rfl, rfl⟩ := e
          rw [hc] at b
          cases b' : vals i j with
          | int k q =>
            rw [b'] at hx
            have ux := hu i r j x hi hj
            cases ux with
            | u => exact .st _ _ ⟨n', rfl⟩
            | s sz' rows' h' => cases hx
          | _ => rw [b'] at b; cases b
        · simp only [if_neg e]
          exact ih i r j x hi hj (hu i r j x hi hj)
theorem RepD.conv {Z : Zone} {w : World} {v : Value} {sz : Nat} {rows rows' : List (List D)} (h : RepD Z w v (.s sz rows)) (hl : rows'.length = rows.length)
    (hr : ∀ (i : Nat) (r' : List D), rows'[i]? = some r' → ∃ r, rows[i]? = some r ∧ r'.length = r.length ∧ ∀ (j : Nat) (x' : D), r'[j]? = some x' → ∃ x, r[j]? = some x ∧ ∀ u, RepD Z w u x → RepD Z w u x') : RepD Z w v (.s sz rows') := by
  cases h with
  | nil => obtain rfl := List.eq_nil_of_length_eq_zero hl; exact .nil sz
  | emp a cap _ h => obtain rfl := List.eq_nil_of_length_eq_zero hl; exact .emp a cap sz h
  | row g o n cap _ _ vals hn h1 h2 hll hc hr' =>
    refine .row g o n cap sz rows' vals (by omega) h1 h2 (fun i r' hi => ?_) (fun i r' j x' hi hj => ?_) (fun i r' j x' hi hj => ?_)
    · obtain ⟨r, a, b, _⟩ := hr i r' hi
      rw [b]; exact hll i r a
    · obtain ⟨r, a, b, c⟩ := hr i r' hi
      obtain ⟨x, d, _⟩ := c j x' hj
      exact hc i r j x a d
    · obtain ⟨r, a, b, c⟩ := hr i r' hi
      obtain ⟨x, d, e⟩ := c j x' hj
      exact e _ (hr' i r j x a d)
def uR (n : Nat) : List (List D) := List.replicate n [.st isU, .st isU]
theorem uR_len (n : Nat) : (uR n).length = n := by simp [uR]
theorem ud_uR (n : Nat) : Nums (.s 2 (uR n)) := .s _ _ fun i r j x hi hj => by
  obtain ⟨_, rfl⟩ : i < n ∧ r = [.st isU, .st isU] := by
    simp only [uR, List.getElem?_replicate] at hi
    split at hi
    · exact ⟨by assumption, by cases hi; rfl⟩
    · cases hi
  rcases j with _ | _ | j
  · cases hj; exact .u
  · cases hj; exact .u
  · simp at hj
theorem uR_get {n i : Nat} (h : i < n) : (uR n)[i]? = some [.st isU, .st isU] := by simp [uR, h]
section
variable {P : Program} {L : St}
theorem hatch_add {d : Tmp} {t u ty : TypeId} {s : String} {e : Array Edge} {g : Option (Nat × Bool)} {x y : Operand} {r r' r2 : Row} {zs : List Nat} {m : Int} {k : Trc → Prop} (hx : opd L x = some (r, .c zs (.st isU))) (hz : zr L zs = some r2) (hy : opr L y = some (r', .int .u64 m))
    (hk : k ⟨r ++ (r2 ++ r'), wr (some d) (.c [] (.st isU))⟩) : stHatch P L ⟨some d, .binOp .add t x y u, ty, s, e, g⟩ k := by
  refine ⟨_, hk, Rd.app (opd_rd hx) (Rd.app (zr_rd hz) (opr_rd hy)), fun C hd => OpOk.pure (fun c => by simp) (dok_ok hd) fun G σ a w hA hr => ?_⟩
  have e1 := (opd_ok hx hA hr.left).rep (zr_ok hz hr.right.left)
  have e2 := opr_ok hy hA hr.right.right
  generalize ev : a.eval x = vx at e1
  cases e1 with
  | st _ _ h =>
    obtain ⟨n, rfl⟩ := h
    refine ⟨.int .u64 (IntKind.u64.wrap (n + m)), ?_, ⟨fun z hz => absurd hz (by simp), fun _ => .st _ _ ⟨_, rfl⟩⟩⟩
    simp [execOp, e2, ev, eqGuard, binOp, Op.intArith]
def kept (z : Nat) (l : List (Tmp × D)) : Row := l.map fun x => (.tmp x.1, .av (.c [z] x.2))
theorem fnd_kept_ne (z : Nat) {k : Key} (h : ∀ t, k ≠ .tmp t) : ∀ l : List (Tmp × D), fnd (kept z l) k = none
  | [] => rfl
  | x :: l => by
    simp only [kept, List.map_cons, fnd]
    rw [if_neg (fun e => h _ e.symm)]
    exact fnd_kept_ne z h l
theorem fnd_kept (z : Nat) (t : Tmp) : ∀ (l : List (Tmp × D)) {y : KV}, fnd (kept z l) (.tmp t) = some y → ∃ d, (t, d) ∈ l ∧ y = .av (.c [z] d)
  | [], y, h => by cases h
  | x :: l, y, h => by
    simp only [kept, List.map_cons, fnd, Key.tmp.injEq] at h
    by_cases e : x.1 = t
    · rw [if_pos e] at h
      subst e
      exact ⟨x.2, List.mem_cons_self, by cases h; rfl⟩
    · rw [if_neg e] at h
      obtain ⟨d, h1, h2⟩ := fnd_kept z t l h
      exact ⟨d, List.mem_cons_of_mem _ h1, h2⟩
theorem kept_rd {z : Nat} : ∀ {l : List (Tmp × D)}, (∀ x ∈ l, L (.tmp x.1) = .av (.c [z] x.2)) → Rd L (kept z l)
  | [], _ => Rd.nil
  | x :: l, h => Rd.cons (h x List.mem_cons_self) (kept_rd fun y hy => h y (List.mem_cons_of_mem _ hy))
theorem kept_mem {z : Nat} {σ : St} {l : List (Tmp × D)} (h : Rd σ (kept z l)) : ∀ x ∈ l, σ (.tmp x.1) = .av (.c [z] x.2) := by
  induction l with
  | nil => intro x hx; cases hx
  | cons y l ih =>
    intro x hx
    have h' : Rd σ ((.tmp y.1, .av (.c [z] y.2)) :: kept z l) := h
    rcases List.mem_cons.1 hx with rfl | hx
    · exact h'.head
    · exact ih h'.tail x hx
theorem hatch_st {T : Tab P} {pz : List Nat} {t ty : TypeId} {ti : TI} {s : String} {e : Array Edge} {g : Option (Nat × Bool)} {x v : Operand} {r r' : Row} {z zn : Nat} {ds : List D} {k : Trc → Prop} (l : List (Tmp × D)) (ht : T.f t = some ti) (h1 : ti.size = 1)
    (hx : opd L x = some (r, .seg [z] (.st isU :: ds))) (hv : opd L v = some (r', .c [] (.st isU))) (hl : L (.zn z) = .zn .live) (hf : L (.zn zn) = .zn .free) (hp : pz.contains z = false) (hk0 : ∀ y ∈ l, L (.tmp y.1) = .av (.c [z] y.2)) (hu : ∀ y ∈ l, Nums y.2)
    (hk : k ⟨(.zn z, .zn .live) :: (.zn zn, .zn .free) :: (r ++ (r' ++ kept z l)), kept zn l ++ [(.zn zn, .zn .live), (.zn z, .zn .dead)]⟩) : stHatchZ P L pz zn ⟨none, .store t x v, ty, s, e, g⟩ k := by
  refine ⟨_, hk, Rd.cons hl (Rd.cons hf (Rd.app (opd_rd hx) (Rd.app (opd_rd hv) (kept_rd hk0)))), fun C hd hpz hzb => ?_⟩
  subst hpz
  intro σ a w K ⟨G, hA⟩ hr hK
  have z0 : z ∉ C.pz := fun h => by simp [h] at hp
  have zn0 : zn ∉ C.pz := fun h => Nat.lt_irrefl _ (hzb _ h)
  have lz : Lv σ z := hr.head
  have fz : σ (.zn zn) = .zn .free := hr.tail.head
  have hrr := hr.tail.tail
  have ne : z ≠ zn := fun e => by subst e; unfold Lv at lz; rw [fz] at lz; cases lz
  obtain ⟨g0, o0, ex, kx⟩ := (opd_ok hx hA hrr.left).rep (fun y hy => by simp at hy; subst hy; exact lz)
  obtain ⟨⟨y, hy, hg0⟩, u, hc, hru⟩ := kx 0 _ rfl
  simp at hy; subst hy
  have ev := (opd_ok hv hA hrr.right.left).rep (fun y hy => absurd hy (by simp))
  have hkp := kept_mem hrr.right.right
  have hu1 : ∃ n : Int, u = .int .u64 n := by cases hru with | st _ _ h => exact h
  obtain ⟨n, rfl⟩ := hu1
  have hu2 : ∃ n' : Int, a.eval v = .int .u64 n' := by
    generalize a.eval v = q at ev
    cases ev with | st _ _ h => exact h
  obtain ⟨n', ev⟩ := hu2
  have hsf := (hA.new y g0 z0 lz hg0).2
  have hc' : w.cell? ⟨g0, o0, none⟩ = some (.int .u64 n) := hc
  have hfz : w.frozen? ⟨g0, o0, none⟩ = false := by
    obtain ⟨cur, tt, hh⟩ := hsf.cells hc
    simp [World.frozen?, hh]
  have er : (execOp a.eval ⟨none, .store t x v, ty, s, e, g⟩).run P w = .ok .skip (w.setCell ⟨g0, o0, none⟩ (.int .u64 n')) := by
    have hsz := (T.ok t ti ht).run_size w
    simp only [execOp]
    rw [ex, ev]
    have hst : (store ((⟨g0, o0, none⟩ : Addr).add 0) (.int .u64 n')).run P w = .ok () (w.setCell ⟨g0, o0, none⟩ (.int .u64 n')) := by
      rw [add_none, Nat.add_zero, run_store P w _ _ _ rfl, hc']
      simp [hfz]
    simp [Instr.storeAt, Instr.sureAddr, storeVar, hsz, h1, storeCells, Value.cells, hst]
  refine ⟨fun c => by simp, .inr (.inl ⟨_, er, ?_⟩)⟩
  obtain ⟨w', hw⟩ : ∃ w', w' = w.setCell ⟨g0, o0, none⟩ (.int .u64 n') := ⟨_, rfl⟩
  have blk : ∀ i, i ≠ g0 → w'.heap[i]? = w.heap[i]? := fun i hi => by rw [hw]; exact Below.heap_setCell _ _ _ _ hi
  have hsz' : w'.heap.size = w.heap.size := by rw [hw]; simp [World.setCell]
  have hA1 : ASG C G (ovr σ (deadZ [y])) a w' := by
    refine hA.kill (fun q hq => by simp at hq; subst hq; exact lz) (fun q hq => by simp at hq; subst hq; exact z0) ?_
    rw [hw]
    exact ⟨rfl, rfl, rfl, by simp [World.setCell], fun i hi hb => Below.heap_setCell _ _ _ _ (fun e => hb (e ▸ ⟨y, by simp, hg0⟩))⟩
  have dz : ∀ q, Lv (ovr σ (deadZ [y])) q → q ≠ y ∧ Lv σ q := fun q hq => by
    have := (lesser_dead (σ := σ) [y]).lv hq
    refine ⟨?_, this⟩
    rintro rfl
    unfold Lv at hq
    simp [ovr, fnd_dead] at hq
  obtain ⟨hA2, _⟩ := hA1.addzone (z := zn) zn0 (by simp only [ovr, fnd_dead]; rw [if_neg (by simp; exact fun e => ne e.symm)]; exact fz) (G.ζ y) (fun q hq => by
    refine ⟨⟨by rw [hsz']; exact (hA.sep y q lz hq).1, (hA.new y q z0 lz hq).1, fun m hm => (hA.sep y q lz hq).2 m ?_, fun b hb hg' => ?_, fun c i e hi e' => ?_, fun p hpp e => (hA.ob p hpp).nz y lz (e ▸ hq)⟩, ?_⟩
    · unfold Nm at hm ⊢; rw [← (lesser_dead (σ := σ) [y]).nm]; exact hm
    · obtain ⟨a1, a2⟩ := dz b hb
      exact hA.disj b y q a1 a2 lz hg' hq
    · obtain ⟨k', d1, d2⟩ := hA.df
      rw [(lesser_dead (σ := σ) [y]).df, d1] at e; cases e
      exact (d2.ok i hi).nz y lz (e' ▸ hq)
    · by_cases e : q = g0
      · subst e
        obtain ⟨cur, tt, hs⟩ := hsf.cells hc'
        rw [hw]
        exact .mk (set_heap_same hs)
      · exact (hA.new y q z0 lz hq).2.of_eq (blk q e))
  have hfin : AS C (ovr σ (kept zn l ++ [(.zn zn, .zn .live), (.zn y, .zn .dead)])) a w' := by
    refine ⟨_, hA2.react (fun key hkey => ?_) hA2.sz rfl (fun q x hx => ?_)⟩
    · simp only [ovr, fnd_app, fnd_kept_ne _ hkey, deadZ, List.map_cons, List.map_nil, fnd, Option.none_or]
      by_cases e1 : Key.zn zn = key
      · simp [e1]
      · rw [if_neg e1, if_neg e1]
        by_cases e2 : Key.zn y = key
        · simp [e2]
        · simp [e2]
    · simp only [ovr, fnd_app] at hx
      cases hq : fnd (kept zn l) (.tmp q) with
      | some yy =>
        rw [hq] at hx
        obtain ⟨d, hd1, rfl⟩ := fnd_kept zn q l hq
        simp only [Option.some_or, Option.getD_some, KV.av.injEq] at hx
        subst hx
        obtain ⟨vv, t1, t2⟩ := hA.tmp q _ (hkp _ hd1)
        refine ⟨vv, t1, ⟨fun b hb => ?_, fun _ => ?_⟩⟩
        · simp at hb; subst hb
          unfold Uz; rw [ovr_one]; simp
        · have := Nums.set (n' := n') (t2.rep (fun b hb => by simp at hb; subst hb; exact lz)) (hu _ hd1) hc'
          rw [← hw] at this
          refine this.mono fun b ⟨c, hcm, hb⟩ => ⟨zn, by simp, ?_⟩
          simp at hcm; subst hcm
          simpa using hb
      | none =>
        rw [hq] at hx
        refine hA2.tmp q x ?_
        simpa [ovr, deadZ, fnd] using hx
  rw [← hw]
  exact hK _ _ hfin
end
section
variable {C : Cx} {G : Gh} {σ σ' : St} {a : Act} {w : World}
theorem ASG.light (h : ASG C G σ a w) {q E sz y : Nat} {zs : List Nat} {rows : List (List D)} (hq : σ (.hd q) = .hd (.own E sz y zs rows)) (hz : ∀ z ∈ zs, Lv σ z) (hv : ∀ r ∈ rows, ∀ x ∈ r, x.isV = true)
    (hk : ∀ key, key ≠ .hd q → σ' key = σ key) (hq' : σ' (.hd q) = .hd (.own E sz y [] rows)) : ASG C G σ' a w := by
  have lv : ∀ z, Lv σ' z ↔ Lv σ z := fun z => by unfold Lv; rw [hk _ (by simp)]
  have nm : ∀ z, Nm σ' z ↔ Nm σ z := fun z => by unfold Nm; rw [hk _ (by simp)]
  have lh : ∀ p, Lh σ' p → Lh σ p := fun p hp => by
    by_cases e : p = q
    · subst e; exact ⟨_, _, _, _, _, hq⟩
    · unfold Lh at hp ⊢; rw [hk _ (by simpa using e)] at hp; exact hp
  have ev : Evo G G σ σ' w w := by
    refine ⟨fun z h => ?_, fun p hp => ?_, fun m hm => ⟨(nm m).2 hm, rfl⟩, fun z _ hl => ⟨(lv z).1 hl, rfl, fun _ _ => rfl⟩, fun z _ hl => ⟨lh z hl, rfl⟩⟩
    · unfold Uz; rw [hk _ (by simp)]; exact h
    · by_cases e : p = q
      · subst e; unfold Uh; rw [hq']; simp
      · unfold Uh at hp ⊢; rw [hk _ (by simpa using e)]; exact hp
  obtain ⟨k, d1, d2⟩ := h.df
  refine ⟨h.fr, ⟨k, (hk _ (by simp)).trans d1, d2.eq, fun i hi => ⟨(d2.ok i hi).obj, (d2.ok i hi).nb, fun q hq => (d2.ok i hi).nn q ((nm q).1 hq), fun z hz => (d2.ok i hi).nz z ((lv z).1 hz)⟩, d2.inj⟩, h.sz, fun t x e => ?_, fun i t x e => ?_, fun n j x e => ?_, fun n hn => h.nm n ((nm n).1 hn), fun n m hn hm => h.inj n m ((nm n).1 hn) ((nm m).1 hm),
    fun z g hl hg => ?_, fun z g h0 hl hg => h.new z g h0 ((lv z).1 hl) hg, fun y z g hne hy hz => h.disj y z g hne ((lv y).1 hy) ((lv z).1 hz), fun h' E' sz' y' zs' rows' e => ?_, fun z hz hl => h.zz z hz ((lv z).1 hl), fun p hp => ⟨(h.ob p hp).obj, (h.ob p hp).nb, fun n hn => (h.ob p hp).nn n ((nm n).1 hn), fun z hz => (h.ob p hp).nz z ((lv z).1 hz)⟩, fun n hn => (h.sf n ((nm n).1 hn)).of_ko (hk _ (by simp))⟩
  · rw [hk _ (by simp)] at e
    obtain ⟨v, h1, h2⟩ := h.tmp t x e
    exact ⟨v, h1, h2.evo ev⟩
  · rw [hk _ (by simp)] at e
    exact (h.vt i t x e).evo ev
  · rw [hk _ (by simp)] at e
    obtain ⟨h0, v, h1, h2, h3⟩ := h.cell n j x e
    exact ⟨(nm n).2 h0, v, h1, h2, h3.evo ev⟩
  · obtain ⟨h1, h2⟩ := h.sep z g ((lv z).1 hl) hg
    exact ⟨h1, fun n hn => h2 n ((nm n).1 hn)⟩
  · by_cases eq : h' = q
    · subst eq
      rw [hq'] at e
      cases e
      have ho := h.hd _ _ _ _ _ _ hq
      refine ⟨ev.uz _ ho.uy, fun z hz => (by cases hz), fun hl => ?_⟩
      obtain ⟨o1, vals, o2, o3, o4, o5⟩ := ho.own ((lv _).1 hl)
      exact ⟨o1, vals, o2, o3, o4, fun _ i r j x hi hj => D.isV_rep (hv r (List.mem_of_getElem? hi) x (List.mem_of_getElem? hj)) (o5 hz i r j x hi hj)⟩
    · rw [hk _ (by simpa using eq)] at e
      exact (h.hd _ _ _ _ _ _ e).evo ev rfl
end
theorem AW.light {P : Program} {C : Cx} {r : Option Nat} {x : Code} {Q : Exit → Act → World → Prop} {L : Row} (q : Nat) {E sz y : Nat} {zs : List Nat} {rows : List (List D)} {rr : Row} (e : lk L (.hd q) = .hd (.own E sz y zs rows)) (hz : zr (lk L) zs = some rr) (hv : (rows.all fun r => r.all D.isV) = true)
    (h : AW P C r x Q ((.hd q, .hd (.own E sz y [] rows)) :: L)) : AW P C r x Q L := fun a w ⟨G, hG⟩ => h a w ⟨G, hG.light e (zr_ok hz (zr_rd hz)) (fun r hr x hx => by
      have := List.all_eq_true.1 hv r hr
      exact List.all_eq_true.1 this x hx) (fun key hk => by simp only [lk]; rw [if_neg fun q => hk q.symm]) (by simp [lk])⟩
end Go.Proofs.Ytlkdkhmdmgchbaa
namespace Go.Proofs.Ytlkdkhmdmgchbaa
set_option linter.unusedSimpArgs false
set_option linter.unusedVariables false
set_option maxRecDepth 100000
def mapR {α β : Type} (f : α → β) (l : List α) (k : Nat) : List β := (l.take k).map f
theorem mapR_0 {α β : Type} (f : α → β) (l : List α) : mapR f l 0 = [] := rfl
theorem mapR_s {α β : Type} (f : α → β) (l : List α) {k : Nat} (h : k < l.length) : mapR f l (k + 1) = mapR f l k ++ [f l[k]] := by
  unfold mapR
  rw [List.take_succ_eq_append_getElem h, List.map_append]
  rfl
section
variable {α : Type} (lt : α → α → Bool)
def swapL (l : List α) (i j : Nat) : List α := match l[i]?, l[j]? with
  | some x, some y => (l.set i y).set j x
  | _, _ => l
theorem swapL_len (l : List α) (i j : Nat) : (swapL l i j).length = l.length := by
  unfold swapL
  split <;> simp
theorem swapL_get {l : List α} {i j : Nat} {x y : α} (hi : l[i]? = some x) (hj : l[j]? = some y) (k : Nat) : (swapL l i j)[k]? = if k = j then some x else if k = i then some y else l[k]? := by
  have h1 := (List.getElem?_eq_some_iff.1 hi).1
  have h2 := (List.getElem?_eq_some_iff.1 hj).1
  unfold swapL
  rw [hi, hj]
  simp only [List.getElem?_set, List.length_set]
  by_cases e : k = j
  · subst e; simp [h2]
  · rw [if_neg (fun q => e q.symm), if_neg e]
    by_cases e2 : k = i
    · subst e2; simp [h1]
    · rw [if_neg (fun q => e2 q.symm), if_neg e2]
theorem swapL_perm (l : List α) (i j : Nat) : (swapL l i j).Perm l := by
  unfold swapL
  split
  · rename_i x y hx hy
    obtain ⟨h1, rfl⟩ := List.getElem?_eq_some_iff.1 hx
    obtain ⟨h2, rfl⟩ := List.getElem?_eq_some_iff.1 hy
    exact List.set_set_perm h1 h2
  · exact List.Perm.refl _
def upL (l : List α) (j : Nat) : List α :=
  if h : j = 0 then l else match l[j]?, l[(j - 1) / 2]? with
  | some x, some y => if lt x y then upL (swapL l ((j - 1) / 2) j) ((j - 1) / 2) else l
  | _, _ => l
termination_by j
decreasing_by omega
def kidL (l : List α) (i n : Nat) : Nat := if 2 * i + 2 < n then (match l[2 * i + 2]?, l[2 * i + 1]? with
  | some x, some y => if lt x y then 2 * i + 2 else 2 * i + 1
  | _, _ => 2 * i + 1) else 2 * i + 1
theorem kidL_or (l : List α) (i n : Nat) : kidL lt l i n = 2 * i + 1 ∨ (kidL lt l i n = 2 * i + 2 ∧ 2 * i + 2 < n) := by
  unfold kidL
  split
  · split
    · split
      · exact .inr ⟨rfl, by assumption⟩
      · exact .inl rfl
    · exact .inl rfl
  · exact .inl rfl
def downL (l : List α) (i n : Nat) : List α × Nat :=
  if h : n ≤ 2 * i + 1 then (l, i) else match l[kidL lt l i n]?, l[i]? with
  | some x, some y => if lt x y then downL (swapL l i (kidL lt l i n)) (kidL lt l i n) n else (l, i)
  | _, _ => (l, i)
termination_by n - i
decreasing_by
  rcases kidL_or lt l i n with e | ⟨e, _⟩ <;> omega
theorem upL_perm (l : List α) (j : Nat) : (upL lt l j).Perm l := by
  induction l, j using upL.induct lt with
  | case1 l => rw [upL, dif_pos rfl]
  | case2 l j h x y hy hx hlt ih => rw [upL, dif_neg h, hx, hy]; simp only [hlt, if_true]; exact ih.trans (swapL_perm _ _ _)
  | case3 l j h x y hy hx hlt => rw [upL, dif_neg h, hx, hy]; simp [hlt]
  | case4 l j h hh =>
    rw [upL, dif_neg h]
    split
    · rename_i x y hx hy; exact absurd hy (hh x y hx)
    · exact List.Perm.refl _
theorem downL_perm (l : List α) (i n : Nat) : (downL lt l i n).1.Perm l := by
  induction l, i using downL.induct lt n with
  | case1 l i h => rw [downL, dif_pos h]
  | case2 l i h x y hy hx hlt ih => rw [downL, dif_neg h, hx, hy]; simp only [hlt, if_true]; exact ih.trans (swapL_perm _ _ _)
  | case3 l i h x y hy hx hlt => rw [downL, dif_neg h, hx, hy]; simp [hlt]
  | case4 l i h hh =>
    rw [downL, dif_neg h]
    split
    · rename_i x y hx hy; exact absurd hy (hh x y hx)
    · exact List.Perm.refl _
theorem downL_far (l : List α) (i n : Nat) (hi : i < n ∨ n ≤ i) {k : Nat} (hk : n ≤ k) (hik : i ≠ k) : (downL lt l i n).1[k]? = l[k]? := by
  clear hi
  induction l, i using downL.induct lt n with
  | case1 l i h => rw [downL, dif_pos h]
  | case2 l i h x y hy hx hlt ih =>
    rw [downL, dif_neg h, hx, hy]
    simp only [hlt, if_true]
    have kd : kidL lt l i n < n := by rcases kidL_or lt l i n with e | ⟨e, q⟩ <;> omega
    rw [ih (by omega), swapL_get hy hx, if_neg (by omega), if_neg (fun e => hik e.symm)]
  | case3 l i h x y hy hx hlt => rw [downL, dif_neg h, hx, hy]; simp [hlt]
  | case4 l i h hh =>
    rw [downL, dif_neg h]
    split
    · rename_i x y hx hy; exact absurd hy (hh x y hx)
    · rfl
structure Wk (lt : α → α → Bool) : Prop where
  asym : ∀ a b, lt a b = true → lt b a = false
  trans : ∀ a b c, lt b a = false → lt c b = false → lt c a = false
def OkAt (l : List α) (k : Nat) : Prop := ∀ x y, l[k]? = some x → l[(k - 1) / 2]? = some y → lt x y = false
def Heap (l : List α) : Prop := ∀ k, 0 < k → OkAt lt l k
variable {lt}
theorem okAt_of {l : List α} {k : Nat} {x y : α} (hx : l[k]? = some x) (hy : l[(k - 1) / 2]? = some y) (h : lt x y = false) : OkAt lt l k := fun a b ha hb => by
  rw [hx] at ha; rw [hy] at hb; cases ha; cases hb; exact h
theorem okAt_same {l l' : List α} {k : Nat} (h : OkAt lt l k) (h1 : l'[k]? = l[k]?) (h2 : l'[(k - 1) / 2]? = l[(k - 1) / 2]?) : OkAt lt l' k := fun a b ha hb => h a b (h1 ▸ ha) (h2 ▸ hb)
theorem some_of_lt {l : List α} {k : Nat} (h : k < l.length) : ∃ x, l[k]? = some x := ⟨l[k], List.getElem?_eq_getElem h⟩
theorem lt_of_some {l : List α} {k : Nat} {x : α} (h : l[k]? = some x) : k < l.length := (List.getElem?_eq_some_iff.1 h).1
theorem upL_heap (W : Wk lt) (l : List α) (j : Nat) (h1 : ∀ k, 0 < k → k ≠ j → OkAt lt l k) (h2 : ∀ k x y, 0 < k → (k - 1) / 2 = j → 0 < j → l[k]? = some x → l[(j - 1) / 2]? = some y → lt x y = false) : Heap lt (upL lt l j) := by
  induction l, j using upL.induct lt with
  | case1 l => rw [upL, dif_pos rfl]; exact fun k hk => h1 k hk (by omega)
  | case2 l j h x y hy hx hlt ih =>
    rw [upL, dif_neg h, hx, hy]
    simp only [hlt, if_true]
    have sw := swapL_get hy hx
    have ne : (j - 1) / 2 ≠ j := by omega
    have s1 : (swapL l ((j - 1) / 2) j)[j]? = some y := by rw [sw, if_pos rfl]
    have s2 : (swapL l ((j - 1) / 2) j)[(j - 1) / 2]? = some x := by rw [sw, if_neg ne, if_pos rfl]
    refine ih (fun k hk hne => ?_) (fun k z g hk hp h0 hz hg => ?_)
    · by_cases e : k = j
      · subst e
        exact okAt_of s1 s2 (W.asym _ _ hlt)
      · intro z q hz hq
        rw [sw, if_neg e, if_neg hne] at hz
        by_cases e1 : (k - 1) / 2 = j
        · rw [e1, s1] at hq; cases hq
          exact h2 k z y hk e1 (by omega) hz hy
        · by_cases e2 : (k - 1) / 2 = (j - 1) / 2
          · rw [e2, s2] at hq; cases hq
            have := h1 k hk e z y hz (by rw [e2]; exact hy)
            exact W.trans _ _ _ (W.asym _ _ hlt) this
          · rw [sw, if_neg e1, if_neg e2] at hq
            exact h1 k hk e z q hz hq
    · rw [sw, if_neg (by omega), if_neg (by omega)] at hg
      have hig := h1 ((j - 1) / 2) h0 ne y g hy hg
      by_cases e : k = j
      · subst e; rw [s1] at hz; cases hz; exact hig
      · rw [sw, if_neg e, if_neg (by omega)] at hz
        exact W.trans _ _ _ hig (h1 k hk e z y hz (by rw [hp]; exact hy))
  | case3 l j h x y hy hx hlt =>
    rw [upL, dif_neg h, hx, hy]
    simp only [hlt, Bool.false_eq_true, if_false]
    intro k hk
    by_cases e : k = j
    · subst e; exact okAt_of hx hy (by simpa using hlt)
    · exact h1 k hk e
  | case4 l j h hh =>
    rw [upL, dif_neg h]
    split
    · rename_i x y hx hy; exact absurd hy (hh x y hx)
    · intro k hk
      by_cases e : k = j
      · subst e; exact fun x y hx hy => absurd hy (hh x y hx)
      · exact h1 k hk e
theorem kidL_least (W : Wk lt) {l : List α} {i n : Nat} {c : α} (hc : l[kidL lt l i n]? = some c) {k : Nat} (hk : 0 < k) (hp : (k - 1) / 2 = i) (hn : k < n) {z : α} (hz : l[k]? = some z) : lt z c = false := by
  have hk2 : k = 2 * i + 1 ∨ k = 2 * i + 2 := by omega
  have irr : ∀ a, lt a a = false := fun a => by
    cases h : lt a a with
    | false => rfl
    | true => have := W.asym a a h; rw [h] at this; cases this
  unfold kidL at hc
  by_cases h2 : 2 * i + 2 < n
  · rw [if_pos h2] at hc
    cases ha : l[2 * i + 2]? with
    | none =>
      rw [ha] at hc
      simp only at hc
      rcases hk2 with rfl | rfl
      · rw [hz] at hc; cases hc; exact irr _
      · rw [ha] at hz; cases hz
    | some a =>
      cases hb : l[2 * i + 1]? with
      | none =>
        rw [ha, hb] at hc
        simp only at hc
        rw [hb] at hc; cases hc
      | some b =>
        rw [ha, hb] at hc
        simp only at hc
        by_cases hl : lt a b = true
        · rw [if_pos hl, ha] at hc; cases hc
          rcases hk2 with rfl | rfl
          · rw [hb] at hz; cases hz; exact W.asym _ _ hl
          · rw [ha] at hz; cases hz; exact irr _
        · rw [if_neg hl, hb] at hc; cases hc
          rcases hk2 with rfl | rfl
          · rw [hb] at hz; cases hz; exact irr _
          · rw [ha] at hz; cases hz; simpa using hl
  · rw [if_neg h2] at hc
    have : k = 2 * i + 1 := by omega
    subst this
    rw [hz] at hc; cases hc; exact irr _
theorem downL_heap (W : Wk lt) (l : List α) (i n s : Nat) (hs : s ≤ i) (hl : n ≤ l.length) (hi : i < n) (h1 : ∀ k, 0 < k → k < n → s ≤ (k - 1) / 2 → (k - 1) / 2 ≠ i → OkAt lt l k) (h2 : ∀ k x y, 0 < k → k < n → (k - 1) / 2 = i → 0 < i → s ≤ (i - 1) / 2 → l[k]? = some x → l[(i - 1) / 2]? = some y → lt x y = false) :
    ∀ k, 0 < k → k < n → s ≤ (k - 1) / 2 → OkAt lt (downL lt l i n).1 k := by
  induction l, i using downL.induct lt n with
  | case1 l i h =>
    rw [downL, dif_pos h]
    exact fun k hk hn hsk => h1 k hk hn hsk (by omega)
  | case2 l i h x y hy hx hlt ih =>
    rw [downL, dif_neg h, hx, hy]
    simp only [hlt, if_true]
    have kd : kidL lt l i n < n ∧ 0 < kidL lt l i n ∧ (kidL lt l i n - 1) / 2 = i := by rcases kidL_or lt l i n with e | ⟨e, q⟩ <;> omega
    have hleast : ∀ k, 0 < k → (k - 1) / 2 = i → k < n → ∀ z, l[k]? = some z → lt z x = false := fun k hk hp hn z hz => kidL_least W hx hk hp hn hz
    generalize hj : kidL lt l i n = j at *
    obtain ⟨j1, j2, j3⟩ := kd
    have sw := swapL_get hy hx
    have ne : i ≠ j := by omega
    have s1 : (swapL l i j)[j]? = some y := by rw [sw, if_pos rfl]
    have s2 : (swapL l i j)[i]? = some x := by rw [sw, if_neg ne, if_pos rfl]
    refine ih (by omega) (by rw [swapL_len]; exact hl) j1 (fun k hk hn hsk hne => ?_) (fun k z g hk hn hp h0 hsk hz hg => ?_)
    · intro z q hz hq
      by_cases e1 : (k - 1) / 2 = i
      · rw [e1, s2] at hq; cases hq
        by_cases e : k = j
        · subst e; rw [s1] at hz; cases hz; exact W.asym _ _ hlt
        · rw [sw, if_neg e, if_neg (by omega)] at hz
          exact hleast k hk e1 hn z hz
      · rw [sw, if_neg hne, if_neg e1] at hq
        by_cases e : k = i
        · subst e
          rw [s2] at hz; cases hz
          exact h2 j _ q j2 j1 j3 hk hsk hx hq
        · have e3 : k ≠ j := fun q => by subst q; exact e1 j3
          rw [sw, if_neg e3, if_neg e] at hz
          exact h1 k hk hn hsk e1 z q hz hq
    · rw [j3, s2] at hg; cases hg
      rw [sw, if_neg (by omega), if_neg (by omega)] at hz
      exact h1 k hk hn (by omega) (by omega) z _ hz (by rw [hp]; exact hx)
  | case3 l i h x y hy hx hlt =>
    rw [downL, dif_neg h, hx, hy]
    simp only [hlt, Bool.false_eq_true, if_false]
    intro k hk hn hsk
    by_cases e : (k - 1) / 2 = i
    · intro z q hz hq
      rw [e, hy] at hq; cases hq
      exact W.trans _ _ _ (by simpa using hlt) (kidL_least W hx hk e hn hz)
    · exact h1 k hk hn hsk e
  | case4 l i h hh =>
    exfalso
    have kd : kidL lt l i n < n := by rcases kidL_or lt l i n with e | ⟨e, q⟩ <;> omega
    obtain ⟨a, ha⟩ := some_of_lt (l := l) (k := kidL lt l i n) (by omega)
    obtain ⟨b, hb⟩ := some_of_lt (l := l) (k := i) (by omega)
    exact hh a b ha hb
theorem heap_root (W : Wk lt) {l : List α} (h : Heap lt l) {r : α} (hr : l[0]? = some r) : ∀ (k : Nat) (x : α), l[k]? = some x → lt x r = false := by
  intro k
  induction k using Nat.strongRecOn with
  | ind k ih =>
    intro x hx
    by_cases e : k = 0
    · subst e
      rw [hr] at hx; cases hx
      cases h : lt r r with
      | false => rfl
      | true => have := W.asym r r h; rw [h] at this; cases this
    · obtain ⟨y, hy⟩ := some_of_lt (l := l) (k := (k - 1) / 2) (by have := lt_of_some hx; omega)
      exact W.trans _ _ _ (ih ((k - 1) / 2) (by omega) y hy) (h k (by omega) x y hx hy)
variable (lt)
def pushL (l : List α) (x : α) : List α := upL lt (l ++ [x]) l.length
def popL (l : List α) : List α := (downL lt (swapL l 0 (l.length - 1)) 0 (l.length - 1)).1
def initL (l : List α) : Nat → List α
  | 0 => l
  | i + 1 => initL (downL lt l i l.length).1 i
variable {lt}
theorem pushL_perm (l : List α) (x : α) : (pushL lt l x).Perm (x :: l) := (upL_perm lt _ _).trans (List.perm_append_comm (l₁ := l) (l₂ := [x]))
theorem pushL_heap (W : Wk lt) {l : List α} (h : Heap lt l) (x : α) : Heap lt (pushL lt l x) := by
  refine upL_heap W _ _ (fun k hk hne => ?_) (fun k y z hk hp h0 hy hz => ?_)
  · intro y z hy hz
    have hlt : k < l.length := by
      have := lt_of_some hy
      simp at this
      omega
    rw [List.getElem?_append_left hlt] at hy
    rw [List.getElem?_append_left (by omega)] at hz
    exact h k hk y z hy hz
  · have := lt_of_some hy
    simp at this
    omega
theorem popL_len (l : List α) : (popL lt l).length = l.length := by
  unfold popL
  rw [(downL_perm lt _ _ _).length_eq, swapL_len]
theorem popL_spec (W : Wk lt) {l : List α} {r : α} (h : Heap lt l) (hr : l[0]? = some r) : ∃ l', popL lt l = l' ++ [r] ∧ (r :: l').Perm l ∧ Heap lt l' ∧ l'.length = l.length - 1 := by
  have hpos := lt_of_some hr
  obtain ⟨z, hz⟩ := some_of_lt (l := l) (k := l.length - 1) (by omega)
  have sw := swapL_get hr hz
  have hl := popL_len (lt := lt) l
  have hlast : (popL lt l)[l.length - 1]? = some r := by
    unfold popL
    by_cases e : l.length - 1 = 0
    · rw [e]
      rw [downL, dif_pos (by omega)]
      show (swapL l 0 0)[0]? = some r
      have sw0 := swapL_get hr hr 0
      rw [sw0, if_pos rfl]
    · rw [downL_far lt _ _ _ (.inl (by omega)) (Nat.le_refl _) (by omega), sw, if_pos rfl]
  have e1 : popL lt l = (popL lt l).take (l.length - 1) ++ [r] := by
    have h1 : l.length - 1 < (popL lt l).length := by omega
    have h2 := List.take_succ_eq_append_getElem h1
    rw [List.take_of_length_le (by omega)] at h2
    have h3 : (popL lt l)[l.length - 1] = r := by
      have := List.getElem?_eq_getElem h1
      rw [hlast] at this
      exact (Option.some.inj this).symm
    rw [h3] at h2
    exact h2
  refine ⟨(popL lt l).take (l.length - 1), e1, ?_, ?_, by rw [List.length_take]; omega⟩
  · have p1 : (popL lt l).Perm l := (downL_perm lt _ _ _).trans (swapL_perm _ _ _)
    rw [e1] at p1
    exact (List.perm_append_comm (l₁ := [r])).trans p1
  · intro k hk x y hx hy
    have hlt := lt_of_some hx
    rw [List.length_take] at hlt
    rw [List.getElem?_take] at hx hy
    rw [if_pos (by omega)] at hx hy
    refine downL_heap W (swapL l 0 (l.length - 1)) 0 (l.length - 1) 0 (Nat.le_refl _) (by rw [swapL_len]; omega) (by omega) (fun k hk hn _ hp => ?_) (fun k _ _ _ _ _ h0 => absurd h0 (Nat.lt_irrefl _)) k hk (by omega) (Nat.zero_le _) x y hx hy
    refine okAt_same (h k hk) ?_ ?_
    · rw [sw, if_neg (by omega), if_neg (by omega)]
    · rw [sw, if_neg (by omega), if_neg hp]
theorem initL_perm (l : List α) (i : Nat) : (initL lt l i).Perm l := by
  induction i generalizing l with
  | zero => exact List.Perm.refl _
  | succ i ih => exact (ih _).trans (downL_perm lt _ _ _)
theorem initL_heap (W : Wk lt) (l : List α) : Heap lt (initL lt l (l.length / 2)) := by
  have : ∀ (i : Nat) (l : List α), i ≤ l.length / 2 → (∀ k, 0 < k → i ≤ (k - 1) / 2 → OkAt lt l k) → Heap lt (initL lt l i) := by
    intro i
    induction i with
    | zero => exact fun l _ h k hk => h k hk (Nat.zero_le _)
    | succ i ih =>
      intro l hi h
      refine ih _ (by rw [(downL_perm lt _ _ _).length_eq]; omega) fun k hk hp => ?_
      by_cases hn : k < l.length
      · exact downL_heap W l i l.length i (Nat.le_refl _) (Nat.le_refl _) (by omega) (fun k hk _ h1 h2 => h k hk (by omega)) (fun k _ _ _ _ _ h0 h1 => by omega) k hk hn hp
      · intro x y hx hy
        have := lt_of_some hx
        rw [(downL_perm lt _ _ _).length_eq] at this
        omega
  exact this _ l (Nat.le_refl _) fun k hk hp x y hx hy => by have := lt_of_some hx; omega
end
abbrev Hd := Int × Bool × List Pr
def fstH (h : Hd) : Pr := h.2.2.headD (0, 0)
def ltH (a b : Hd) : Bool := decide (lt (fstH a) (fstH b)) || (decide (fstH a = fstH b) && decide (b.1 < a.1))
theorem ltH_wk : Wk ltH := by
  constructor
  · intro a b h
    unfold ltH at *
    simp only [Bool.or_eq_true, Bool.and_eq_true, decide_eq_true_eq, Bool.or_eq_false_iff, Bool.and_eq_false_iff, decide_eq_false_iff_not] at *
    rcases h with h | ⟨h1, h2⟩
    · exact ⟨lt_asymm h, .inl fun e => by rw [e] at h; exact lt_irrefl _ h⟩
    · exact ⟨by rw [h1]; exact lt_irrefl _, .inr (by omega)⟩
  · intro a b c h k
    unfold ltH at *
    simp only [Bool.or_eq_false_iff, Bool.and_eq_false_iff, decide_eq_false_iff_not] at *
    obtain ⟨h1, h2⟩ := h
    obtain ⟨k1, k2⟩ := k
    refine ⟨fun q => ?_, ?_⟩
    · rcases lt_total (fstH a) (fstH b) with x | x | x
      · rcases lt_total (fstH b) (fstH c) with y | y | y
        · exact lt_irrefl _ (lt_trans q (lt_trans x y))
        · rw [← y] at q; exact lt_asymm x q
        · exact k1 y
      · rw [x] at q; exact k1 q
      · exact h1 x
    · by_cases e : fstH c = fstH a
      · refine .inr ?_
        have e1 : fstH b = fstH a := by
          rcases lt_total (fstH b) (fstH a) with x | x | x
          · exact absurd x h1
          · exact x
          · rw [← e] at x; exact absurd x k1
        rcases h2 with h2 | h2
        · exact absurd e1 h2
        · rcases k2 with k2 | k2
          · exact absurd (e.trans e1.symm) k2
          · omega
      · exact .inl e
def inH (hs : List Hd) (t : Int) (a : Bool) (q : Pr) : Prop := ∃ h ∈ hs, h.1 = t ∧ h.2.1 = a ∧ q ∈ h.2.2
def tellsH (hs : List Hd) (q : Pr) : Prop := ∃ t, inH hs t true q ∧ ∀ t' a', inH hs t' a' q → t' ≤ t
structure GoodH (hs : List Hd) : Prop where
  heap : Heap ltH hs
  ne : ∀ h ∈ hs, h.2.2 ≠ []
  rs : ∀ h ∈ hs, Rises h.2.2
  un : ∀ t a a' q, inH hs t a q → inH hs t a' q → a = a'
def pairsH (hs : List Hd) : Nat := (hs.map fun h => h.2.2.length).sum
theorem pairsH_perm {a b : List Hd} (h : a.Perm b) : pairsH a = pairsH b := (h.map _).sum_nat
theorem inH_perm {a b : List Hd} (h : a.Perm b) (t : Int) (x : Bool) (q : Pr) : inH a t x q ↔ inH b t x q := by
  unfold inH
  exact ⟨fun ⟨y, h1, h2⟩ => ⟨y, h.mem_iff.1 h1, h2⟩, fun ⟨y, h1, h2⟩ => ⟨y, h.mem_iff.2 h1, h2⟩⟩
theorem inH_app (a b : List Hd) (t : Int) (x : Bool) (q : Pr) : inH (a ++ b) t x q ↔ inH a t x q ∨ inH b t x q := by
  unfold inH
  constructor
  · rintro ⟨y, h, k⟩
    rcases List.mem_append.1 h with h | h
    · exact .inl ⟨y, h, k⟩
    · exact .inr ⟨y, h, k⟩
  · rintro (⟨y, h, k⟩ | ⟨y, h, k⟩)
    · exact ⟨y, List.mem_append_left _ h, k⟩
    · exact ⟨y, List.mem_append_right _ h, k⟩
theorem inH_cons (h : Hd) (b : List Hd) (t : Int) (x : Bool) (q : Pr) : inH (h :: b) t x q ↔ (h.1 = t ∧ h.2.1 = x ∧ q ∈ h.2.2) ∨ inH b t x q := by
  have := inH_app [h] b t x q
  rw [show [h] ++ b = h :: b from rfl] at this
  rw [this]
  exact ⟨fun k => k.imp (fun ⟨y, k1, k2⟩ => by simp at k1; subst k1; exact k2) id, fun k => k.imp (fun k => ⟨h, by simp, k⟩) id⟩
theorem inH_nil (t : Int) (x : Bool) (q : Pr) : ¬ inH [] t x q := fun ⟨_, h, _⟩ => by simp at h
def restH (h : Hd) : List Hd := if h.2.2.tail = [] then [] else [(h.1, h.2.1, h.2.2.tail)]
def popH (hs : List Hd) : List Hd := (popL ltH hs).take (hs.length - 1)
def takeStep (hs : List Hd) : List Hd := match hs with
  | [] => []
  | h :: _ => if h.2.2.tail = [] then popH hs else pushL ltH (popH hs) (h.1, h.2.1, h.2.2.tail)
theorem popH_spec {h : Hd} {r : List Hd} (hh : Heap ltH (h :: r)) : popL ltH (h :: r) = popH (h :: r) ++ [h] ∧ (popH (h :: r)).Perm r ∧ Heap ltH (popH (h :: r)) := by
  obtain ⟨l', e1, e2, e3, e4⟩ := popL_spec (r := h) ltH_wk hh rfl
  have : popH (h :: r) = l' := by
    unfold popH
    rw [e1, ← e4, List.take_left]
  rw [this]
  exact ⟨e1, List.Perm.cons_inv e2, e3⟩
theorem takeStep_spec {h : Hd} {r : List Hd} (hh : Heap ltH (h :: r)) : (takeStep (h :: r)).Perm (restH h ++ r) ∧ Heap ltH (takeStep (h :: r)) := by
  obtain ⟨_, p, hp⟩ := popH_spec hh
  unfold takeStep restH
  simp only
  split
  · exact ⟨by simpa using p, hp⟩
  · exact ⟨(pushL_perm _ _).trans (List.Perm.cons _ p), pushL_heap ltH_wk hp _⟩
def takeN : Nat → Pr → List Hd → List Hd
  | 0, _, hs => hs
  | n + 1, p, hs => match hs with
    | [] => []
    | h :: r => if fstH h = p then takeN n p (takeStep (h :: r)) else h :: r
theorem fst_mem {h : Hd} (hn : h.2.2 ≠ []) : h.2.2 = fstH h :: h.2.2.tail := by
  unfold fstH
  cases e : h.2.2 with
  | nil => exact absurd e hn
  | cons x l => rfl
theorem takeStep_ne {hs : List Hd} (hh : Heap ltH hs) (hn : ∀ h ∈ hs, h.2.2 ≠ []) : ∀ h ∈ takeStep hs, h.2.2 ≠ [] := by
  cases hs with
  | nil => intro h hh; simp [takeStep] at hh
  | cons x r =>
    intro h hm
    have := (takeStep_spec hh).1.mem_iff.1 hm
    rcases List.mem_append.1 this with k | k
    · unfold restH at k
      split at k
      · simp at k
      · simp at k; subst k; assumption
    · exact hn _ (List.mem_cons_of_mem _ k)
theorem takeStep_in {h : Hd} {r : List Hd} (hh : Heap ltH (h :: r)) (hn : h.2.2 ≠ []) (t : Int) (a : Bool) (q : Pr) : (inH (takeStep (h :: r)) t a q → inH (h :: r) t a q) ∧ (q ≠ fstH h → inH (h :: r) t a q → inH (takeStep (h :: r)) t a q) := by
  have hm := fst_mem hn
  rw [inH_perm (takeStep_spec hh).1, inH_app, inH_cons]
  constructor
  · rintro (⟨y, k1, k2⟩ | k)
    · left
      unfold restH at k1
      split at k1
      · simp at k1
      · simp at k1; subst k1
        exact ⟨k2.1, k2.2.1, by rw [hm]; exact List.mem_cons_of_mem _ k2.2.2⟩
    · exact .inr k
  · rintro hq (⟨k1, k2, k3⟩ | k)
    · left
      rw [hm] at k3
      rcases List.mem_cons.1 k3 with e | k3
      · exact absurd e hq
      · unfold restH
        rw [if_neg (fun e => by rw [e] at k3; simp at k3)]
        exact ⟨_, List.mem_singleton.2 rfl, k1, k2, k3⟩
    · exact .inr k
theorem takeStep_good {h : Hd} {r : List Hd} (G : GoodH (h :: r)) : GoodH (takeStep (h :: r)) := by
  have hn := G.ne h List.mem_cons_self
  refine ⟨(takeStep_spec G.heap).2, takeStep_ne G.heap G.ne, fun x hx => ?_, fun t a a' q k1 k2 => G.un t a a' q ((takeStep_in G.heap hn t a q).1 k1) ((takeStep_in G.heap hn t a' q).1 k2)⟩
  have := (takeStep_spec G.heap).1.mem_iff.1 hx
  rcases List.mem_append.1 this with k | k
  · unfold restH at k
    split at k
    · simp at k
    · simp at k; subst k
      exact (G.rs h List.mem_cons_self).sub (List.tail_sublist _)
  · exact G.rs _ (List.mem_cons_of_mem _ k)
theorem takeStep_pairs {h : Hd} {r : List Hd} (hh : Heap ltH (h :: r)) (hn : h.2.2 ≠ []) : pairsH (takeStep (h :: r)) + 1 = pairsH (h :: r) := by
  rw [pairsH_perm (takeStep_spec hh).1]
  have hm := congrArg List.length (fst_mem hn)
  simp only [List.length_cons] at hm
  unfold pairsH restH
  split
  · rename_i e
    rw [e] at hm
    simp at hm ⊢
    omega
  · simp at hm ⊢
    omega
theorem pairsH_zero {hs : List Hd} (hn : ∀ h ∈ hs, h.2.2 ≠ []) (h : pairsH hs = 0) : hs = [] := by
  cases hs with
  | nil => rfl
  | cons x r =>
    have := List.length_pos_iff.2 (hn x List.mem_cons_self)
    unfold pairsH at h
    rw [List.map_cons, List.sum_cons] at h
    omega
theorem takeN_good : ∀ (n : Nat) (p : Pr) (hs : List Hd), GoodH hs → pairsH hs ≤ n → (∀ t a q, inH hs t a q → ¬ lt q p) → GoodH (takeN n p hs) ∧ ∀ t a q, inH (takeN n p hs) t a q ↔ inH hs t a q ∧ q ≠ p
  | 0, p, hs, G, hn, _ => by
    obtain rfl := pairsH_zero G.ne (by omega)
    exact ⟨G, fun t a q => ⟨fun h => absurd h (inH_nil _ _ _), fun h => h.1⟩⟩
  | n + 1, p, [], G, hn, _ => ⟨G, fun t a q => ⟨fun h => absurd h (inH_nil _ _ _), fun h => h.1⟩⟩
  | n + 1, p, h :: r, G, hn, hl => by
    have hne := G.ne h List.mem_cons_self
    unfold takeN
    simp only
    split
    · rename_i e
      have hp := takeStep_pairs G.heap hne
      obtain ⟨k1, k2⟩ := takeN_good n p (takeStep (h :: r)) (takeStep_good G) (by omega) (fun t a q hq => hl t a q ((takeStep_in G.heap hne t a q).1 hq))
      refine ⟨k1, fun t a q => ?_⟩
      rw [k2]
      constructor
      · exact fun ⟨i, j⟩ => ⟨(takeStep_in G.heap hne t a q).1 i, j⟩
      · exact fun ⟨i, j⟩ => ⟨(takeStep_in G.heap hne t a q).2 (by rw [e]; exact j) i, j⟩
    · rename_i e
      refine ⟨G, fun t a q => ⟨fun k => ⟨k, fun eq => ?_⟩, fun k => k.1⟩⟩
      subst eq
      obtain ⟨y, hy, _, _, hq⟩ := k
      obtain ⟨i, hi⟩ := List.getElem?_of_mem hy
      have hr := heap_root ltH_wk G.heap (r := h) rfl i y hi
      have hyne := G.ne y hy
      have hym := fst_mem hyne
      have hh : inH (h :: r) h.1 h.2.1 (fstH h) := ⟨h, List.mem_cons_self, rfl, rfl, by rw [fst_mem hne]; exact List.mem_cons_self⟩
      have h1 := hl _ _ _ hh
      have hlt : lt q (fstH h) := by
        rcases lt_total q (fstH h) with x | x | x
        · exact x
        · exact absurd x.symm e
        · exact absurd x h1
      have h2 : ¬ lt (fstH y) (fstH h) := fun x => by
        unfold ltH at hr
        simp [x] at hr
      rw [hym] at hq
      have hry := G.rs y hy
      rw [hym, rises_cons] at hry
      rcases List.mem_cons.1 hq with x | x
      · rw [← x] at h2; exact h2 hlt
      · exact h2 (lt_trans (hry.1 _ x) hlt)
def takeH (hs : List Hd) : List Hd := match hs with
  | [] => []
  | h :: r => takeN (pairsH (h :: r)) (fstH h) (h :: r)
theorem least_root {h : Hd} {r : List Hd} (G : GoodH (h :: r)) : (∀ t a q, inH (h :: r) t a q → ¬ lt q (fstH h)) ∧ (∀ t a, inH (h :: r) t a (fstH h) → t ≤ h.1) := by
  have key : ∀ y ∈ h :: r, ltH y h = false := fun y hy => by
    obtain ⟨i, hi⟩ := List.getElem?_of_mem hy
    exact heap_root ltH_wk G.heap (r := h) rfl i y hi
  constructor
  · rintro t a q ⟨y, hy, _, _, hq⟩ hlt
    have hr := key y hy
    have hym := fst_mem (G.ne y hy)
    have h2 : ¬ lt (fstH y) (fstH h) := fun x => by
      unfold ltH at hr
      simp [x] at hr
    rw [hym] at hq
    have hry := G.rs y hy
    rw [hym, rises_cons] at hry
    rcases List.mem_cons.1 hq with x | x
    · rw [← x] at h2; exact h2 hlt
    · exact h2 (lt_trans (hry.1 _ x) hlt)
  · rintro t a ⟨y, hy, rfl, _, hq⟩
    have hr := key y hy
    have hym := fst_mem (G.ne y hy)
    unfold ltH at hr
    simp only [Bool.or_eq_false_iff, Bool.and_eq_false_iff, decide_eq_false_iff_not] at hr
    rw [hym] at hq
    have hry := G.rs y hy
    rw [hym, rises_cons] at hry
    rcases List.mem_cons.1 hq with x | x
    · rcases hr.2 with k | k
      · exact absurd x.symm k
      · omega
    · exact absurd (hry.1 _ x) hr.1
theorem takeH_good {h : Hd} {r : List Hd} (G : GoodH (h :: r)) : GoodH (takeH (h :: r)) ∧ (∀ t a q, inH (takeH (h :: r)) t a q ↔ inH (h :: r) t a q ∧ q ≠ fstH h) ∧ (tellsH (h :: r) (fstH h) ↔ h.2.1 = true) ∧ ∀ q, tellsH (h :: r) q → q = fstH h ∨ lt (fstH h) q := by
  obtain ⟨l1, l2⟩ := least_root G
  obtain ⟨k1, k2⟩ := takeN_good _ _ _ G (Nat.le_refl _) l1
  have hh : inH (h :: r) h.1 h.2.1 (fstH h) := ⟨h, List.mem_cons_self, rfl, rfl, by rw [fst_mem (G.ne h List.mem_cons_self)]; exact List.mem_cons_self⟩
  refine ⟨k1, k2, ⟨?_, fun e => ⟨h.1, by rw [e] at hh; exact hh, fun t' a' k => l2 t' a' k⟩⟩, ?_⟩
  · rintro ⟨t, i, j⟩
    have e : t = h.1 := by have := j _ _ hh; have := l2 _ _ i; omega
    subst e
    exact G.un _ _ _ _ hh i
  · rintro q ⟨t, i, -⟩
    rcases lt_total q (fstH h) with x | x | x
    · exact absurd x (l1 _ _ _ i)
    · exact .inl x
    · exact .inr x
theorem tellsH_take {h : Hd} {r : List Hd} (G : GoodH (h :: r)) (q : Pr) : tellsH (takeH (h :: r)) q ↔ tellsH (h :: r) q ∧ q ≠ fstH h := by
  obtain ⟨_, k2, _⟩ := takeH_good G
  unfold tellsH
  constructor
  · rintro ⟨t, i, j⟩
    obtain ⟨i1, i2⟩ := (k2 _ _ _).1 i
    exact ⟨⟨t, i1, fun t' a' k => j t' a' ((k2 _ _ _).2 ⟨k, i2⟩)⟩, i2⟩
  · rintro ⟨⟨t, i, j⟩, hq⟩
    exact ⟨t, (k2 _ _ _).2 ⟨i, hq⟩, fun t' a' k => j t' a' ((k2 _ _ _).1 k).1⟩
def Tells (hs : List Hd) (L : List Pr) : Prop := Rises L ∧ ∀ q, q ∈ L ↔ tellsH hs q
theorem takeH_lt {h : Hd} {r : List Hd} (G : GoodH (h :: r)) : pairsH (takeH (h :: r)) < pairsH (h :: r) := by
  have hne := G.ne h List.mem_cons_self
  have hp := takeStep_pairs G.heap hne
  obtain ⟨m, hm⟩ : ∃ m, pairsH (h :: r) = m + 1 := ⟨_, hp.symm⟩
  have le : ∀ (n : Nat) (p : Pr) (hs : List Hd), GoodH hs → pairsH (takeN n p hs) ≤ pairsH hs := by
    intro n
    induction n with
    | zero => exact fun p hs _ => Nat.le_refl _
    | succ n ih =>
      intro p hs G
      cases hs with
      | nil => exact Nat.le_refl _
      | cons y s =>
        unfold takeN
        simp only
        split
        · have := ih p _ (takeStep_good G)
          have := takeStep_pairs G.heap (G.ne y List.mem_cons_self)
          omega
        · exact Nat.le_refl _
  unfold takeH
  simp only [hm, takeN, if_pos]
  have := le m (fstH h) _ (takeStep_good G)
  omega
theorem takeN_len : ∀ (n : Nat) (p : Pr) (hs : List Hd), GoodH hs → (takeN n p hs).length ≤ hs.length
  | 0, p, hs, _ => Nat.le_refl _
  | n + 1, p, [], _ => Nat.le_refl _
  | n + 1, p, h :: r, G => by
    unfold takeN
    simp only
    split
    · have := takeN_len n p _ (takeStep_good G)
      have e := (takeStep_spec G.heap).1.length_eq
      rw [List.length_append] at e
      have : (restH h).length ≤ 1 := by unfold restH; split <;> simp
      simp only [List.length_cons]
      omega
    · exact Nat.le_refl _
theorem takeH_len {hs : List Hd} (G : GoodH hs) : (takeH hs).length ≤ hs.length := by
  cases hs with
  | nil => exact Nat.le_refl _
  | cons h r => exact takeN_len _ _ _ G
structure VO where
  hs : List Hd
  at_ : Pr
  fin : Bool
def stepVN : Nat → VO → VO
  | 0, V => V
  | n + 1, V => match V.hs with
    | [] => ⟨[], (0, 0), true⟩
    | h :: r => if h.2.1 then ⟨takeH (h :: r), fstH h, V.fin⟩ else stepVN n ⟨takeH (h :: r), V.at_, V.fin⟩
def stepV (V : VO) : VO := stepVN (pairsH V.hs + 1) V
inductive Stands : VO → List Pr → Prop where
  | fin : Stands ⟨[], (0, 0), true⟩ []
  | at (hs : List Hd) (p : Pr) (L : List Pr) (G : GoodH hs) (hr : Rises (p :: L)) (ht : ∀ q, q ∈ L ↔ tellsH hs q) : Stands ⟨hs, p, false⟩ (p :: L)
theorem stepVN_stands : ∀ (n : Nat) (hs : List Hd) (p : Pr) (L : List Pr), GoodH hs → pairsH hs < n → Tells hs L → Stands (stepVN n ⟨hs, p, false⟩) L
  | 0, hs, p, L, G, hn, _ => by omega
  | n + 1, [], p, L, G, hn, T => by
    obtain rfl : L = [] := List.eq_nil_iff_forall_not_mem.2 fun q hq => by
      obtain ⟨t, i, _⟩ := (T.2 q).1 hq
      exact inH_nil _ _ _ i
    exact .fin
  | n + 1, h :: r, p, L, G, hn, T => by
    obtain ⟨g1, _, g3, g4⟩ := takeH_good G
    have gt := tellsH_take G
    have glt := takeH_lt G
    unfold stepVN
    simp only
    split
    · rename_i e
      have hm := (T.2 _).2 (g3.2 e)
      cases L with
      | nil => simp at hm
      | cons x L =>
        have hx : x = fstH h := by
          rcases g4 x ((T.2 x).1 List.mem_cons_self) with k | k
          · exact k
          · rcases List.mem_cons.1 hm with j | j
            · rw [j] at k; exact absurd k (lt_irrefl _)
            · exact absurd k (lt_asymm ((rises_cons.1 T.1).1 _ j))
        subst hx
        refine .at _ _ _ g1 T.1 fun q => ?_
        rw [gt, ← T.2, List.mem_cons]
        constructor
        · intro hq
          exact ⟨.inr hq, fun e => by subst e; exact lt_irrefl _ ((rises_cons.1 T.1).1 _ hq)⟩
        · rintro ⟨k | k, j⟩
          · exact absurd k j
          · exact k
    · rename_i e
      refine stepVN_stands n _ _ _ g1 (by omega) ⟨T.1, fun q => ?_⟩
      rw [gt, ← T.2]
      exact ⟨fun k => ⟨k, fun eq => by subst eq; exact e (g3.1 ((T.2 _).1 k))⟩, fun k => k.1⟩
theorem stepV_stands {hs : List Hd} {p : Pr} {L : List Pr} (G : GoodH hs) (T : Tells hs L) : Stands (stepV ⟨hs, p, false⟩) L := stepVN_stands _ _ _ _ G (Nat.lt_succ_self _) T
theorem Stands.next {V : VO} {p : Pr} {L : List Pr} (h : Stands V (p :: L)) : Stands (stepV V) L := by
  cases h with
  | «at» hs p L G hr ht => exact stepV_stands G ⟨(rises_cons.1 hr).2, ht⟩
def skipR (p : Pr) (l : List Pr) : List Pr := l.filter fun q => decide (¬ lt q p)
def skipL (p : Pr) : List Hd → List Hd
  | [] => []
  | h :: r => if skipR p h.2.2 = [] then skipL p r else (h.1, h.2.1, skipR p h.2.2) :: skipL p r
def skipV (p : Pr) (V : VO) : VO := ⟨initL ltH (skipL p V.hs) ((skipL p V.hs).length / 2), V.at_, V.fin⟩
theorem skipL_mem {p : Pr} {h : Hd} : ∀ {hs : List Hd}, h ∈ skipL p hs ↔ h.2.2 ≠ [] ∧ ∃ y ∈ hs, h = (y.1, y.2.1, skipR p y.2.2)
  | [] => by simp [skipL]
  | x :: r => by
    unfold skipL
    split
    · rename_i e
      rw [skipL_mem]
      refine and_congr_right fun hn => ⟨fun ⟨y, k1, k2⟩ => ⟨y, List.mem_cons_of_mem _ k1, k2⟩, fun ⟨y, k1, k2⟩ => ?_⟩
      rcases List.mem_cons.1 k1 with rfl | k1
      · rw [k2] at hn; exact absurd e hn
      · exact ⟨y, k1, k2⟩
    · rename_i e
      rw [List.mem_cons, skipL_mem]
      constructor
      · rintro (rfl | ⟨hn, y, k1, k2⟩)
        · exact ⟨e, x, List.mem_cons_self, rfl⟩
        · exact ⟨hn, y, List.mem_cons_of_mem _ k1, k2⟩
      · rintro ⟨hn, y, k1, k2⟩
        rcases List.mem_cons.1 k1 with rfl | k1
        · exact .inl k2
        · exact .inr ⟨hn, y, k1, k2⟩
theorem skipL_in (p : Pr) (hs : List Hd) (t : Int) (a : Bool) (q : Pr) : inH (skipL p hs) t a q ↔ inH hs t a q ∧ ¬ lt q p := by
  unfold inH
  constructor
  · rintro ⟨h, k1, k2, k3, k4⟩
    obtain ⟨_, y, k5, rfl⟩ := skipL_mem.1 k1
    obtain ⟨k6, k7⟩ := List.mem_filter.1 k4
    exact ⟨⟨y, k5, k2, k3, k6⟩, by simpa using k7⟩
  · rintro ⟨⟨y, k1, k2, k3, k4⟩, k5⟩
    have hm : q ∈ skipR p y.2.2 := List.mem_filter.2 ⟨k4, by simpa using k5⟩
    exact ⟨_, skipL_mem.2 ⟨List.ne_nil_of_mem hm, y, k1, rfl⟩, k2, k3, hm⟩
theorem skipL_len (p : Pr) : ∀ hs : List Hd, (skipL p hs).length ≤ hs.length
  | [] => Nat.le_refl _
  | h :: r => by
    have := skipL_len p r
    unfold skipL
    split <;> simp <;> omega
theorem skipV_good {p : Pr} {V : VO} (G : GoodH V.hs) : GoodH (skipV p V).hs ∧ ∀ t a q, inH (skipV p V).hs t a q ↔ inH V.hs t a q ∧ ¬ lt q p := by
  have pm := initL_perm (lt := ltH) (skipL p V.hs) ((skipL p V.hs).length / 2)
  have hi : ∀ t a q, inH (skipV p V).hs t a q ↔ inH V.hs t a q ∧ ¬ lt q p := fun t a q => by
    unfold skipV
    rw [inH_perm pm, skipL_in]
  refine ⟨⟨initL_heap ltH_wk _, fun h hh => (skipL_mem.1 (pm.mem_iff.1 hh)).1, fun h hh => ?_, fun t a a' q k1 k2 => G.un t a a' q ((hi _ _ _).1 k1).1 ((hi _ _ _).1 k2).1⟩, hi⟩
  obtain ⟨_, y, k5, rfl⟩ := skipL_mem.1 (pm.mem_iff.1 hh)
  exact (G.rs y k5).sub List.filter_sublist
noncomputable def seekV (p : Pr) (V : VO) : VO := open Classical in if V.fin = false ∧ lt V.at_ p then stepV (skipV p V) else V
theorem rises_skip {x p : Pr} {L : List Pr} (h : Rises (x :: L)) (hx : ¬ lt x p) : skipR p (x :: L) = x :: L := by
  unfold skipR
  rw [List.filter_eq_self]
  intro q hq
  rw [decide_eq_true_eq]
  rcases List.mem_cons.1 hq with rfl | hq
  · exact hx
  · intro k
    rcases lt_total x p with j | j | j
    · exact hx j
    · subst j; exact lt_asymm ((rises_cons.1 h).1 _ hq) k
    · exact lt_asymm (lt_trans k j) ((rises_cons.1 h).1 _ hq)
theorem Stands.seek {V : VO} {L : List Pr} (h : Stands V L) (p : Pr) : Stands (seekV p V) (skipR p L) := by
  cases h with
  | fin => unfold seekV; rw [if_neg (by simp)]; exact .fin
  | «at» hs x L G hr ht =>
    unfold seekV
    by_cases hx : lt x p
    · rw [if_pos ⟨rfl, hx⟩]
      have e : skipR p (x :: L) = skipR p L := by
        unfold skipR
        rw [List.filter_cons, if_neg (by simpa using hx)]
      rw [e]
      obtain ⟨g1, g2⟩ := skipV_good (p := p) (V := ⟨hs, x, false⟩) G
      refine stepV_stands (p := x) g1 ⟨((rises_cons.1 hr).2).sub List.filter_sublist, fun q => ?_⟩
      unfold skipR
      rw [List.mem_filter, ht, decide_eq_true_eq]
      unfold tellsH
      constructor
      · rintro ⟨⟨t, i, j⟩, hq⟩
        exact ⟨t, (g2 _ _ _).2 ⟨i, hq⟩, fun t' a' k => j t' a' ((g2 _ _ _).1 k).1⟩
      · rintro ⟨t, i, j⟩
        obtain ⟨i1, i2⟩ := (g2 _ _ _).1 i
        exact ⟨⟨t, i1, fun t' a' k => j t' a' ((g2 _ _ _).2 ⟨k, i2⟩)⟩, i2⟩
    · rw [if_neg (fun k => hx k.2), rises_skip hr hx]
      exact .at hs x L G hr ht
end Go.Proofs.Ytlkdkhmdmgchbaa
namespace Go.Proofs.Ytlkdkhmdmgchbaa
set_option linter.unusedSimpArgs false
set_option linter.unusedVariables false
open Go.ChangeShapes Go.WideShapes Go.ChangeAt Go.RowKit Go.Joins Go.Deep
set_option maxRecDepth 100000

theorem own : ownKnob Try.prog.godebug = none := by kernel_rfl
theorem cellsPair : Try.prog.cellsOf 52 = 2 := by kernel_rfl
theorem cellsPairs : Try.prog.cellsOf 22 = 1 := by kernel_rfl
theorem cellsTier : Try.prog.cellsOf 24 = 2 := by kernel_rfl
theorem cellsU64 : Try.prog.cellsOf 50 = 1 := by kernel_rfl
theorem cellsInt : Try.prog.cellsOf 3 = 1 := by kernel_rfl
noncomputable abbrev wWorld (os : Os) : World := World.holding Try.prog os ⟨#[], #[], []⟩

theorem laidOut : laidOutB Try.prog = true := by kernel_rfl
theorem mapsRowed' : mapsRowed Try.prog = true := by kernel_rfl
theorem slicesFull : ∀ t e, t < Try.prog.types.size → Try.prog.underlying t = some (.slice e) → 0 < Try.prog.cellsOf e := slices_full_of Try.prog (by kernel_rfl)
theorem carryAll {H : Type} {enc : TypeId × Value → H} {P : Program} {w w' : World} {base : Nat} {sp : Nat → Bool} {held : Bool} : ∀ {ts : List TypeId} {vs : List Value} {ds : List (DataW H)} {ps : List MemPlace},
    DataW.TrodAll enc P w base sp held ts vs ds ps → (∀ p ∈ ps, w.sameAt w' p) → DataW.TrodAll enc P w' base sp held ts vs ds ps
  | [], [], [], _, h, _ => h
  | _ :: _, _ :: _, _ :: _, _, ⟨p, q, ⟨n, h1⟩, h2, e⟩, hs => ⟨p, q, ⟨n, DataW.trod_carry n _ _ _ h1 (fun x hx => hs x (by rw [e]; exact List.mem_append_left _ hx))⟩, carryAll h2 (fun x hx => hs x (by rw [e]; exact List.mem_append_right _ hx)), e⟩
theorem args_again {H : Type} {enc : TypeId × Value → H} {W W' : World} {ts : List TypeId} {vs : List Value} {ds : List (DataW H)} {ps : List MemPlace}
    (h : DataW.TrodAll enc Try.prog W 0 (fun _ => true) true ts vs ds ps) (hB : Below W.heap.size W W') (hts : ∀ t ∈ ts, t < Try.prog.types.size) :
    DataW.TrodAll enc Try.prog W' 0 (fun b => decide (b < W.heap.size)) true ts vs ds ps :=
  carryAll (DataW.TrodAll.respare (kids_rows laidOut mapsRowed') slicesFull hts h (fun p hp => by simpa using DataW.TrodAll.lt h p hp)) (fun p hp => hB.same (DataW.TrodAll.lt h p hp))

theorem list2 {cs : List Value} (h : cs.length = 2) : ∃ a b, cs = [a, b] := by
  match cs, h with
  | [a, b], _ => exact ⟨a, b, rfl⟩
section
variable {H : Type} {enc : TypeId × Value → H} {W : World} {base n : Nat} {held : Bool} {y : DataW H × List MemPlace}
end

theorem words_space (r : List Char) : wordsSigns (Char.ofNat 32 :: r) = [] :: wordsSigns r := rfl
theorem words_other (c : Char) (r : List Char) (h : c ≠ Char.ofNat 32) (w : List Char) (ws : List (List Char)) (hr : wordsSigns r = w :: ws) : wordsSigns (c :: r) = (c :: w) :: ws := by
  rw [wordsSigns]
  · rw [hr]
  · exact h
theorem words_split : ∀ (a r : List Char), (a.all fun c => decide (c ≠ Char.ofNat 32)) = true → wordsSigns (a ++ Char.ofNat 32 :: r) = a :: wordsSigns r
  | [], r, _ => words_space r
  | c :: a, r, h => by
    simp only [List.all_cons, Bool.and_eq_true, decide_eq_true_eq] at h
    rw [List.cons_append]
    exact words_other _ _ h.1 _ _ (words_split a r h.2)
set_option maxRecDepth 100000 in
theorem head_is : ∃ L, Try.prog.initOrder = String.ofList L ∧ L = L.take 7 ++ Char.ofNat 32 :: ((L.drop 8).take 64 ++ Char.ofNat 32 :: ((L.drop 73).take 3 ++ Char.ofNat 32 :: L.drop 77)) ∧ ((L.take 7).all fun c => decide (c ≠ Char.ofNat 32)) = true ∧ (((L.drop 8).take 64).all fun c => decide (c ≠ Char.ofNat 32)) = true ∧ (((L.drop 73).take 3).all fun c => decide (c ≠ Char.ofNat 32)) = true ∧
    ((L.take 7 == "harness".toList || L.take 7 == "ownmain".toList) && isSumSigns ((L.drop 8).take 64)) = true ∧ (L.drop 73).take 3 = "cut".toList := ⟨_, rfl, by kernel_rfl, by kernel_rfl, by kernel_rfl, by kernel_rfl, by kernel_rfl, by kernel_rfl⟩
theorem head_cut : ∃ rest, behindMainWord (wordsSigns Try.prog.initOrder.toList) = "cut".toList :: rest := by
  obtain ⟨L, h1, h2, n1, n2, n3, h3, h4⟩ := head_is
  rw [h1, String.toList_ofList, h2, words_split _ _ n1, words_split _ _ n2, words_split _ _ n3, behindMainWord, if_pos h3, h4]
  exact ⟨_, rfl⟩
theorem make_of (P : Program) (rest : List (List Char)) (h : behindMainWord (wordsSigns P.initOrder.toList) = "cut".toList :: rest) : (P.make == some Make.cut) = true := by
  unfold Program.make
  rw [h]
  kernel_rfl
theorem strip_is (rest : List (List Char)) : stripLifts liftWords ("cut".toList :: rest) = ([], "cut".toList :: rest) := by kernel_rfl
theorem final_of (P : Program) (rest : List (List Char)) (h : behindMainWord (wordsSigns P.initOrder.toList) = "cut".toList :: rest) : (false == P.liftsFinal) = true := by
  unfold Program.liftsFinal Program.headLifts
  rw [h]
  simp only [strip_is]
  kernel_rfl
theorem enter_of (P : Program) (rest : List (List Char)) (h : behindMainWord (wordsSigns P.initOrder.toList) = "cut".toList :: rest) (h1 : P.laysLater = false) (h2 : P.bearsReflect = false) (h3 : P.doorFits [] = true) : P.mayEnter = true := by
  unfold Program.mayEnter
  rw [h]
  simp only [strip_is, h1, h2, h3]
  kernel_rfl
theorem lays_is : Try.prog.laysLater = false := by kernel_rfl
theorem bears_is : Try.prog.bearsReflect = false := by kernel_rfl
theorem door_is : Try.prog.doorFits [] = true := by kernel_rfl
theorem make_is : (Try.pinned.checked.prog.make == some Make.cut) = true := by
  obtain ⟨rest, h⟩ := head_cut
  exact make_of Try.prog rest h
theorem final_is : (false == Try.pinned.checked.prog.liftsFinal) = true := by
  obtain ⟨rest, h⟩ := head_cut
  exact final_of Try.prog rest h
theorem enter_is : Try.pinned.checked.prog.mayEnter = true := by
  obtain ⟨rest, h⟩ := head_cut
  exact enter_of Try.prog rest h lays_is bears_is door_is
section
variable {H : Type} {enc : TypeId × Value → H} {W : World} {base n : Nat} {held : Bool} {y : DataW H × List MemPlace}
end
end Go.Proofs.Ytlkdkhmdmgchbaa
