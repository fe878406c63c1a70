/- (the runs) a range over a function whose iterator may keep a state of its own in memory: one law for the caller, at the wide fence. -/
import Derived.Test.YtlkdkhmdmgchbaaH1
import Derived.RangeFuncNested
import Derived.RangeFuncBound
import Derived.RangeFuncCalls
import Derived.RangeFuncLeaves
import Derived.Shelf.Abstract
import Derived.Shelf.RegionOpen
import Derived.OwnWalkIn
import Derived.TacticsInMore
import Derived.LoopNIn
import Derived.LoopIn
import Derived.Maps.OwnIn
namespace Go.Proofs.Ytlkdkhmdmgchbaa
set_option linter.unusedSimpArgs false
set_option linter.unusedVariables false
open Go.RowKit

/-- The iterator's contract. K: the blocks that it leaves alone. Pre: what it wants of the world. Kp: what a round that goes on keeps for it. Sx: which element may come next. S, Sp: what has come at the end, or where it was stopped. -/
def Iter (P : Program) (g : Nat) (lb : Array Value) {α : Type} (encs : α → Array Value) (K : Nat → Prop) (Pre : World → Prop) (Kp : World → World → Prop)
    (Sx : List α → α → Prop) (S Sp : List α → Prop) : Prop :=
  ∀ (l : Nat) (J Jx : List α → World → Prop) (W : World), Pre W →
    (∀ pre W W', J pre W → Keeps K W W' → J pre W') → (∀ pre W W', Jx pre W → Keeps K W W' → Jx pre W') →
    (∀ pre x W1, J pre W1 → Sx pre x → YieldAt Fence.wide 8 P l (encs x) W1 fun e W' =>
      (e = .returned (.bool true) ∧ J (pre ++ [x]) W' ∧ Kp W1 W') ∨ (e = .returned (.bool false) ∧ Jx (pre ++ [x]) W')) →
    J [] W →
    CallsIn Fence.wide 9 P g (#[.func (.yield l) #[] #[]] ++ lb) W fun e W' => (∃ v, e = .returned v) ∧ ((∃ xs, S xs ∧ J xs W') ∨ (∃ pre, Sp pre ∧ Jx pre W'))

/-- the loop's own two blocks lie as they lay, nothing has gone. -/
def KeepsAt (D : Nat) (W W' : World) : Prop := W'.heap[D]? = W.heap[D]? ∧ W'.heap[D + 1]? = W.heap[D + 1]?
theorem KeepsAt.refl (D : Nat) (W : World) : KeepsAt D W W := ⟨rfl, rfl⟩
theorem KeepsAt.trans {D : Nat} {A B C : World} (h : KeepsAt D A B) (k : KeepsAt D B C) : KeepsAt D A C := ⟨k.1.trans h.1, k.2.trans h.2⟩
theorem KeepsAt.alloc {D : Nat} {A B : World} (h : KeepsAt D A B) (hB : D + 2 ≤ B.heap.size) (o : Obj) : KeepsAt D A (B.alloc o) :=
  h.trans ⟨Below.heap_alloc _ _ _ (by omega), Below.heap_alloc _ _ _ (by omega)⟩
theorem KeepsAt.setCell {D : Nat} {A B : World} (h : KeepsAt D A B) {p : Addr} (hp : p.block < D ∨ D + 1 < p.block) (u : Value) : KeepsAt D A (B.setCell p u) :=
  h.trans ⟨Below.heap_setCell _ _ _ _ (by omega), Below.heap_setCell _ _ _ _ (by omega)⟩
theorem KeepsAt.drew {D : Nat} {A B : World} (h : KeepsAt D A B) : KeepsAt D A B.drew := h
theorem KeepsAt.of_below {D : Nat} {A B : World} {n : Nat} (h : Below n A B) (hn : D + 2 ≤ n) : KeepsAt D A B := ⟨h.block _ (by omega), h.block _ (by omega)⟩

/-- how a round's body is left. -/
def roundEnd {α : Type} (D : Nat) (Kp : World → World → Prop) (I : List α → World → Prop) (Ix : Code → List α → World → Prop) (xs : List α) (W : World) : Exit → Act → World → Prop
  | .normal, _, W' => KeepsAt D W W' ∧ Kp W W' ∧ I xs W'
  | .ret, _, W' => KeepsAt D W W' ∧ Ix .ret xs W'
  | .exit id, _, W' => KeepsAt D W W' ∧ Ix (.exit id) xs W'
  | .goto t, _, W' => KeepsAt D W W' ∧ Ix (.goto t) xs W'
  | .panic _, _, _ => False
  | .outgrown, _, _ => False

theorem putObj_keeps {K : Nat → Prop} (W : World) (l : Nat) (o : Obj) (hl : ¬ K l) : Keeps K W (W.putObj l o) :=
  ⟨rfl, rfl, rfl, by simp, fun k _ hk => World.putObj_heap_other (by rintro rfl; exact hl hk)⟩

theorem range_wide {P : Program} {α : Type} {g : Operand} {ps : Array Tmp} {assign body : Code} {Q : Exit → Act → World → Prop} {a : Act} {w : World}
    {gf : Nat} {lb : Array Value} (hg : a.eval g = .func (.func gf) #[] lb) (eg : ∀ args w, (callFunc gf args).run P w = .ok (.enter gf args) w)
    {encs : α → Array Value} {K : Nat → Prop} {Pre : World → Prop} {Kp : World → World → Prop} {Sx : List α → α → Prop} {S Sp : List α → Prop}
    (hseq : Iter P gf lb encs K Pre Kp Sx S Sp) (hPre : ∀ W, Below w.heap.size w W → Pre W) (hK : K w.heap.size ∧ K (w.heap.size + 1))
    (hKt : ∀ {A B C : World}, Kp A B → Kp B C → Kp A C) (hKb : ∀ (W : World) (o : Obj), Kp W (W.putObj (w.heap.size + 1) o)) (hps : ∀ x, (encs x).size = ps.size)
    (I : List α → World → Prop) (Ix : Code → List α → World → Prop) (Ia : List α → α → Act → World → Prop)
    (hI : ∀ pre W W', I pre W → Keeps (fun k => K k ∧ k ≠ w.heap.size ∧ k ≠ w.heap.size + 1) W W' → I pre W')
    (hIx : ∀ c pre W W', Ix c pre W → Keeps (fun k => K k ∧ k ≠ w.heap.size ∧ k ≠ w.heap.size + 1) W W' → Ix c pre W')
    (hIa : ∀ pre x a W W', Ia pre x a W → Keeps (fun k => K k ∧ k ≠ w.heap.size ∧ k ≠ w.heap.size + 1) W W' → Ia pre x a W')
    (h0 : I [] w)
    (hassign : ∀ (l : Nat) (pre : List α) (x : α) (W : World), I pre W → Sx pre x → w.heap.size + 2 ≤ W.heap.size →
      assign.wpIn (Fence.wide.inRound l) 8 P (Exit.then (fun a₁ W' => KeepsAt w.heap.size W W' ∧ Kp W W' ∧ W.heap.size ≤ W'.heap.size ∧ Ia pre x a₁ W') (fun _ _ _ => False)) { tmps := (ps.zip (encs x)).foldl (fun t (p, v) => t.setIfInBounds p v) a.tmps, defers := [] } W)
    (hbody : ∀ (l : Nat) (pre : List α) (x : α) (a₁ : Act) (W : World), Ia pre x a₁ W → Sx pre x → w.heap.size + 2 ≤ W.heap.size →
      body.wpIn (Fence.wide.inRound l) 8 P (roundEnd w.heap.size Kp I Ix (pre ++ [x]) W) a₁ W)
    (hdone : ∀ (xs : List α) (W : World), S xs → I xs W → W.heap[w.heap.size]? = some (.deferred (some [])) → Q .normal { a with defers := { target := .collected w.heap.size, args := #[] } :: a.defers } W)
    (hstop : ∀ (c : Code) (pre : List α) (W : World), Sp pre → Ix c pre W → W.heap[w.heap.size]? = some (.deferred (some [])) → c.wpIn Fence.wide 10 P Q { a with defers := { target := .collected w.heap.size, args := #[] } :: a.defers } W) :
    (Code.rangeFunc g ps assign body).wpIn Fence.wide 10 P Q a w := by
  refine wpIn_rangeFunc ?_
  intro fn hfn
  obtain ⟨rec, hrec⟩ : ∃ rec : LoopState → Option Code → Loop, rec = fun st pe => { state := st, pending := pe, fn, tmps := a.tmps, params := ps, assign, body, defers := w.heap.size } := ⟨_, rfl⟩
  obtain ⟨W1, hW1⟩ : ∃ W1, (w.alloc (.deferred (some []))).alloc (.loop (rec .ready none)) = W1 := ⟨_, rfl⟩
  have hL1 : W1.heap[w.heap.size + 1]? = some (.loop (rec .ready none)) := by
    rw [← hW1]; have := World.alloc_heap_new (w.alloc (.deferred (some []))) (.loop (rec .ready none)); rwa [World.size_alloc] at this
  have hK1 : W1.heap[w.heap.size]? = some (.deferred (some [])) := by
    rw [← hW1]; exact (Below.heap_alloc _ _ _ (by simp)).trans (World.alloc_heap_new w _)
  have hI1 : I [] W1 := by
    rw [← hW1]; exact hI _ _ _ h0 (((Keeps.refl _ w).alloc _).alloc _)
  have hb1 : Below w.heap.size w W1 := by
    rw [← hW1]; exact ((Below.refl _ w).alloc (Nat.le_refl _) _).alloc (by simp) _
  have lt_of : ∀ {W : World} {k : Nat} {o : Obj}, W.heap[k]? = some o → k < W.heap.size := fun h => (Array.getElem?_eq_some_iff.1 h).1
  have kpu : ∀ (W : World) (o : Obj), Keeps (fun k => K k ∧ k ≠ w.heap.size ∧ k ≠ w.heap.size + 1) W (W.putObj (w.heap.size + 1) o) := fun W o => putObj_keeps W _ o (by simp)
  refine ⟨w.heap.size + 1, [{ target := .collected w.heap.size, args := #[] }], W1, { target := .fn (.func gf) lb, args := #[.func (.yield (w.heap.size + 1)) #[] #[]] }, W1, gf,
    #[.func (.yield (w.heap.size + 1)) #[] #[]] ++ lb, W1, ?_, ?_, ?_, ?_, fun _ => by omega, ?_⟩
  · rw [← hW1, hrec]; exact run_enterLoop_outer _ _ _ _ _
  · simp only [resolve, hg]
    simp [go_sem]
  · intro f' _; trivial
  · simp [invoke, go_sem, eg]
  refine (hseq (w.heap.size + 1)
    (fun pre W => I pre W ∧ W.heap[w.heap.size + 1]? = some (.loop (rec .ready none)) ∧ W.heap[w.heap.size]? = some (.deferred (some [])))
    (fun pre W => ∃ c, Ix c pre W ∧ W.heap[w.heap.size + 1]? = some (.loop (rec .done (some c))) ∧ W.heap[w.heap.size]? = some (.deferred (some [])))
    W1 (hPre _ hb1)
    (fun pre W W' hs hk => ⟨hI _ _ _ hs.1 ⟨hk.os, hk.tape, hk.output, hk.size, fun k h1 h2 => hk.block k h1 h2.1⟩, (hk.block _ (lt_of hs.2.1) hK.2).trans hs.2.1, (hk.block _ (lt_of hs.2.2) hK.1).trans hs.2.2⟩)
    (fun pre W W' hs hk => by
      obtain ⟨c, hc, hl, hd⟩ := hs
      exact ⟨c, hIx _ _ _ _ hc ⟨hk.os, hk.tape, hk.output, hk.size, fun k h1 h2 => hk.block k h1 h2.1⟩, (hk.block _ (lt_of hl) hK.2).trans hl, (hk.block _ (lt_of hd) hK.1).trans hd⟩)
    ?_ ⟨hI1, hL1, hK1⟩).mono ?_
  · rintro pre x W ⟨hi, hl, hd⟩ hx
    have hlt := lt_of hl
    have hy := run_yield (P := P) (args := encs x) hl (by rw [hrec]; exact hps x)
    rw [hrec] at hy
    refine ⟨fn, _, assign, body, hy, roundIn_of_wpIn hfn (wpIn_mono (hassign _ pre x W hi hx hlt) ?_)⟩
    intro e a₁ W2 hp
    cases e with
    | normal =>
      obtain ⟨hk2, hkp2, hsz, hia⟩ := hp
      have hl2 := hk2.2.trans hl
      have hd2 := hk2.1.trans hd
      refine ⟨_, run_beginRound hl2 (by rw [hrec]), ?_⟩
      have hl3 : (W2.putObj (w.heap.size + 1) (.loop { rec .ready none with state := .busy })).heap[w.heap.size + 1]? = some (.loop { rec .ready none with state := .busy }) := World.putObj_heap_same (lt_of hl2)
      have hd3 : (W2.putObj (w.heap.size + 1) (.loop { rec .ready none with state := .busy })).heap[w.heap.size]? = some (.deferred (some [])) := (World.putObj_heap_other (by omega)).trans hd2
      refine wpIn_mono (hbody _ pre x _ _ (hIa _ _ _ _ _ hia (kpu _ _)) hx (by simp; omega)) ?_
      have fin : ∀ (jump : Option Code) (W4 : World), KeepsAt w.heap.size (W2.putObj (w.heap.size + 1) (.loop { rec .ready none with state := .busy })) W4 →
          (Instr.endRound (w.heap.size + 1) jump).run P W4 = .ok (.bool jump.isNone) (W4.putObj (w.heap.size + 1) (.loop (rec (if jump.isNone then .ready else .done) jump))) ∧
          (W4.putObj (w.heap.size + 1) (.loop (rec (if jump.isNone then .ready else .done) jump))).heap[w.heap.size + 1]? = some (.loop (rec (if jump.isNone then .ready else .done) jump)) ∧
          (W4.putObj (w.heap.size + 1) (.loop (rec (if jump.isNone then .ready else .done) jump))).heap[w.heap.size]? = some (.deferred (some [])) := fun jump W4 hk4 => by
        have hl4 := hk4.2.trans hl3
        have := run_endRound (P := P) jump hl4
        rw [hrec] at this ⊢
        exact ⟨this, World.putObj_heap_same (lt_of hl4), (World.putObj_heap_other (by omega)).trans (hk4.1.trans hd3)⟩
      rintro e a3 W3 hp
      cases e with
      | normal =>
        obtain ⟨hk3, hkp3, hi3⟩ := hp
        obtain ⟨hr, hl4, hd4⟩ := fin none W3 hk3
        exact ⟨_, _, hr, .inl ⟨rfl, ⟨hI _ _ _ hi3 (kpu _ _), hl4, hd4⟩, hKt hkp2 (hKt (hKb _ _) (hKt hkp3 (hKb _ _)))⟩⟩
      | ret =>
        obtain ⟨hk3, hi3⟩ := hp
        obtain ⟨hr, hl4, hd4⟩ := fin (some .ret) W3 hk3
        exact ⟨_, _, hr, .inr ⟨rfl, .ret, hIx _ _ _ _ hi3 (kpu _ _), hl4, hd4⟩⟩
      | exit id =>
        obtain ⟨hk3, hi3⟩ := hp
        obtain ⟨hr, hl4, hd4⟩ := fin (some (.exit id)) W3 hk3
        exact ⟨_, _, hr, .inr ⟨rfl, .exit id, hIx _ _ _ _ hi3 (kpu _ _), hl4, hd4⟩⟩
      | goto t =>
        obtain ⟨hk3, hi3⟩ := hp
        obtain ⟨hr, hl4, hd4⟩ := fin (some (.goto t)) W3 hk3
        exact ⟨_, _, hr, .inr ⟨rfl, .goto t, hIx _ _ _ _ hi3 (kpu _ _), hl4, hd4⟩⟩
      | panic ch => exact hp.elim
      | outgrown => exact hp.elim
    | ret => exact hp.elim
    | exit id => exact hp.elim
    | goto t => exact hp.elim
    | panic ch => exact hp.elim
    | outgrown => exact hp.elim
  · rintro e W2 ⟨⟨v, rfl⟩, (⟨xs, hS, hi, hl, hd⟩ | ⟨pre, hSp, c, hi, hl, hd⟩)⟩
    · exact ⟨none, _, by have := run_endLoop (P := P) hl (by rw [hrec]; simp); rw [hrec] at this; exact this, hdone xs _ hS (hI _ _ _ hi (kpu _ _)) ((World.putObj_heap_other (by omega)).trans hd)⟩
    · exact ⟨some c, _, by have := run_endLoop (P := P) hl (by rw [hrec]; simp); rw [hrec] at this; exact this, hstop c pre _ hSp (hIx _ _ _ _ hi (kpu _ _)) ((World.putObj_heap_other (by omega)).trans hd)⟩

theorem hmf {fn : Fn} {first cap : Array Value} {w : World} : (Instr.makeFunc fn first cap).run Try.prog w = .ok (.func fn first cap) w := rfl
/-- append one pair, inside a fence. -/
theorem app1In {F : Fence} {nF : Nat} {ops : Array Oper} {rest : List Oper} {o : Oper} {a : Act} {Q : Exit → Act → World → Prop} (hgd : o.guard = none) (s x : Operand)
    (ho : o.op = .call { callee := .builtin .append, args := #[s, x], argTypes := #[22, 22] }) {w : World} (B : Nat) (v : Value) (l : List Pr) (c d : Int) (W : World)
    (hs : a.eval s = v) (hx : a.eval x = .slice (some ⟨W.heap.size, 0, none⟩) 1 1) (hw : w = W.alloc (.cells #[.int .u64 c, .int .u64 d] 52)) (own : POwn B W v l) (hB : B ≤ W.heap.size) (hlen : l.length ≤ 100000000)
    (h : ∀ v' w1, POwn B w1 v' (l ++ [(c, d)]) → Keeps (fun k => some k ≠ v.ownBlock) W w1 → (v'.ownBlock = v.ownBlock ∨ ∃ k, v'.ownBlock = some k ∧ W.heap.size ≤ k) → wpListIn F nF Try.prog ops Q rest (a.put o.dst v') w1) : wpListIn F nF Try.prog ops Q (o :: rest) a w := by
  obtain ⟨i, hi, hz0, hz1, hz2⟩ := infoP'
  subst hw
  refine wpListIn_append_own_at _ hgd s x 22 ho B 52 i (.agg #[.int .u64 0, .int .u64 0]) 2 16 Try.underlying22 hi hz0 hz1 hz2 rfl (by decide) v l.length _ hs (World.ownsRow.alloc own _) ⟨W.heap.size, 0, none⟩ 1 1 [.int .u64 c, .int .u64 d] hx rfl ?_ ?_ ?_ ?_ ?_ ?_
  · intro j u hj
    match j, hj with
    | 0, hj => simp at hj; subst hj; simp [Addr.add]
    | 1, hj => simp at hj; subst hj; simp [Addr.add]
    | j + 2, hj => simp at hj
  · intro u hu; simp at hu; rcases hu with rfl | rfl <;> rfl
  · unfold maxLen; omega
  · omega
  · simp; omega
  · intro v' w1 h1 h2 _ h4
    refine h v' w1 ?_ ?_ ?_
    · unfold POwn
      rw [flat_append, List.length_append]
      exact h1
    · have hs := h2.size
      simp only [World.size_alloc] at hs
      exact ⟨h2.os, h2.tape, h2.output, by omega, fun k hk hK => (h2.block k (by simp; omega) hK).trans (Below.heap_alloc _ _ _ hk)⟩
    · rcases h4 with h4 | h4
      · exact .inl h4
      · exact .inr ⟨_, h4, by simp⟩
/-- a row without its first pairs. -/
theorem PRow.drop {w : World} {p : Option Addr} {cap : Nat} {l : List Pr} (h : PRow w (.slice p l.length cap) l) (k : Nat) (hk : k ≤ l.length) : PRow w (.slice (if cap = k then p else p.map (·.add (k * 2))) (l.length - k) (cap - k)) (l.drop k) := by
  obtain ⟨p', cap', e, h1, h2, h4, h3⟩ := h
  simp only [Value.slice.injEq, true_and] at e
  obtain ⟨rfl, rfl⟩ := e
  refine ⟨_, _, by rw [List.length_drop], by rw [List.length_drop]; omega, fun hn => ?_, by omega, fun hl => ?_⟩
  · split at hn
    · omega
    · simp at hn
      have := h2 hn; omega
  · rw [List.length_drop] at hl
    obtain ⟨g, o, rfl, h5⟩ := h3 (by omega)
    have : ¬ cap = k := by omega
    rw [if_neg this]
    have hadd : (⟨g, o, none⟩ : Addr).add (k * 2) = ⟨g, o + k * 2, none⟩ := by unfold Addr.add; split <;> simp_all
    refine ⟨g, o + k * 2, by rw [Option.map_some, hadd], fun j x hj => ?_⟩
    rw [List.getElem?_drop] at hj
    have := h5 _ _ hj
    rw [show o + k * 2 + j * 2 = o + (k + j) * 2 by omega]
    exact this
end Go.Proofs.Ytlkdkhmdmgchbaa
