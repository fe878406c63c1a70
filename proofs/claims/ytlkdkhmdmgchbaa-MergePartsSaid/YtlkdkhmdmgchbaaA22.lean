/- a state seen anew: variables and zones under other names, zones taken together, the rest forgotten. -/
import Derived.Test.YtlkdkhmdmgchbaaAB
namespace Go.Proofs.Ytlkdkhmdmgchbaa
set_option linter.unusedSimpArgs false
set_option linter.unusedVariables false
open Go.RowKit

def subz (zb : Nat → List Nat) (zs zs' : List Nat) : Prop := ∀ z ∈ zs, ∃ z' ∈ zs', z ∈ zb z'
def FvL (σ' : St) (zb : Nat → List Nat) : List (List Nat × D) → List (List Nat × D) → Prop
  | [], [] => True
  | (zs, d) :: cs, (zs', d') :: cs' => d = d' ∧ subz zb zs zs' ∧ (∀ z ∈ zs', Uz σ' z) ∧ FvL σ' zb cs cs'
  | _, _ => False
/-- a value seen anew. -/
def Fv (σ' : St) (nb : Nat → Nat) (zb : Nat → List Nat) : AV → AV → Prop
  | .c zs d, .c zs' d' => d = d' ∧ subz zb zs zs' ∧ ∀ z ∈ zs', Uz σ' z
  | .agg cs, .agg cs' => FvL σ' zb cs cs'
  | .ptr n o, .ptr n' o' => nb n' = n ∧ o = o' ∧ Nm σ' n'
  | _, _ => False
structure Fold (σ σ' : St) (nb : Nat → Nat) (zb : Nat → List Nat) : Prop where
  nm : ∀ n, Nm σ' n → Nm σ (nb n)
  inj : ∀ n m, Nm σ' n → Nm σ' m → nb n = nb m → n = m
  lv : ∀ z, Lv σ' z → σ' (.zn z) = .zn .live ∧ ∀ y ∈ zb z, Lv σ y
  dis : ∀ y z, y ≠ z → Lv σ' y → Lv σ' z → ∀ x ∈ zb y, x ∉ zb z
  z0 : ∀ z, z ≠ 0 → Lv σ' z → ∀ y ∈ zb z, y ≠ 0
  tmp : ∀ t x', σ' (.tmp t) = .av x' → ∃ x, σ (.tmp t) = .av x ∧ Fv σ' nb zb x x'
  cell : ∀ n k x', σ' (.cell n k) = .av x' → Nm σ' n ∧ ∃ x, σ (.cell (nb n) k) = .av x ∧ Fv σ' nb zb x x'
section
variable {W0 : World} {N : Nat} {σ σ' : St} {nb : Nat → Nat} {zb : Nat → List Nat} {a : Act} {w : World} {G : Gh}
def fgh (G : Gh) (nb : Nat → Nat) (zb : Nat → List Nat) : Gh := ⟨fun n => G.ρ (nb n), fun z g o => ∃ y ∈ zb z, G.ζ y g o, G.τ⟩
theorem FvL.get : ∀ {cs cs' : List (List Nat × D)}, FvL σ' zb cs cs' → cs.length = cs'.length ∧ ∀ (i : Nat) (zs' : List Nat) (d' : D), cs'[i]? = some (zs', d') → ∃ zs, cs[i]? = some (zs, d') ∧ subz zb zs zs' ∧ ∀ z ∈ zs', Uz σ' z
  | [], [], _ => ⟨rfl, fun i zs' d' h => by simp at h⟩
  | [], _ :: _, h => h.elim
  | _ :: _, [], h => by unfold FvL at h; exact h.elim
  | (zs, d) :: cs, (zs', d') :: cs', h => by
    unfold FvL at h
    obtain ⟨h1, h2, h3, h4⟩ := h
    obtain ⟨k1, k2⟩ := FvL.get h4
    refine ⟨by simp [k1], fun i ws' e' hi => ?_⟩
    cases i with
    | zero => simp at hi; obtain ⟨rfl, rfl⟩ := hi; exact ⟨zs, by simp [h1], h2, h3⟩
    | succ i => exact k2 i ws' e' (by simpa using hi)
theorem Fold.data (F : Fold σ σ' nb zb) {zs zs' : List Nat} {d : D} {v : Value} (hs : subz zb zs zs') (h : (∀ z ∈ zs, Lv σ z) → RepD (G.zu zs) w v d) (hl : ∀ z ∈ zs', Lv σ' z) : RepD ((fgh G nb zb).zu zs') w v d :=
  (h fun z hz => by obtain ⟨z', h1, h2⟩ := hs z hz; exact (F.lv z' (hl z' h1)).2 z h2).evo fun g o u ⟨z, hz, hg⟩ hc => by
    obtain ⟨z', h1, h2⟩ := hs z hz
    exact ⟨⟨z', h1, z, h2, hg⟩, hc⟩
theorem Fold.rep (F : Fold σ σ' nb zb) {x x' : AV} {v : Value} (hx : Fv σ' nb zb x x') (h : Rep G σ w v x) : Rep (fgh G nb zb) σ' w v x' := by
  obtain ⟨ok, rep⟩ := h
  cases x <;> cases x' <;> simp only [Fv] at hx
  case c.c zs d zs' d' =>
    obtain ⟨rfl, h1, h2⟩ := hx
    exact ⟨h2, fun hl => F.data h1 rep hl⟩
  case agg.agg cs cs' =>
    obtain ⟨k1, k2⟩ := FvL.get hx
    obtain ⟨vs, e1, e2, k⟩ := rep
    refine ⟨fun c hc z hz => ?_, vs, e1, by omega, fun i zs' d' hi hl => ?_⟩
    · obtain ⟨i, hi⟩ := List.mem_iff_getElem?.1 hc
      obtain ⟨zs, _, _, h3⟩ := k2 i c.1 c.2 hi
      exact h3 z hz
    · obtain ⟨zs, h1, h2, _⟩ := k2 i zs' d' hi
      exact F.data h2 (k i zs d' h1) hl
  case ptr.ptr n o n' o' =>
    obtain ⟨rfl, rfl, h⟩ := hx
    exact ⟨h, rep⟩
theorem AS.fold (F : Fold σ σ' nb zb) (h : AS W0 N σ a w) : AS W0 N σ' a w := by
  obtain ⟨G, h⟩ := h
  refine ⟨fgh G nb zb, ⟨h.fr, h.df, h.sz, fun t x' e => ?_, fun n k x' e => ?_, fun n hn => h.nm _ (F.nm n hn), fun n m hn hm e => F.inj n m hn hm (h.inj _ _ (F.nm n hn) (F.nm m hm) e), fun z g o hz hg => ?_, fun z E sz rows e => ?_, fun z g o h0 hz hg => ?_, fun y z g o o' hyz hy hz hg hg' => ?_⟩⟩
  · obtain ⟨x, e1, e2⟩ := F.tmp t x' e
    obtain ⟨v, h1, h2⟩ := h.tmp t x e1
    exact ⟨v, h1, F.rep e2 h2⟩
  · obtain ⟨hn, x, e1, e2⟩ := F.cell n k x' e
    obtain ⟨_, v, h1, h2, h3⟩ := h.cell _ k x e1
    exact ⟨hn, v, h1, h2, F.rep e2 h3⟩
  · obtain ⟨y, hy, hg⟩ := hg
    obtain ⟨h1, h2⟩ := h.sep y g o ((F.lv z hz).2 y hy) hg
    exact ⟨h1, fun n hn => h2 _ (F.nm n hn)⟩
  · have := (F.lv z (.inr ⟨E, sz, rows, e⟩)).1
    rw [this] at e; cases e
  · obtain ⟨y, hy, hg⟩ := hg
    exact h.new y g o (F.z0 z h0 hz y hy) ((F.lv z hz).2 y hy) hg
  · obtain ⟨x, hx, hg⟩ := hg
    obtain ⟨x', hx', hg'⟩ := hg'
    exact h.disj x x' g o o' (fun e => F.dis y z hyz hy hz x hx (e ▸ hx')) ((F.lv y hy).2 x hx) ((F.lv z hz).2 x' hx') hg hg'
end

/-! ### the same, on rows -/
def nmsOf : Row → List Nat
  | [] => []
  | (.nm n, _) :: L => n :: nmsOf L
  | _ :: L => nmsOf L
def znsOf : Row → List Nat
  | [] => []
  | (.zn n, _) :: L => n :: znsOf L
  | _ :: L => znsOf L
def kvp (e : KV) (k : AV → Prop) : Prop := match e with
  | .av x => k x
  | _ => False
/-- what one row of the state to be asks of the state that is. -/
def fok (L L' : Row) (nb : Nat → Nat) (zb : Nat → List Nat) : Key → KV → Prop
  | .tmp t, .av x' => kvp (lk L (.tmp t)) fun x => Fv (lk L') nb zb x x'
  | .cell n k, .av x' => lk L' (.nm n) = .nm true ∧ kvp (lk L (.cell (nb n) k)) fun x => Fv (lk L') nb zb x x'
  | .nm n, .nm true => lk L (.nm (nb n)) = .nm true
  | .zn z, .zn .live => ∀ y ∈ zb z, lk L (.zn y) = .zn .live
  | .zn _, .zn (.app ..) => False
  | _, _ => True
def foks (L L' : Row) (nb : Nat → Nat) (zb : Nat → List Nat) : Row → Prop
  | [] => True
  | (k, v) :: R => fok L L' nb zb k v ∧ foks L L' nb zb R
def fnames (nb : Nat → Nat) (ns : List Nat) : Bool := ns.all fun n => ns.all fun m => (nb n != nb m) || n == m
def fzones (zb : Nat → List Nat) (zs : List Nat) : Bool := zs.all fun y => ((zb y).all fun x => x != 0 || y == 0) && zs.all fun z => y == z || (zb y).all fun x => !((zb z).contains x)
theorem lk_mem : ∀ {L : Row} {k : Key} {v : KV}, lk L k = v → v ≠ dflt k → (k, v) ∈ L
  | [], k, v, h, hn => absurd h.symm hn
  | (k', v') :: L, k, v, h, hn => by
    unfold lk at h
    by_cases e : k' = k
    · rw [if_pos e] at h; subst e; subst h; exact List.mem_cons_self
    · rw [if_neg e] at h; exact List.mem_cons_of_mem _ (lk_mem h hn)
theorem foks_mem {L L' : Row} {nb : Nat → Nat} {zb : Nat → List Nat} : ∀ {R : Row}, foks L L' nb zb R → ∀ k v, (k, v) ∈ R → fok L L' nb zb k v
  | [], _, k, v, h => by simp at h
  | (k', v') :: R, h, k, v, hm => by
    rcases List.mem_cons.1 hm with e | hm
    · cases e; exact h.1
    · exact foks_mem h.2 k v hm
theorem mem_nms : ∀ {L : Row} {n : Nat} {v : KV}, (Key.nm n, v) ∈ L → n ∈ nmsOf L
  | [], n, v, h => by simp at h
  | (k, u) :: L, n, v, h => by
    rcases List.mem_cons.1 h with e | h
    · cases e; simp [nmsOf]
    · have := mem_nms h
      cases k <;> simp [nmsOf, this]
theorem mem_zns : ∀ {L : Row} {n : Nat} {v : KV}, (Key.zn n, v) ∈ L → n ∈ znsOf L
  | [], n, v, h => by simp at h
  | (k, u) :: L, n, v, h => by
    rcases List.mem_cons.1 h with e | h
    · cases e; simp [znsOf]
    · have := mem_zns h
      cases k <;> simp [znsOf, this]
theorem fold_of {L L' : Row} {nb : Nat → Nat} {zb : Nat → List Nat} (hn : fnames nb (nmsOf L') = true) (hz : fzones zb (znsOf L') = true) (h : foks L L' nb zb L') : Fold (lk L) (lk L') nb zb := by
  have nmm : ∀ n, Nm (lk L') n → n ∈ nmsOf L' ∧ Nm (lk L) (nb n) := fun n h' => by
    have hm := lk_mem h' (by simp [dflt])
    exact ⟨mem_nms hm, foks_mem h _ _ hm⟩
  have lvv : ∀ z, Lv (lk L') z → lk L' (.zn z) = .zn .live ∧ z ∈ znsOf L' ∧ ∀ y ∈ zb z, Lv (lk L) y := fun z h' => by
    rcases h' with h' | ⟨E, sz, rows, h'⟩
    · have hm := lk_mem h' (by simp [dflt])
      exact ⟨h', mem_zns hm, fun y hy => .inl (foks_mem h _ _ hm y hy)⟩
    · have hm := lk_mem h' (by simp [dflt])
      exact (foks_mem h _ _ hm : False).elim
  have kv : ∀ {e : KV} {k : AV → Prop}, kvp e k → ∃ x, e = .av x ∧ k x := fun {e k} h' => by
    unfold kvp at h'
    split at h'
    · exact ⟨_, rfl, h'⟩
    · exact h'.elim
  simp only [fnames, List.all_eq_true, Bool.or_eq_true, bne_iff_ne, ne_eq, beq_iff_eq] at hn
  simp only [fzones, List.all_eq_true, Bool.and_eq_true, Bool.or_eq_true, bne_iff_ne, ne_eq, beq_iff_eq, Bool.not_eq_true', List.contains_eq_mem, decide_eq_false_iff_not] at hz
  refine ⟨fun n h' => (nmm n h').2, fun n m h1 h2 e => ?_, fun z h' => ⟨(lvv z h').1, (lvv z h').2.2⟩, fun y z hyz hy hz' x hx => ?_, fun z h0 h' y hy => ?_, fun t x' e => ?_, fun n k x' e => ?_⟩
  · rcases hn n (nmm n h1).1 m (nmm m h2).1 with h' | h'
    · exact absurd e h'
    · exact h'
  · rcases (hz y (lvv y hy).2.1).2 z (lvv z hz').2.1 with h' | h'
    · exact absurd h' hyz
    · exact h' x hx
  · rcases (hz z (lvv z h').2.1).1 y hy with h1 | h1
    · exact h1
    · exact absurd h1 h0
  · exact kv (foks_mem h _ _ (lk_mem e (by simp [dflt])))
  · obtain ⟨h1, h2⟩ := (foks_mem h _ _ (lk_mem e (by simp [dflt])) : _ ∧ _)
    exact ⟨h1, kv h2⟩
end Go.Proofs.Ytlkdkhmdmgchbaa
