/- A logic for one frame: its state as a table, what each operation does to it, and that a region run in any order ends as in text order. -/
import Derived.Test.YtlkdkhmdmgchbaaB0
import Derived.Orders
import Derived.Laws.Slices
import Derived.Laws.Small
import Derived.Laws.Cells
import Derived.Laws.Tables
import Derived.Deep.LoopGhost
namespace Go.Proofs.Ytlkdkhmdmgchbaa
set_option linter.unusedSimpArgs false
set_option linter.unusedVariables false
open Go.RowKit

/-- data: a value as it stands, or a row of rows of cells. -/
inductive D where
  | v (x : Value)
  | s (sz : Nat) (rows : List (List D))
abbrev Zone := Nat → Nat → Prop
def maxI : Nat := 9223372036854775807
/-- a value reads as data, off settled cells. -/
inductive RepD (Z : Zone) (w : World) : Value → D → Prop where
  | v (x : Value) : RepD Z w x (.v x)
  | nil (sz : Nat) : RepD Z w (.slice none 0 0) (.s sz [])
  | emp (a : Addr) (cap sz : Nat) (h : cap ≤ maxI) : RepD Z w (.slice (some a) 0 cap) (.s sz [])
  | row (g o n cap sz : Nat) (rows : List (List D)) (vals : Nat → Nat → Value) (hn : n = rows.length) (h1 : n ≤ cap) (h2 : cap ≤ maxI)
      (hl : ∀ (i : Nat) (r : List D), rows[i]? = some r → r.length = sz)
      (hc : ∀ (i : Nat) (r : List D) (j : Nat) (x : D), rows[i]? = some r → r[j]? = some x → Z g (o + i * sz + j) ∧ w.cell? ⟨g, o + i * sz + j, none⟩ = some (vals i j))
      (hr : ∀ (i : Nat) (r : List D) (j : Nat) (x : D), rows[i]? = some r → r[j]? = some x → RepD Z w (vals i j) x) : RepD Z w (.slice (some ⟨g, o, none⟩) n cap) (.s sz rows)
theorem RepD.evo {Z Z' : Zone} {w w' : World} {v : Value} {x : D} (h : RepD Z w v x) (hz : ∀ g o u, Z g o → w.cell? ⟨g, o, none⟩ = some u → Z' g o ∧ w'.cell? ⟨g, o, none⟩ = some u) : RepD Z' w' v x := by
  induction h with
  | v x => exact .v x
  | nil sz => exact .nil sz
  | emp a cap sz h => exact .emp a cap sz h
  | row g o n cap sz rows vals hn h1 h2 hl hc hr ih =>
    refine .row g o n cap sz rows vals hn h1 h2 hl (fun i r j x hi hj => ?_) (fun i r j x hi hj => ih i r j x hi hj)
    obtain ⟨a, b⟩ := hc i r j x hi hj
    exact hz _ _ _ a b
theorem RepD.form {Z : Zone} {w : World} {v : Value} {sz : Nat} {rows : List (List D)} (h : RepD Z w v (.s sz rows)) : ∃ p cap, v = .slice p rows.length cap ∧ rows.length ≤ cap ∧ cap ≤ maxI ∧ (p = none → cap = 0) := by
  cases h with
  | nil => exact ⟨none, 0, rfl, Nat.le_refl _, by simp [maxI], fun _ => rfl⟩
  | emp a cap sz h => exact ⟨some a, cap, rfl, Nat.zero_le _, h, fun e => by cases e⟩
  | row g o n cap sz rows vals hn h1 h2 hl hc hr => subst hn; exact ⟨_, cap, rfl, h1, h2, fun e => by cases e⟩
theorem RepD.at {Z : Zone} {w : World} {v : Value} {sz : Nat} {rows : List (List D)} (h : RepD Z w v (.s sz rows)) (hr : 0 < rows.length) :
    ∃ g o cap, ∃ vals : Nat → Nat → Value, v = .slice (some ⟨g, o, none⟩) rows.length cap ∧ rows.length ≤ cap ∧ cap ≤ maxI ∧ (∀ (i : Nat) (r : List D), rows[i]? = some r → r.length = sz) ∧
      (∀ (i : Nat) (r : List D) (j : Nat) (x : D), rows[i]? = some r → r[j]? = some x → Z g (o + i * sz + j) ∧ w.cell? ⟨g, o + i * sz + j, none⟩ = some (vals i j) ∧ RepD Z w (vals i j) x) := by
  cases h with
  | nil => simp at hr
  | emp => simp at hr
  | row g o n cap sz rows vals hn h1 h2 hl hc hr =>
    subst hn
    exact ⟨g, o, cap, vals, rfl, h1, h2, hl, fun i r j x hi hj => ⟨(hc i r j x hi hj).1, (hc i r j x hi hj).2, hr i r j x hi hj⟩⟩
theorem RepD.raw {Z : Zone} {w : World} {v x : Value} (h : RepD Z w v (.v x)) : v = x := by cases h; rfl

/-- a datum by value: one cell, or an aggregate of cells. -/
inductive DV where
  | c (x : D)
  | agg (cs : List D)
def RepDV (Z : Zone) (w : World) (v : Value) : DV → Prop
  | .c x => RepD Z w v x
  | .agg cs => ∃ vs : Array Value, v = .agg vs ∧ vs.size = cs.length ∧ ∀ (i : Nat) (x : D), cs[i]? = some x → RepD Z w (vs.getD i undef) x
/-- what a call returns. -/
inductive Res where
  | one (x : DV)
  | tup (l : List DV)
def RepR (Z : Zone) (w : World) (v : Value) : Res → Prop
  | .one x => RepDV Z w v x
  | .tup l => ∃ vs : Array Value, v = .tuple vs ∧ vs.size = l.length ∧ ∀ (i : Nat) (x : DV), l[i]? = some x → RepDV Z w (vs.getD i undef) x
theorem RepDV.evo {Z Z' : Zone} {w w' : World} {v : Value} {x : DV} (h : RepDV Z w v x) (hz : ∀ g o u, Z g o → w.cell? ⟨g, o, none⟩ = some u → Z' g o ∧ w'.cell? ⟨g, o, none⟩ = some u) : RepDV Z' w' v x := by
  cases x with
  | c x => exact RepD.evo h hz
  | agg cs => obtain ⟨vs, e, n, h⟩ := h; exact ⟨vs, e, n, fun i x hx => (h i x hx).evo hz⟩
theorem RepR.evo {Z Z' : Zone} {w w' : World} {v : Value} {x : Res} (h : RepR Z w v x) (hz : ∀ g o u, Z g o → w.cell? ⟨g, o, none⟩ = some u → Z' g o ∧ w'.cell? ⟨g, o, none⟩ = some u) : RepR Z' w' v x := by
  cases x with
  | one x => exact RepDV.evo h hz
  | tup l => obtain ⟨vs, e, n, h⟩ := h; exact ⟨vs, e, n, fun i x hx => (h i x hx).evo hz⟩

/-- a value of a frame: data that lie in zones; an aggregate; a pointer to a variable of the frame's own, to cells that may be read; what a call returned; a slice that may be appended to. -/
inductive AV where
  | c (zs : List Nat) (x : D)
  | agg (cs : List (List Nat × D))
  | ptr (n off : Nat)
  | seg (zs : List Nat) (ds : List D)
  | tup (zs : List Nat) (l : List DV)
  | own (z sz : Nat) (rows : List (List D))
/-- states of a zone. -/
inductive ZS where
  | free
  | dead
  | live
  | app (E sz : Nat) (rows : List (List D))
inductive Key where
  | tmp (t : Nat)
  | cell (n k : Nat)
  | zn (z : Nat)
  | nm (n : Nat)
  deriving DecidableEq
inductive KV where
  | unk
  | av (x : AV)
  | zn (s : ZS)
  | nm (used : Bool)
abbrev St := Key → KV
def Lv (σ : St) (z : Nat) : Prop := σ (.zn z) = .zn .live ∨ ∃ E sz rows, σ (.zn z) = .zn (.app E sz rows)
def Uz (σ : St) (z : Nat) : Prop := σ (.zn z) ≠ .zn .free
def Nm (σ : St) (n : Nat) : Prop := σ (.nm n) = .nm true
theorem Lv.used {σ : St} {z : Nat} (h : Lv σ z) : Uz σ z := by rcases h with h | ⟨E, sz, rows, h⟩ <;> (unfold Uz; rw [h]; simp)
/-- where a frame's variables lie, what its zones are, what its own slices are. -/
structure Gh where
  ρ : Nat → Nat
  ζ : Nat → Zone
  τ : Nat → Value
def Gh.zu (G : Gh) (zs : List Nat) : Zone := fun g o => ∃ z ∈ zs, G.ζ z g o
def AV.ok (σ : St) : AV → Prop
  | .c zs _ => ∀ z ∈ zs, Uz σ z
  | .agg cs => ∀ c ∈ cs, ∀ z ∈ c.1, Uz σ z
  | .ptr n _ => Nm σ n
  | .seg zs _ => ∀ z ∈ zs, Uz σ z
  | .tup zs _ => ∀ z ∈ zs, Uz σ z
  | .own z _ _ => Uz σ z
def AV.rep (G : Gh) (σ : St) (w : World) (v : Value) : AV → Prop
  | .c zs x => (∀ z ∈ zs, Lv σ z) → RepD (G.zu zs) w v x
  | .agg cs => ∃ vs : Array Value, v = .agg vs ∧ vs.size = cs.length ∧ ∀ (i : Nat) (zs : List Nat) (x : D), cs[i]? = some (zs, x) → (∀ z ∈ zs, Lv σ z) → RepD (G.zu zs) w (vs.getD i undef) x
  | .ptr n off => v = .pointer (some ⟨G.ρ n, off, none⟩)
  | .seg zs ds => (∀ z ∈ zs, Lv σ z) → ∃ g o, v = .pointer (some ⟨g, o, none⟩) ∧ ∀ (j : Nat) (x : D), ds[j]? = some x → G.zu zs g (o + j) ∧ ∃ u, w.cell? ⟨g, o + j, none⟩ = some u ∧ RepD (G.zu zs) w u x
  | .tup zs l => (∀ z ∈ zs, Lv σ z) → RepR (G.zu zs) w v (.tup l)
  | .own z sz rows => Lv σ z → v = G.τ z ∧ RepD (G.ζ z) w v (.s sz rows)
structure Rep (G : Gh) (σ : St) (w : World) (v : Value) (x : AV) : Prop where
  ok : x.ok σ
  rep : x.rep G σ w v
/-- what may become of a frame's ghosts, its zones' states and the world. -/
structure Evo (G G' : Gh) (σ σ' : St) (w w' : World) : Prop where
  uz : ∀ z, Uz σ z → Uz σ' z
  nm : ∀ n, Nm σ n → Nm σ' n ∧ G'.ρ n = G.ρ n
  lv : ∀ z, Uz σ z → Lv σ' z → Lv σ z ∧ G'.ζ z = G.ζ z ∧ G'.τ z = G.τ z ∧ ∀ g o u, G.ζ z g o → w.cell? ⟨g, o, none⟩ = some u → w'.cell? ⟨g, o, none⟩ = some u
theorem Evo.zu {G G' : Gh} {σ σ' : St} {w w' : World} (h : Evo G G' σ σ' w w') {zs : List Nat} (hu : ∀ z ∈ zs, Uz σ z) (hl : ∀ z ∈ zs, Lv σ' z) :
    (∀ z ∈ zs, Lv σ z) ∧ ∀ g o u, G.zu zs g o → w.cell? ⟨g, o, none⟩ = some u → G'.zu zs g o ∧ w'.cell? ⟨g, o, none⟩ = some u := by
  refine ⟨fun z hz => (h.lv z (hu z hz) (hl z hz)).1, fun g o u ⟨z, hz, hg⟩ hc => ?_⟩
  obtain ⟨_, e, _, k⟩ := h.lv z (hu z hz) (hl z hz)
  exact ⟨⟨z, hz, by rw [e]; exact hg⟩, k g o u hg hc⟩
theorem Rep.evo {G G' : Gh} {σ σ' : St} {w w' : World} {v : Value} {x : AV} (h : Rep G σ w v x) (e : Evo G G' σ σ' w w') : Rep G' σ' w' v x := by
  obtain ⟨ok, rep⟩ := h
  cases x with
  | c zs x =>
    refine ⟨fun z hz => e.uz z (ok z hz), fun hl => ?_⟩
    obtain ⟨a, b⟩ := e.zu ok hl
    exact (rep a).evo b
  | agg cs =>
    refine ⟨fun c hc z hz => e.uz z (ok c hc z hz), ?_⟩
    obtain ⟨vs, e1, e2, k⟩ := rep
    refine ⟨vs, e1, e2, fun i zs x hi hl => ?_⟩
    obtain ⟨a, b⟩ := e.zu (fun z hz => ok (zs, x) (List.mem_of_getElem? hi) z hz) hl
    exact (k i zs x hi a).evo b
  | ptr n off =>
    obtain ⟨a, b⟩ := e.nm n ok
    exact ⟨a, by show v = _; rw [b]; exact rep⟩
  | seg zs ds =>
    refine ⟨fun z hz => e.uz z (ok z hz), fun hl => ?_⟩
    obtain ⟨a, b⟩ := e.zu ok hl
    obtain ⟨g, o, e1, k⟩ := rep a
    refine ⟨g, o, e1, fun j x hj => ?_⟩
    obtain ⟨k1, u, k2, k3⟩ := k j x hj
    exact ⟨(b _ _ _ k1 k2).1, u, (b _ _ _ k1 k2).2, k3.evo b⟩
  | tup zs l =>
    refine ⟨fun z hz => e.uz z (ok z hz), fun hl => ?_⟩
    obtain ⟨a, b⟩ := e.zu ok hl
    exact (rep a).evo b
  | own z sz rows =>
    refine ⟨e.uz z ok, fun hl => ?_⟩
    obtain ⟨a, b, c, d⟩ := e.lv z ok hl
    obtain ⟨r1, r2⟩ := rep a
    exact ⟨by rw [c]; exact r1, r2.evo fun g o u hg hc => ⟨by rw [b]; exact hg, d g o u hg hc⟩⟩
end Go.Proofs.Ytlkdkhmdmgchbaa
namespace Go.Proofs.Ytlkdkhmdmgchbaa
set_option linter.unusedSimpArgs false
set_option linter.unusedVariables false
open Go.RowKit

/-- what a state says of a token. -/
structure AppOk (W0 : World) (G : Gh) (σ : St) (w : World) (z E sz : Nat) (rows : List (List D)) : Prop where
  own : ∃ vals, w.ownsRow W0.heap.size E sz (G.τ z) rows.length vals
  rep : RepD (G.ζ z) w (G.τ z) (.s sz rows)
  nn : ∀ k, (G.τ z).ownBlock = some k → ∀ n, Nm σ n → G.ρ n ≠ k
  zz : ∀ k, (G.τ z).ownBlock = some k → ∀ y o, Lv σ y → G.ζ y k o → y = z ∧ o < rows.length * sz
  tt : ∀ k, (G.τ z).ownBlock = some k → ∀ y E' sz' rows', σ (.zn y) = .zn (.app E' sz' rows') → y ≠ z → (G.τ y).ownBlock ≠ some k
/-- a block of cells that may be written. -/
def Soft (w : World) (g : Nat) : Prop := ∃ cur t, w.heap[g]? = some (.cells cur t (0, 0))
theorem Soft.below {w w' : World} {g : Nat} (h : Soft w g) (B : Below w.heap.size w w') : Soft w' g := by
  obtain ⟨cur, t, h⟩ := h
  exact ⟨cur, t, (B.block g (Array.getElem?_eq_some_iff.1 h).1).trans h⟩
theorem Soft.lt {w : World} {g : Nat} (h : Soft w g) : g < w.heap.size := by
  obtain ⟨cur, t, h⟩ := h
  exact (Array.getElem?_eq_some_iff.1 h).1
structure ASG (W0 : World) (N : Nat) (G : Gh) (σ : St) (a : Act) (w : World) : Prop where
  fr : Below W0.heap.size W0 w
  df : a.defers = []
  sz : a.tmps.size = N
  tmp : ∀ t x, σ (.tmp t) = .av x → ∃ v, a.tmps[t]? = some v ∧ Rep G σ w v x
  cell : ∀ n k x, σ (.cell n k) = .av x → Nm σ n ∧ ∃ v, w.cell? ⟨G.ρ n, k, none⟩ = some v ∧ w.frozen? ⟨G.ρ n, k, none⟩ = false ∧ Rep G σ w v x
  nm : ∀ n, Nm σ n → W0.heap.size ≤ G.ρ n ∧ G.ρ n < w.heap.size
  inj : ∀ n m, Nm σ n → Nm σ m → G.ρ n = G.ρ m → n = m
  sep : ∀ z g o, Lv σ z → G.ζ z g o → g < w.heap.size ∧ ∀ n, Nm σ n → G.ρ n ≠ g
  app : ∀ z E sz rows, σ (.zn z) = .zn (.app E sz rows) → AppOk W0 G σ w z E sz rows
  new : ∀ z g o, z ≠ 0 → Lv σ z → G.ζ z g o → W0.heap.size ≤ g ∧ Soft w g
  disj : ∀ y z g o o', y ≠ z → Lv σ y → Lv σ z → G.ζ y g o → ¬ G.ζ z g o'
/-- the act and the world are as the state says. -/
def AS (W0 : World) (N : Nat) (σ : St) (a : Act) (w : World) : Prop := ∃ G, ASG W0 N G σ a w
theorem AppOk.drew {W0 : World} {G : Gh} {σ : St} {w : World} {z E sz : Nat} {rows : List (List D)} (h : AppOk W0 G σ w z E sz rows) (k : Nat) : AppOk W0 G σ { w with drawn := k } z E sz rows :=
  ⟨h.own, h.rep.evo fun _ _ _ a b => ⟨a, b⟩, h.nn, h.zz, h.tt⟩
theorem Evo.drew (G : Gh) (σ : St) (w : World) (k : Nat) : Evo G G σ σ w { w with drawn := k } := ⟨fun _ h => h, fun _ h => ⟨h, rfl⟩, fun _ _ h => ⟨h, rfl, rfl, fun _ _ _ _ h => h⟩⟩
theorem AS.drew {W0 : World} {N : Nat} {σ : St} {a : Act} {w : World} (h : AS W0 N σ a w) (k : Nat) : AS W0 N σ a { w with drawn := k } := by
  obtain ⟨G, h⟩ := h
  refine ⟨G, ⟨h.fr.os, h.fr.tape, h.fr.output, h.fr.size, h.fr.block⟩, h.df, h.sz, fun t x e => ?_, fun n j x e => ?_, h.nm, h.inj, h.sep, fun z E sz rows e => (h.app z E sz rows e).drew k, h.new, h.disj⟩
  · obtain ⟨v, a, b⟩ := h.tmp t x e; exact ⟨v, a, b.evo (Evo.drew G σ w k)⟩
  · obtain ⟨a, v, b, c, d⟩ := h.cell n j x e; exact ⟨a, v, b, c, d.evo (Evo.drew G σ w k)⟩

abbrev Row := List (Key × KV)
def fnd : Row → Key → Option KV
  | [], _ => none
  | (k', v) :: r, k => if k' = k then some v else fnd r k
def ovr (σ : St) (ws : Row) : St := fun k => (fnd ws k).getD (σ k)
structure Trc where
  reads : Row
  writes : Row
def Valid (P : Program) (W0 : World) (N : Nat) (ops : Array Oper) (Q : Exit → Act → World → Prop) (i : Nat) (tr : Trc) : Prop :=
  ∀ σ a w K, AS W0 N σ a w → (∀ kv ∈ tr.reads, σ kv.1 = kv.2) → (∀ a' w', AS W0 N (ovr σ tr.writes) a' w' → K a' w') → wpOp P ops Q i K a w

/-- the state behind those of the first n operations that S names. -/
def stf (σ : St) (ws : Nat → Row) (S : Nat → Bool) : Nat → St
  | 0 => σ
  | n + 1 => if S n then ovr (stf σ ws S n) (ws n) else stf σ ws S n
theorem stf_congr {σ : St} {ws : Nat → Row} {S S' : Nat → Bool} {k : Key} : ∀ n, (∀ j, j < n → fnd (ws j) k ≠ none → S j = S' j) → stf σ ws S n k = stf σ ws S' n k
  | 0, _ => rfl
  | n + 1, h => by
    have ih := stf_congr (σ := σ) n (fun j hj hk => h j (by omega) hk)
    unfold stf
    cases hf : fnd (ws n) k with
    | some v =>
      have e := h n (by omega) (by rw [hf]; simp)
      rw [e]
      split
      · simp [ovr, hf]
      · exact ih
    | none =>
      have e1 : ∀ T : St, ovr T (ws n) k = T k := fun T => by simp [ovr, hf]
      split <;> split <;> simp only [e1, ih]
theorem stf_lt {σ : St} {ws : Nat → Row} (i : Nat) : ∀ n, i ≤ n → stf σ ws (fun j => decide (j < i)) n = stf σ ws (fun _ => true) i
  | 0, h => by
    obtain rfl : i = 0 := (by omega)
    rfl
  | n + 1, h => by
    by_cases e : i = n + 1
    · subst e
      exact funext fun k => stf_congr _ fun j hj _ => by simp [hj]
    · have ih := stf_lt (σ := σ) (ws := ws) i n (by omega)
      rw [← ih]
      show (if decide (n < i) = true then _ else _) = _
      rw [if_neg (by simp; omega)]
theorem stf_last {σ : St} {ws : Nat → Row} {S : Nat → Bool} {i : Nat} {k : Key} {v : KV} (hS : S i = true) (hf : fnd (ws i) k = some v) : ∀ n, i < n → (∀ j, i < j → j < n → fnd (ws j) k ≠ none → S j = false) → stf σ ws S n k = v
  | 0, h, _ => by omega
  | n + 1, h, hl => by
    unfold stf
    by_cases e : i = n
    · subst e
      rw [if_pos hS]
      simp [ovr, hf]
    · have ih := stf_last (σ := σ) hS hf n (by omega) (fun j a b c => hl j a (by omega) c)
      cases hfn : fnd (ws n) k with
      | none =>
        split
        · simp [ovr, hfn, ih]
        · exact ih
      | some u =>
        rw [if_neg (by rw [hl n (by omega) (by omega) (by rw [hfn]; simp)]; simp)]
        exact ih

theorem after_bits (acc : Array Nat) (i : Nat) : ∀ (l : List Edge) (s : Nat), (l.foldl (fun s e => if Region.binds .any e then s ||| 2 ^ e.on ||| acc.getD e.on 0 else s) s).testBit i = true →
    s.testBit i = true ∨ ∃ e ∈ l, Region.binds .any e = true ∧ (i = e.on ∨ (acc.getD e.on 0).testBit i = true)
  | [], s, h => .inl h
  | e :: l, s, h => by
    rw [List.foldl_cons] at h
    rcases after_bits acc i l _ h with h | ⟨e', h1, h2⟩
    · split at h
      · rename_i hb
        rw [Nat.testBit_or, Nat.testBit_or, Bool.or_eq_true, Bool.or_eq_true, Nat.testBit_two_pow] at h
        rcases h with (h | h) | h
        · exact .inl h
        · exact .inr ⟨e, List.mem_cons_self, hb, .inl (by simp at h; exact h.symm)⟩
        · exact .inr ⟨e, List.mem_cons_self, hb, .inr h⟩
      · exact .inl h
    · exact .inr ⟨e', List.mem_cons_of_mem _ h1, h2⟩
def Down (ops : Array Oper) (L : Nat → Prop) : Prop := ∀ j o, L j → ops[j]? = some o → ∀ e ∈ o.after, Region.binds .any e = true → L e.on
theorem before_go (ops : Array Oper) (L : Nat → Prop) (hL : Down ops L) : ∀ (l : List Oper) (acc : Array Nat), (∀ j o, l[j]? = some o → ops[acc.size + j]? = some o) →
    (∀ j i, (acc.getD j 0).testBit i = true → L j → L i) →
    ∀ j i, ((l.foldl (fun acc o => acc.push (o.after.foldl (fun s e => if Region.binds .any e then s ||| 2 ^ e.on ||| acc.getD e.on 0 else s) 0)) acc).getD j 0).testBit i = true → L j → L i
  | [], acc, _, h2 => h2
  | o :: l, acc, h1, h2 => by
    rw [List.foldl_cons]
    refine before_go ops L hL l _ (fun j o' hj => ?_) ?_
    · rw [Array.size_push]
      have := h1 (j + 1) o' (by simpa using hj)
      rwa [show acc.size + 1 + j = acc.size + (j + 1) by omega]
    · intro j i hb hj
      by_cases e : j = acc.size
      · subst e
        rw [Array.getD_eq_getD_getElem?, Array.getElem?_push_size, Option.getD_some, ← Array.foldl_toList] at hb
        rcases after_bits acc i _ _ hb with h | ⟨e, k1, k2, k3⟩
        · simp at h
        · have hon : L e.on := hL _ o hj (by simpa using h1 0 o rfl) e (by simpa using k1) k2
          rcases k3 with rfl | k3
          · exact hon
          · exact h2 _ _ k3 hon
      · refine h2 j i ?_ hj
        rw [Array.getD_eq_getD_getElem?] at hb ⊢
        rwa [Array.getElem?_push, if_neg e] at hb
theorem before_spec {ops : Array Oper} {L : Nat → Prop} (hL : Down ops L) {j i : Nat} (h : ((Region.before ops).getD j 0).testBit i = true) (hj : L j) : L i := by
  unfold Region.before at h
  rw [← Array.foldl_toList] at h
  exact before_go ops L hL ops.toList #[] (fun j o hj => by simpa using hj) (fun j i hb _ => by simp at hb) j i h hj

def apart (a b : List Key) : Bool := a.all fun k => !b.contains k
theorem apart_spec {a b : List Key} (h : apart a b = true) {k : Key} (ha : k ∈ a) (hb : k ∈ b) : False := by
  unfold apart at h
  rw [List.all_eq_true] at h
  have := h k ha
  simp [hb] at this
/-- no two that are not ordered meet. -/
def ordOk (ops : Array Oper) (ks : List (List Key × List Key)) : Bool :=
  let b := Region.before ops
  ks.zipIdx.all fun (x, j) => ks.zipIdx.all fun (y, i) => j ≤ i || (b.getD j 0).testBit i || (apart y.2 x.1 && apart y.2 x.2 && apart x.2 y.1)
def edgesOk (ops : Array Oper) : Bool := ops.toList.zipIdx.all fun (o, i) => o.after.toList.all fun e => !Region.binds .any e || decide (e.on < i)
theorem fnd_keys : ∀ {r : Row} {k : Key}, fnd r k ≠ none → k ∈ r.map (·.1)
  | [], k, h => absurd rfl h
  | (k', v) :: r, k, h => by
    unfold fnd at h
    split at h
    · rename_i e; subst e; simp
    · exact List.mem_cons_of_mem _ (fnd_keys h)
theorem edges_spec {ops : Array Oper} (h : edgesOk ops = true) {i : Nat} {o : Oper} (ho : ops[i]? = some o) {e : Edge} (he : e ∈ o.after) (hb : Region.binds .any e = true) : e.on < i := by
  unfold edgesOk at h
  rw [List.all_eq_true] at h
  have h1 := h (o, i) (by rw [List.mem_zipIdx_iff_getElem?]; simpa using ho)
  simp only [List.all_eq_true] at h1
  have h2 := h1 e (by simpa using he)
  rw [hb] at h2
  simpa using h2
theorem ord_spec {ops : Array Oper} {ks : List (List Key × List Key)} (h : ordOk ops ks = true) {i j : Nat} (hij : i < j) {x y : List Key × List Key} (hj : ks[j]? = some x) (hi : ks[i]? = some y) :
    ((Region.before ops).getD j 0).testBit i = true ∨ ∀ k, (k ∈ y.2 → k ∉ x.1 ∧ k ∉ x.2) ∧ (k ∈ x.2 → k ∉ y.1) := by
  unfold ordOk at h
  rw [List.all_eq_true] at h
  have h1 := h (x, j) (by rw [List.mem_zipIdx_iff_getElem?]; exact hj)
  rw [List.all_eq_true] at h1
  have h2 := h1 (y, i) (by rw [List.mem_zipIdx_iff_getElem?]; exact hi)
  simp only [Bool.or_eq_true, decide_eq_true_eq, Bool.and_eq_true] at h2
  rcases h2 with (h2 | h2) | ⟨⟨h2, h3⟩, h4⟩
  · omega
  · exact .inl h2
  · exact .inr fun k => ⟨fun hk => ⟨fun hx => apart_spec h2 hk hx, fun hx => apart_spec h3 hk hx⟩, fun hx hy => apart_spec h4 hx hy⟩

section
variable {P : Program} {W0 : World} {N : Nat} {ops : Array Oper} {Q : Exit → Act → World → Prop} {σ : St} {tr : Nat → Trc}
theorem region_text {id : Nat} {a : Act} {w : World} (hv : ∀ i, i < ops.size → Valid P W0 N ops Q i (tr i))
    (hr : ∀ i, i < ops.size → ∀ kv ∈ (tr i).reads, stf σ (fun j => (tr j).writes) (fun _ => true) i kv.1 = kv.2)
    (h : AS W0 N σ a w) (hk : ∀ a' w', AS W0 N (stf σ (fun j => (tr j).writes) (fun _ => true) ops.size) a' w' → Q .normal a' w') : (Code.region id ops false).wp P Q a w := by
  refine wp_region ?_
  suffices H : ∀ m i a w, i + m = ops.size → AS W0 N (stf σ (fun j => (tr j).writes) (fun _ => true) i) a w → wpOps P ops Q (List.range' i m) a w by
    have := H ops.size 0 a w (by omega) h
    rwa [List.range_eq_range']
  intro m
  induction m with
  | zero =>
    intro i a w hi h
    obtain rfl : i = ops.size := (by omega)
    exact hk a w h
  | succ m ih =>
    intro i a w hi h
    rw [List.range'_succ, wpOps_cons]
    refine hv i (by omega) _ a w _ h (hr i (by omega)) fun a' w' h' => ih (i + 1) a' w' (by omega) ?_
    unfold stf
    rw [if_pos rfl]
    exact h'
theorem region_drawn {id : Nat} {a : Act} {w : World} (hm : P.follows .mixedOrders = true) (he : edgesOk ops = true)
    (ks : List (List Key × List Key)) (hks : ks = (List.range ops.size).map fun i => ((tr i).reads.map (·.1), (tr i).writes.map (·.1))) (ho : ordOk ops ks = true)
    (hv : ∀ i, i < ops.size → Valid P W0 N ops Q i (tr i))
    (hr : ∀ i, i < ops.size → ∀ kv ∈ (tr i).reads, stf σ (fun j => (tr j).writes) (fun _ => true) i kv.1 = kv.2)
    (h : AS W0 N σ a w) (hk : ∀ a' w', AS W0 N (stf σ (fun j => (tr j).writes) (fun _ => true) ops.size) a' w' → Q .normal a' w') : (Code.region id ops true).wp P Q a w := by
  have hget : ∀ i, i < ops.size → ks[i]? = some ((tr i).reads.map (·.1), (tr i).writes.map (·.1)) := fun i hi => by rw [hks]; simp [hi]
  refine wp_region_any hm ?_
  suffices H : ∀ fuel (listed : Array Bool) a w, listed.size = ops.size → ((List.range ops.size).filter fun i => !listed.getD i true).length ≤ fuel →
      Down ops (fun i => listed.getD i false = true) → AS W0 N (stf σ (fun j => (tr j).writes) (fun i => listed.getD i false) ops.size) a w → wpAny P .any ops Q fuel listed a w by
    refine H _ _ a _ (by simp) (by refine Nat.le_trans (List.length_filter_le _ _) (by simp)) (fun j o hj => ?_) ?_
    · simp only [Array.getD_eq_getD_getElem?, Array.getElem?_replicate] at hj
      split at hj <;> simp at hj
    · have e : stf σ (fun j => (tr j).writes) (fun i => (Array.replicate ops.size false).getD i false) ops.size = σ := by
        have : (fun i => (Array.replicate ops.size false).getD i false) = fun j => decide (j < 0) := funext fun i => by
          simp only [Array.getD_eq_getD_getElem?, Array.getElem?_replicate]
          split <;> simp
        rw [this, stf_lt 0 _ (by omega)]
        rfl
      rw [e]
      exact h.drew _
  intro fuel
  have last : ∀ (listed : Array Bool) a w, listed.size = ops.size → Region.ready .any ops listed = [] → AS W0 N (stf σ (fun j => (tr j).writes) (fun i => listed.getD i false) ops.size) a w → Q .normal a w := by
    intro listed a w hs hn h
    have all : ∀ i, i < ops.size → listed.getD i false = true := by
      intro i
      induction i using Nat.strongRecOn with
      | _ i ih =>
        intro hi
        cases hl : listed.getD i false with
        | true => rfl
        | false =>
          exfalso
          have hmem : i ∈ Region.ready .any ops listed := by
            rw [mem_ready]
            refine ⟨?_, ops[i], Array.getElem?_eq_getElem hi, fun e he' hb => ?_⟩
            · have : i < listed.size := by omega
              simp only [Array.getD_eq_getD_getElem?, Array.getElem?_eq_getElem this, Option.getD_some] at hl ⊢
              exact hl
            · have := edges_spec he (Array.getElem?_eq_getElem hi) he' hb
              exact ih _ this (by omega)
          rw [hn] at hmem
          cases hmem
    refine hk a w ?_
    have e : stf σ (fun j => (tr j).writes) (fun i => listed.getD i false) ops.size = stf σ (fun j => (tr j).writes) (fun _ => true) ops.size := funext fun k => stf_congr _ fun j hj _ => all j hj
    rwa [e] at h
  have len0 : ∀ (listed : Array Bool), listed.size = ops.size → ((List.range ops.size).filter fun i => !listed.getD i true).length = 0 → Region.ready .any ops listed = [] := by
    intro listed hs hl
    have hl' := List.eq_nil_of_length_eq_zero hl
    cases hr : Region.ready .any ops listed with
    | nil => rfl
    | cons i t =>
      have hmem : i ∈ Region.ready .any ops listed := by rw [hr]; simp
      obtain ⟨h0, o, ho', _⟩ := mem_ready.1 hmem
      have hi : i < ops.size := (Array.getElem?_eq_some_iff.1 ho').1
      have : i ∈ (List.range ops.size).filter fun i => !listed.getD i true := by
        rw [List.mem_filter]
        exact ⟨by simpa using hi, by rw [h0]; rfl⟩
      rw [hl'] at this
      cases this
  induction fuel with
  | zero =>
    intro listed a w hs hl hd h
    have hn := len0 listed hs (by omega)
    exact ⟨hn, last listed a w hs hn h⟩
  | succ fuel ih =>
    intro listed a w hs hl hd h
    refine ⟨fun hn => last listed a w hs hn h, fun i hmem => ?_⟩
    obtain ⟨h0, o, ho', hedge⟩ := mem_ready.1 hmem
    have hi : i < ops.size := (Array.getElem?_eq_some_iff.1 ho').1
    have hil : i < listed.size := by omega
    have h0' : listed.getD i false = false := by
      simp only [Array.getD_eq_getD_getElem?, Array.getElem?_eq_getElem hil, Option.getD_some] at h0 ⊢
      exact h0
    have hLi : Down ops (fun j => listed.getD j false = true ∨ j = i) := by
      intro j o'' hj hoj e he' hb
      rcases hj with hj | rfl
      · exact .inl (hd j o'' hj hoj e he' hb)
      · rw [ho'] at hoj
        cases hoj
        exact .inl (hedge e he' hb)
    -- what stands ahead of it by the text, and meets it, is done; what stands behind and meets it, is not
    have pre : ∀ j, j < i → ((Region.before ops).getD i 0).testBit j = true → listed.getD j false = true := by
      intro j hj hb
      rcases before_spec hLi hb (.inr rfl) with h | h
      · exact h
      · omega
    have post : ∀ j, i < j → ((Region.before ops).getD j 0).testBit i = true → listed.getD j false = false := by
      intro j hj hb
      cases hl : listed.getD j false with
      | false => rfl
      | true => have := before_spec hd hb hl; rw [h0'] at this; cases this
    have readsOk : ∀ kv ∈ (tr i).reads, stf σ (fun j => (tr j).writes) (fun i => listed.getD i false) ops.size kv.1 = kv.2 := by
      intro kv hkv
      rw [← hr i hi kv hkv, ← stf_lt i ops.size (by omega)]
      refine stf_congr _ fun j hj hw => ?_
      have hwk := fnd_keys hw
      have hrk : kv.1 ∈ (tr i).reads.map (·.1) := List.mem_map_of_mem hkv
      by_cases hji : j < i
      · rcases ord_spec ho hji (hget i hi) (hget j hj) with hb | hc
        · rw [pre j hji hb]; simp [hji]
        · exact absurd hrk (((hc kv.1).1 hwk).1)
      · by_cases hij : i < j
        · rcases ord_spec ho hij (hget j hj) (hget i hi) with hb | hc
          · rw [post j hij hb]; simp [hji]
          · exact absurd hrk ((hc kv.1).2 hwk)
        · obtain rfl : j = i := by omega
          rw [h0']; simp
    refine hv i hi _ a w _ h readsOk fun a' w' h' => ih _ a' w' (by simpa using hs) ?_ ?_ ?_
    · have e : (List.range ops.size).filter (fun j => !(listed.setIfInBounds i true).getD j true) = ((List.range ops.size).filter fun j => !listed.getD j true).filter (fun j => decide (j ≠ i)) := by
        rw [List.filter_filter]
        refine List.filter_congr fun j hj => ?_
        by_cases e : j = i
        · subst e; simp [hil]
        · rw [getD_set_ne true (fun h => e h.symm)]; simp [e]
      rw [e]
      have : (((List.range ops.size).filter fun j => !listed.getD j true).filter (fun j => decide (j ≠ i))).length < ((List.range ops.size).filter fun j => !listed.getD j true).length := by
        refine List.length_filter_lt_length_iff_exists.2 ⟨i, ?_, by simp⟩
        rw [List.mem_filter]
        exact ⟨by simpa using hi, by rw [h0]; rfl⟩
      omega
    · intro j o'' hj hoj e he' hb
      by_cases e1 : e.on = i
      · rw [e1]; simp [hil]
      · rw [getD_set_ne false (fun h => e1 h.symm)]
        by_cases e2 : j = i
        · subst e2
          rw [ho'] at hoj
          cases hoj
          exact hedge e he' hb
        · rw [getD_set_ne false (fun h => e2 h.symm)] at hj
          exact hd j o'' hj hoj e he' hb
    · have e : stf σ (fun j => (tr j).writes) (fun j => (listed.setIfInBounds i true).getD j false) ops.size = ovr (stf σ (fun j => (tr j).writes) (fun j => listed.getD j false) ops.size) (tr i).writes := by
        funext k
        have hset : ∀ j, j ≠ i → (listed.setIfInBounds i true).getD j false = listed.getD j false := fun j hj => getD_set_ne false (fun h => hj h.symm)
        have hsi : (listed.setIfInBounds i true).getD i false = true := by simp [hil]
        cases hf : fnd (tr i).writes k with
        | none =>
          rw [show ovr (stf σ (fun j => (tr j).writes) (fun j => listed.getD j false) ops.size) (tr i).writes k = stf σ (fun j => (tr j).writes) (fun j => listed.getD j false) ops.size k by simp [ovr, hf]]
          exact stf_congr _ fun j hj hw => hset j (fun e => by subst e; exact hw hf)
        | some v =>
          rw [show ovr (stf σ (fun j => (tr j).writes) (fun j => listed.getD j false) ops.size) (tr i).writes k = v by simp [ovr, hf]]
          refine stf_last hsi hf _ hi fun j hij hj hw => ?_
          rw [hset j (by omega)]
          rcases ord_spec ho hij (hget j hj) (hget i hi) with hb | hc
          · exact post j hij hb
          · exact absurd (fnd_keys hw) (((hc k).1 (fnd_keys (by rw [hf]; simp))).2)
      rw [e]
      exact h'
end
end Go.Proofs.Ytlkdkhmdmgchbaa
namespace Go.Proofs.Ytlkdkhmdmgchbaa
set_option linter.unusedSimpArgs false
set_option linter.unusedVariables false
open Go.RowKit

/-- the shape of a type. -/
inductive Sh where
  | word
  | int (k : IntKind)
  | str
  | bool
  | struct (fs : List (Nat × TypeId))
  | slice (e : TypeId)
  | arr (n : Nat) (e : TypeId)
  deriving DecidableEq
def shp : TypeDesc → Sh
  | .struct fs => .struct (fs.toList.map fun f => (f.offset, f.type))
  | .slice e => .slice e
  | .array n e => .arr n e
  | .int k => .int k
  | .string => .str
  | .bool => .bool
  | _ => .word
structure TI where
  size : Nat
  zero : Value
  bytes : Nat
  sh : Sh
  hint : List (Option Nat)
/-- a zero value read as data: a nil slice is an empty row. -/
def dz : Option Nat → Value → D
  | some sz, .slice none 0 0 => .s sz []
  | _, v => .v v
def zds : List Value → List (Option Nat) → List D
  | [], _ => []
  | v :: vs, [] => .v v :: zds vs []
  | v :: vs, h :: hs => dz h v :: zds vs hs
theorem dz_rep (h : Option Nat) (v : Value) (Z : Zone) (w : World) : RepD Z w v (dz h v) := by
  unfold dz
  split
  · exact .nil _
  · exact .v v
theorem zds_len : ∀ (vs : List Value) (hs : List (Option Nat)), (zds vs hs).length = vs.length
  | [], _ => rfl
  | v :: vs, [] => by simp [zds, zds_len vs]
  | v :: vs, h :: hs => by simp [zds, zds_len vs]
theorem zds_get : ∀ (vs : List Value) (hs : List (Option Nat)) (i : Nat) (d : D), (zds vs hs)[i]? = some d → ∃ v, vs[i]? = some v ∧ ∀ Z w, RepD Z w v d
  | [], _, i, d, h => by simp [zds] at h
  | v :: vs, [], i, d, h => by
    cases i with
    | zero => simp [zds] at h; subst h; exact ⟨v, rfl, fun _ _ => .v v⟩
    | succ i => exact zds_get vs [] i d (by simpa [zds] using h)
  | v :: vs, h0 :: hs, i, d, h => by
    cases i with
    | zero => simp [zds] at h; subst h; exact ⟨v, rfl, fun Z w => dz_rep h0 v Z w⟩
    | succ i => exact zds_get vs hs i d (by simpa [zds] using h)
def Sh.agg : Sh → Bool
  | .struct _ | .arr .. => true
  | _ => false
structure TOk (P : Program) (t : TypeId) (i : TI) : Prop where
  info : (P.info? t).map (fun x => (x.zero, x.size, x.bytes)) = some (some i.zero, i.size, i.bytes)
  sh : (P.underlying t).map shp = some i.sh
/-- the types that a proof meets. -/
structure Tab (P : Program) where
  f : TypeId → Option TI
  ok : ∀ t i, f t = some i → TOk P t i
section
variable {P : Program} {t : TypeId} {i : TI}
theorem TOk.get (h : TOk P t i) : ∃ x, P.info? t = some x ∧ x.zero = some i.zero ∧ x.size = i.size ∧ x.bytes = i.bytes := by
  have := h.info
  cases hx : P.info? t with
  | none => rw [hx] at this; cases this
  | some x => rw [hx] at this; simp at this; exact ⟨x, rfl, this⟩
theorem TOk.und (h : TOk P t i) : ∃ d, P.underlying t = some d ∧ shp d = i.sh := by
  have := h.sh
  cases hx : P.underlying t with
  | none => rw [hx] at this; cases this
  | some x => rw [hx] at this; simp at this; exact ⟨x, rfl, this⟩
theorem TOk.slice (h : TOk P t i) {e : TypeId} (hs : i.sh = .slice e) : P.underlying t = some (.slice e) := by
  obtain ⟨d, h1, h2⟩ := h.und
  rw [h1, hs] at *
  cases d <;> simp [shp] at h2
  subst h2; rfl
theorem TOk.struct (h : TOk P t i) {fs : List (Nat × TypeId)} (hs : i.sh = .struct fs) : ∃ a : Array Field, P.underlying t = some (.struct a) ∧ a.toList.map (fun f => (f.offset, f.type)) = fs := by
  obtain ⟨d, h1, h2⟩ := h.und
  rw [h1, hs] at *
  cases d <;> simp [shp] at h2
  exact ⟨_, rfl, by simpa using h2⟩
theorem TOk.run_size (h : TOk P t i) (w : World) : (sizeOf t).run P w = .ok i.size w := by
  obtain ⟨x, h1, h2, h3, h4⟩ := h.get
  simp [sizeOf, typeInfo, h1, h3]
theorem TOk.run_zero (h : TOk P t i) (w : World) : (zeroValue t).run P w = .ok i.zero w := by
  obtain ⟨x, h1, h2, h3, h4⟩ := h.get
  simp [zeroValue, typeInfo, h1, h2]
theorem TOk.run_agg (h : TOk P t i) (w : World) : (isAgg t).run P w = .ok i.sh.agg w := by
  obtain ⟨d, h1, h2⟩ := h.und
  simp only [isAgg, Sem.run_bind, run_underlying h1, Result.andThen_ok]
  rw [← h2]
  cases d <;> simp [shp, Sh.agg]
end

section
variable {P : Program} {W0 : World} {N : Nat} {G : Gh} {σ : St} {a : Act} {w : World}
def wr (dst : Option Tmp) (x : AV) : Row := match dst with | some d => [(.tmp d, .av x)] | none => []
theorem ovr_wr_ne (dst : Option Tmp) (x : AV) {k : Key} (h : ∀ t, k ≠ .tmp t) : ovr σ (wr dst x) k = σ k := by
  cases dst with
  | none => rfl
  | some d => simp only [ovr, wr, fnd]; rw [if_neg (fun e => h d e.symm)]; rfl
theorem lv_wr (dst : Option Tmp) (x : AV) (z : Nat) : Lv (ovr σ (wr dst x)) z ↔ Lv σ z := by unfold Lv; rw [ovr_wr_ne dst x (fun t e => by cases e)]
theorem uz_wr (dst : Option Tmp) (x : AV) (z : Nat) : Uz (ovr σ (wr dst x)) z ↔ Uz σ z := by unfold Uz; rw [ovr_wr_ne dst x (fun t e => by cases e)]
theorem nm_wr (dst : Option Tmp) (x : AV) (n : Nat) : Nm (ovr σ (wr dst x)) n ↔ Nm σ n := by unfold Nm; rw [ovr_wr_ne dst x (fun t e => by cases e)]
theorem Evo.wr (dst : Option Tmp) (x : AV) : Evo G G σ (ovr σ (wr dst x)) w w :=
  ⟨fun z h => (uz_wr dst x z).2 h, fun n h => ⟨(nm_wr dst x n).2 h, rfl⟩, fun z _ h => ⟨(lv_wr dst x z).1 h, rfl, rfl, fun _ _ _ _ h => h⟩⟩
theorem Act.put_get (a : Act) (d t : Nat) (v : Value) : (a.put (some d) v).tmps[t]? = if t = d then (if d < a.tmps.size then some v else none) else a.tmps[t]? := by
  simp only [Act.put, Array.getElem?_setIfInBounds]
  split <;> rename_i h
  · subst h; simp
  · rw [if_neg (fun e => h e.symm)]
/-- a result is put into its slot. -/
theorem ASG.put (h : ASG W0 N G σ a w) {dst : Option Tmp} {v : Value} {x : AV} (hd : ∀ d, dst = some d → d < N) (hr : Rep G σ w v x) : ASG W0 N G (ovr σ (wr dst x)) (a.put dst v) w := by
  have E : Evo G G σ (ovr σ (Proofs.Ytlkdkhmdmgchbaa.wr dst x)) w w := Evo.wr dst x
  refine ⟨h.fr, ?_, ?_, fun t y e => ?_, fun n k y e => ?_, fun n hn => h.nm n ((nm_wr dst x n).1 hn), fun n m hn hm => h.inj n m ((nm_wr dst x n).1 hn) ((nm_wr dst x m).1 hm), fun z g o hl hz => ?_, fun z EE sz rows e => ?_, fun z g o h0 hl hz => h.new z g o h0 ((lv_wr dst x z).1 hl) hz, fun y z g o o' hne hy hz => h.disj y z g o o' hne ((lv_wr dst x y).1 hy) ((lv_wr dst x z).1 hz)⟩
  · cases dst <;> exact h.df
  · cases dst with
    | none => exact h.sz
    | some d => simp [Act.put, h.sz]
  · cases dst with
    | none =>
      obtain ⟨u, h1, h2⟩ := h.tmp t y e
      exact ⟨u, h1, h2.evo E⟩
    | some d =>
      by_cases ht : t = d
      · subst ht
        simp only [ovr, Proofs.Ytlkdkhmdmgchbaa.wr, fnd, if_pos, Option.getD_some, KV.av.injEq] at e
        subst e
        exact ⟨v, by rw [Act.put_get, if_pos rfl, if_pos (by rw [h.sz]; exact hd t rfl)], hr.evo E⟩
      · simp only [ovr, Proofs.Ytlkdkhmdmgchbaa.wr, fnd] at e
        rw [if_neg (fun e => ht (by cases e; rfl))] at e
        obtain ⟨u, h1, h2⟩ := h.tmp t y e
        exact ⟨u, by rw [Act.put_get, if_neg ht]; exact h1, h2.evo E⟩
  · rw [ovr_wr_ne dst x (fun t e => by cases e)] at e
    obtain ⟨h1, u, h2, h3, h4⟩ := h.cell n k y e
    exact ⟨(nm_wr dst x n).2 h1, u, h2, h3, h4.evo E⟩
  · obtain ⟨h1, h2⟩ := h.sep z g o ((lv_wr dst x z).1 hl) hz
    exact ⟨h1, fun n hn => h2 n ((nm_wr dst x n).1 hn)⟩
  · rw [ovr_wr_ne dst x (fun t e => by cases e)] at e
    obtain ⟨h1, h2, h3, h4, h5⟩ := h.app z EE sz rows e
    exact ⟨h1, h2, fun k hk n hn => h3 k hk n ((nm_wr dst x n).1 hn), fun k hk y o hl => h4 k hk y o ((lv_wr dst x y).1 hl), fun k hk y E' sz' rows' e' => by
      rw [ovr_wr_ne dst x (fun t e => by cases e)] at e'
      exact h5 k hk y E' sz' rows' e'⟩

def OpOk (P : Program) (W0 : World) (N : Nat) (Q : Exit → Act → World → Prop) (o : Oper) (tr : Trc) : Prop :=
  ∀ σ a w K, AS W0 N σ a w → (∀ kv ∈ tr.reads, σ kv.1 = kv.2) → (∀ a' w', AS W0 N (ovr σ tr.writes) a' w' → K a' w') → o.wp P a w K Q
theorem OpOk.pure {Q : Exit → Act → World → Prop} {o : Oper} {reads : Row} {x : AV} (hd : ∀ d, o.dst = some d → d < N)
    (h : ∀ G σ a w, ASG W0 N G σ a w → (∀ kv ∈ reads, σ kv.1 = kv.2) → ∃ v, (execOp a.eval o).run P w = .ok (.value v) w ∧ Rep G σ w v x) : OpOk P W0 N Q o ⟨reads, wr o.dst x⟩ := by
  intro σ a w K ⟨G, hA⟩ hr hK
  obtain ⟨v, h1, h2⟩ := h G σ a w hA hr
  unfold Oper.wp
  rw [h1]
  exact hK _ _ ⟨G, hA.put hd h2⟩

/-- an operand's value. -/
def cst : Value → AV
  | .agg vs => .agg (vs.toList.map fun v => ([], .v v))
  | v => .c [] (.v v)
def opd (L : St) : Operand → Option (Row × AV)
  | .tmp t => match L (.tmp t) with
    | .av x => some ([(.tmp t, .av x)], x)
    | _ => none
  | .const v => some ([], cst v)
  | .func f => some ([], .c [] (.v (.func (.func f) #[] #[])))
  | .global _ => none
theorem cst_rep (v : Value) : Rep G σ w v (cst v) := by
  cases v
  case agg vs =>
    refine ⟨fun c hc z hz => ?_, vs, rfl, by simp, fun i zs x hi _ => ?_⟩
    · simp at hc
      obtain ⟨v, _, rfl⟩ := hc
      cases hz
    · simp only [List.getElem?_map, Option.map_eq_some_iff] at hi
      obtain ⟨v, h1, h2⟩ := hi
      cases h2
      have : vs.getD i undef = v := by
        rw [Array.getElem?_toList] at h1
        simp [Array.getD_eq_getD_getElem?, h1]
      rw [this]
      exact .v v
  all_goals exact ⟨fun z hz => absurd hz (by simp), fun _ => .v _⟩
theorem opd_ok {L : St} {o : Operand} {r : Row} {x : AV} (h : opd L o = some (r, x)) (hA : ASG W0 N G σ a w) (hr : ∀ kv ∈ r, σ kv.1 = kv.2) : Rep G σ w (a.eval o) x := by
  cases o with
  | tmp t =>
    simp only [opd] at h
    split at h
    · simp only [Option.some.injEq, Prod.mk.injEq] at h
      obtain ⟨rfl, rfl⟩ := h
      rename_i y hy
      obtain ⟨v, h1, h2⟩ := hA.tmp t y (hr (.tmp t, .av y) List.mem_cons_self)
      have : a.eval (.tmp t) = v := by simp [Act.eval, Array.getD_eq_getD_getElem?, h1]
      rw [this]
      exact h2
    · cases h
  | const v =>
    simp only [opd, Option.some.injEq, Prod.mk.injEq] at h
    obtain ⟨rfl, rfl⟩ := h
    exact cst_rep v
  | func f =>
    simp only [opd, Option.some.injEq, Prod.mk.injEq] at h
    obtain ⟨rfl, rfl⟩ := h
    exact ⟨fun z hz => absurd hz (by simp), fun _ => .v _⟩
  | global g => cases h
/-- zones that are there. -/
def isLv : KV → Bool
  | .zn .live => true
  | .zn (.app ..) => true
  | _ => false
def zr (L : St) : List Nat → Option Row
  | [] => some []
  | z :: zs => if isLv (L (.zn z)) then (zr L zs).map ((.zn z, L (.zn z)) :: ·) else none
theorem zr_ok {L : St} : ∀ {zs : List Nat} {r : Row}, zr L zs = some r → (∀ kv ∈ r, σ kv.1 = kv.2) → ∀ z ∈ zs, Lv σ z
  | [], r, h, hr, z, hz => by cases hz
  | y :: zs, r, h, hr, z, hz => by
    unfold zr at h
    split at h
    · rename_i hl
      cases hzs : zr L zs with
      | none => rw [hzs] at h; cases h
      | some r' =>
        rw [hzs] at h
        simp only [Option.map_some, Option.some.injEq] at h
        subst h
        rcases List.mem_cons.1 hz with rfl | hz
        · have := hr (.zn z, L (.zn z)) (by simp)
          simp only at this
          unfold Lv
          rw [this]
          generalize L (.zn z) = kv at hl
          cases kv with
          | zn s => cases s <;> simp [isLv] at hl <;> simp
          | _ => simp [isLv] at hl
        · exact zr_ok hzs (fun kv hkv => hr kv (List.mem_cons_of_mem _ hkv)) z hz
    · cases h
end
end Go.Proofs.Ytlkdkhmdmgchbaa
namespace Go.Proofs.Ytlkdkhmdmgchbaa
set_option linter.unusedSimpArgs false
set_option linter.unusedVariables false
open Go.RowKit

section
variable {P : Program} {W0 : World} {N : Nat} {G : Gh} {σ : St} {a : Act} {w : World} {Q : Exit → Act → World → Prop} {o : Oper} {L : St}
/-- a value that needs no memory is in no zone. -/
def nz (zs : List Nat) : D → List Nat
  | .v _ => []
  | .s .. => zs
theorem nz_sub (zs : List Nat) (x : D) {z : Nat} (h : z ∈ nz zs x) : z ∈ zs := by cases x <;> simp_all [nz]
theorem nz_rep {zs : List Nat} {x : D} {v : Value} (h : RepD (G.zu zs) w v x) : RepD (G.zu (nz zs x)) w v x := by
  cases x with
  | v y => have := h.raw; subst this; exact .v _
  | s sz rows => exact h
theorem rep_c {zs : List Nat} {x : D} {v : Value} (hu : ∀ z ∈ zs, Uz σ z) (h : RepD (G.zu zs) w v x) : Rep G σ w v (.c zs x) := ⟨hu, fun _ => h⟩
theorem rep_nz {zs : List Nat} {x : D} {v : Value} (hu : ∀ z ∈ zs, Uz σ z) (h : RepD (G.zu zs) w v x) : Rep G σ w v (.c (nz zs x) x) := ⟨fun z hz => hu z (nz_sub zs x hz), fun _ => nz_rep h⟩
theorem rep_raw (v : Value) : Rep G σ w v (.c [] (.v v)) := ⟨fun z hz => absurd hz (by simp), fun _ => .v v⟩

def rawL (L : St) : List (List Nat × D) → Option (Row × List Value)
  | [] => some ([], [])
  | (zs, .v x) :: cs => match zr L zs, rawL L cs with
    | some r, some (r', vs) => some (r ++ r', x :: vs)
    | _, _ => none
  | (_, .s ..) :: _ => none
def raw (L : St) : AV → Option (Row × Value)
  | .c zs (.v x) => (zr L zs).map fun r => (r, x)
  | .agg cs => match rawL L cs with
    | some (r, vs) => some (r, .agg vs.toArray)
    | none => none
  | _ => none
theorem rawL_ok : ∀ {cs : List (List Nat × D)} {r : Row} {vs : List Value}, rawL L cs = some (r, vs) → (∀ kv ∈ r, σ kv.1 = kv.2) →
    vs.length = cs.length ∧ ∀ (i : Nat) (zs : List Nat) (x : D), cs[i]? = some (zs, x) → (∀ z ∈ zs, Lv σ z) ∧ ∃ u, vs[i]? = some u ∧ x = .v u
  | [], r, vs, h, _ => by simp only [rawL, Option.some.injEq, Prod.mk.injEq] at h; obtain ⟨_, rfl⟩ := h; simp
  | (zs, .v x) :: cs, r, vs, h, hr => by
    unfold rawL at h
    split at h
    · rename_i r1 r2 vs' h1 h2
      simp only [Option.some.injEq, Prod.mk.injEq] at h
      obtain ⟨rfl, rfl⟩ := h
      obtain ⟨k1, k2⟩ := rawL_ok h2 fun kv hkv => hr kv (List.mem_append_right _ hkv)
      have hz := zr_ok h1 fun kv hkv => hr kv (List.mem_append_left _ hkv)
      refine ⟨by simp [k1], fun i zs' y hi => ?_⟩
      cases i with
      | zero => simp only [List.getElem?_cons_zero, Option.some.injEq, Prod.mk.injEq] at hi; obtain ⟨rfl, rfl⟩ := hi; exact ⟨hz, x, rfl, rfl⟩
      | succ i => simp only [List.getElem?_cons_succ] at hi; exact k2 i zs' y hi
    · cases h
  | (zs, .s ..) :: cs, r, vs, h, _ => by unfold rawL at h; cases h
theorem raw_agg {cs : List (List Nat × D)} {r : Row} {vs : List Value} {v : Value} (h1 : rawL L cs = some (r, vs)) (hr : ∀ kv ∈ r, σ kv.1 = kv.2) (hx : AV.rep G σ w v (.agg cs)) : v = .agg vs.toArray := by
  obtain ⟨k1, k2⟩ := rawL_ok h1 hr
  obtain ⟨us, rfl, e, k⟩ := hx
  congr 1
  apply Array.ext'
  apply List.ext_getElem?
  intro i
  by_cases hi : i < cs.length
  · obtain ⟨⟨zs, x⟩, hx'⟩ : ∃ y, cs[i]? = some y := ⟨_, List.getElem?_eq_getElem hi⟩
    obtain ⟨j1, u, j2, rfl⟩ := k2 i zs x hx'
    have := (k i zs _ hx' j1).raw
    rw [Array.getElem?_toList, List.toList_toArray, j2, ← this]
    have : i < us.size := by omega
    simp [Array.getD_eq_getD_getElem?, this]
  · rw [Array.getElem?_toList, Array.getElem?_eq_none (by omega), List.toList_toArray, List.getElem?_eq_none (by omega)]
theorem raw_ok {x : AV} {r : Row} {v u : Value} (h : raw L x = some (r, u)) (hr : ∀ kv ∈ r, σ kv.1 = kv.2) (hx : Rep G σ w v x) : v = u := by
  cases x with
  | c zs x =>
    cases x with
    | s => simp [raw] at h
    | v y =>
      simp only [raw, Option.map_eq_some_iff, Prod.mk.injEq] at h
      obtain ⟨r', h1, rfl, rfl⟩ := h
      exact (hx.rep (zr_ok h1 hr)).raw
  | agg cs =>
    simp only [raw] at h
    split at h
    · rename_i r' vs h1
      simp only [Option.some.injEq, Prod.mk.injEq] at h
      obtain ⟨rfl, rfl⟩ := h
      exact raw_agg h1 hr hx.rep
    · cases h
  | _ => simp [raw] at h
/-- an operand that is known as it stands. -/
def opr (L : St) (x : Operand) : Option (Row × Value) := match opd L x with
  | some (r, v) => (raw L v).map fun y => (r ++ y.1, y.2)
  | none => none
theorem opr_ok {x : Operand} {r : Row} {u : Value} (h : opr L x = some (r, u)) (hA : ASG W0 N G σ a w) (hr : ∀ kv ∈ r, σ kv.1 = kv.2) : a.eval x = u := by
  unfold opr at h
  split at h
  · rename_i r1 v h1
    simp only [Option.map_eq_some_iff, Prod.mk.injEq] at h
    obtain ⟨⟨r2, y⟩, h2, rfl, rfl⟩ := h
    exact raw_ok h2 (fun kv hkv => hr kv (List.mem_append_right _ hkv)) (opd_ok h1 hA fun kv hkv => hr kv (List.mem_append_left _ hkv))
  · cases h

theorem op_move {x : Operand} {r : Row} {v : AV} (ho : o.op = .move x ∨ o.op = .assign x) (hx : opd L x = some (r, v)) (hd : ∀ d, o.dst = some d → d < N) : OpOk P W0 N Q o ⟨r, wr o.dst v⟩ := by
  refine OpOk.pure hd fun G σ a w hA hr => ⟨a.eval x, ?_, opd_ok hx hA hr⟩
  rcases ho with ho | ho <;> simp [execOp, ho]
theorem op_pick {c x y : Operand} {r r' : Row} {t : Bool} {v : AV} (ho : o.op = .pick c x y) (hc : opr L c = some (r', .bool t)) (hx : opd L (if t then x else y) = some (r, v)) (hd : ∀ d, o.dst = some d → d < N) : OpOk P W0 N Q o ⟨r' ++ r, wr o.dst v⟩ := by
  refine OpOk.pure hd fun G σ a w hA hr => ⟨a.eval (if t then x else y), ?_, opd_ok hx hA fun kv hkv => hr kv (List.mem_append_right _ hkv)⟩
  have e := opr_ok hc hA fun kv hkv => hr kv (List.mem_append_left _ hkv)
  simp only [execOp, ho, e, asBool, Sem.run_bind, Sem.run_pure, Result.andThen_ok]
  cases t <;> simp
/-- an operation whose value hangs on known operands alone. -/
theorem op_known {r : Row} {u : Value} (hd : ∀ d, o.dst = some d → d < N) (h : ∀ G σ a w, ASG W0 N G σ a w → (∀ kv ∈ r, σ kv.1 = kv.2) → (execOp a.eval o).run P w = .ok (.value u) w) : OpOk P W0 N Q o ⟨r, wr o.dst (cst u)⟩ :=
  OpOk.pure hd fun G σ a w hA hr => ⟨u, h G σ a w hA hr, cst_rep u⟩
/-- what two known values make; and what that asks. -/
def bin (op : BinOp) : Value → Value → Option (Value × Prop)
  | .int k x, .int k' y => if k = k' then match op with
    | .add => some (.int k (k.wrap (x + y)), True)
    | .sub => some (.int k (k.wrap (x - y)), True)
    | .mul => some (.int k (k.wrap (x * y)), True)
    | .quo => some (.int k (k.wrap (x.tdiv y)), y ≠ 0)
    | .rem => some (.int k (x.tmod y), y ≠ 0)
    | .eql => some (.bool (x == y), True)
    | .neq => some (.bool (x != y), True)
    | .lss => some (.bool (decide (x < y)), True)
    | .leq => some (.bool (decide (x ≤ y)), True)
    | .gtr => some (.bool (decide (x > y)), True)
    | .geq => some (.bool (decide (x ≥ y)), True)
    | _ => none
    else none
  | .string x, .string y => match op with
    | .add => some (.string (x ++ y), ((x.size + y.size : Nat) : Int) ≤ IntKind.i64.max)
    | .eql => some (.bool (x.toList == y.toList), True)
    | .neq => some (.bool (!(x.toList == y.toList)), True)
    | .lss => some (.bool (Op.bytesLess x.toList y.toList), True)
    | .leq => some (.bool (Op.bytesLess x.toList y.toList || x.toList == y.toList), True)
    | .gtr => some (.bool (!(Op.bytesLess x.toList y.toList || x.toList == y.toList)), True)
    | .geq => some (.bool (!Op.bytesLess x.toList y.toList), True)
    | _ => none
  | _, _ => none
theorem bin_int {op : BinOp} {t : TypeId} {x y : Operand} {k k' : IntKind} {n m : Int} {z : Value} {p : Prop} (h : bin op (.int k n) (.int k' m) = some (z, p)) (hp : p) (w : World) : (do eqGuard op t x y (.int k n) (.int k' m); binOp op t (.int k n) (.int k' m) : Sem Value).run P w = .ok z w := by
  simp only [bin] at h
  split at h
  · rename_i e
    subst e
    cases op <;> first
      | (cases h; done)
      | (simp only [Option.some.injEq, Prod.mk.injEq] at h; obtain ⟨rfl, rfl⟩ := h; simp [eqGuard, binOp, Op.intArith, Op.intCmp]; done)
      | (simp only [Option.some.injEq, Prod.mk.injEq] at h; obtain ⟨rfl, rfl⟩ := h; simp [eqGuard, binOp, Op.intDiv, hp]; done)
  · cases h
theorem bin_str {op : BinOp} {t : TypeId} {x y : Operand} {n m : ByteArray} {z : Value} {p : Prop} (h : bin op (.string n) (.string m) = some (z, p)) (hp : p) (w : World) : (do eqGuard op t x y (.string n) (.string m); binOp op t (.string n) (.string m) : Sem Value).run P w = .ok z w := by
  simp only [bin] at h
  cases op <;> first
    | (cases h; done)
    | (simp only [Option.some.injEq, Prod.mk.injEq] at h; obtain ⟨rfl, rfl⟩ := h; simp [eqGuard, binOp, Op.stringOp]; done)
    | (simp only [Option.some.injEq, Prod.mk.injEq] at h; obtain ⟨rfl, rfl⟩ := h; have hp' := Int.not_lt.2 hp; simp only [eqGuard, binOp, Op.stringOp, GT.gt, if_neg hp']; simp; done)
theorem bin_run {op : BinOp} {t : TypeId} {x y : Operand} {u v z : Value} {p : Prop} (h : bin op u v = some (z, p)) (hp : p) (w : World) : (do eqGuard op t x y u v; binOp op t u v : Sem Value).run P w = .ok z w := by
  cases u <;> cases v <;> first
    | (cases h; done)
    | exact bin_int h hp w
    | exact bin_str h hp w
theorem op_bin {op : BinOp} {t t' : TypeId} {x y : Operand} {r r' : Row} {u v z : Value} (ho : o.op = .binOp op t x y t') (hx : opr L x = some (r, u)) (hy : opr L y = some (r', v)) (hd : ∀ d, o.dst = some d → d < N)
    (h : ∀ w, (do eqGuard op t x y u v; binOp op t u v : Sem Value).run P w = .ok z w) : OpOk P W0 N Q o ⟨r ++ r', wr o.dst (cst z)⟩ := by
  refine op_known hd fun G σ a w hA hr => ?_
  have e1 := opr_ok hx hA fun kv hkv => hr kv (List.mem_append_left _ hkv)
  have e2 := opr_ok hy hA fun kv hkv => hr kv (List.mem_append_right _ hkv)
  have := h w
  simp only [execOp, ho, e1, e2]
  rw [Sem.run_bind, this]
  rfl
theorem op_not {t : TypeId} {x : Operand} {r : Row} {b : Bool} (ho : o.op = .unOp .not t x) (hx : opr L x = some (r, .bool b)) (hd : ∀ d, o.dst = some d → d < N) : OpOk P W0 N Q o ⟨r, wr o.dst (.c [] (.v (.bool (!b))))⟩ := by
  refine op_known (u := .bool (!b)) hd fun G σ a w hA hr => ?_
  have e := opr_ok hx hA hr
  simp [execOp, ho, e, Op.unary]
theorem op_neg {t : TypeId} {x : Operand} {r : Row} {k : IntKind} {n : Int} (ho : o.op = .unOp .neg t x) (hx : opr L x = some (r, .int k n)) (hd : ∀ d, o.dst = some d → d < N) : OpOk P W0 N Q o ⟨r, wr o.dst (.c [] (.v (.int k (k.wrap (0 - n)))))⟩ := by
  refine op_known (u := .int k (k.wrap (0 - n))) hd fun G σ a w hA hr => ?_
  have e := opr_ok hx hA hr
  simp [execOp, ho, e, Op.unary, Op.intArith]
theorem op_conv {T : Tab P} {s d : TypeId} {x : Operand} {r : Row} {k k' : IntKind} {n : Int} {si di : TI} (ho : o.op = .convert s d x) (hx : opr L x = some (r, .int k n)) (hs : T.f s = some si) (hdt : T.f d = some di) (hk : di.sh = .int k') (hd : ∀ d, o.dst = some d → d < N) :
    OpOk P W0 N Q o ⟨r, wr o.dst (.c [] (.v (.int k' (k'.wrap n))))⟩ := by
  refine op_known (u := .int k' (k'.wrap n)) hd fun G σ a w hA hr => ?_
  have e := opr_ok hx hA hr
  obtain ⟨d1, h1, _⟩ := (T.ok s si hs).und
  obtain ⟨d2, h2, h3⟩ := (T.ok d di hdt).und
  rw [hk] at h3
  cases d2 <;> simp [shp] at h3
  subst h3
  simp [execOp, ho, e, convert, run_underlying h1, run_underlying h2, Conv.intToInt]
end
end Go.Proofs.Ytlkdkhmdmgchbaa
namespace Go.Proofs.Ytlkdkhmdmgchbaa
set_option linter.unusedSimpArgs false
set_option linter.unusedVariables false
open Go.RowKit

theorem add_none (b o n : Nat) : (⟨b, o, none⟩ : Addr).add n = ⟨b, o + n, none⟩ := by
  unfold Addr.add
  split
  · rename_i h; subst h; rfl
  · rfl
theorem RepD.sub {Z : Zone} {w : World} {p : Option Addr} {n cap sz : Nat} {rows : List (List D)} (h : RepD Z w (.slice p n cap) (.s sz rows)) (l m : Nat) (hl : l ≤ m) (hm : m ≤ rows.length) (c : Nat) (hc : m ≤ c) (hcc : c ≤ cap) :
    RepD Z w (.slice (if c = l then p else p.map (·.add (l * sz))) (m - l) (c - l)) (.s sz ((rows.take m).drop l)) := by
  obtain ⟨p', cap', e, h1, h2, h3⟩ := h.form
  simp only [Value.slice.injEq] at e
  obtain ⟨rfl, rfl, rfl⟩ := e
  by_cases hml : m = l
  · subst hml
    have e1 : (rows.take m).drop m = [] := List.drop_of_length_le (List.length_take_le _ _)
    rw [e1, Nat.sub_self]
    cases p with
    | none =>
      have : cap = 0 := h3 rfl
      have hc0 : c = 0 := by omega
      have hm0 : m = 0 := by omega
      subst hc0; subst hm0
      simp only [if_pos, Nat.sub_self]
      exact .nil sz
    | some a =>
      split
      · exact .emp _ _ _ (by omega)
      · exact .emp _ _ _ (by omega)
  · obtain ⟨g, o, cap', vals, e, k1, k2, k3, k4⟩ := h.at (by omega)
    simp only [Value.slice.injEq] at e
    obtain ⟨rfl, -, rfl⟩ := e
    rw [if_neg (by omega)]
    simp only [Option.map_some, add_none]
    refine .row g (o + l * sz) (m - l) (c - l) sz _ (fun i j => vals (l + i) j) (by simp; omega) (by omega) (by omega) (fun i r hi => ?_) (fun i r j x hi hj => ?_) (fun i r j x hi hj => ?_)
    all_goals
      rw [List.getElem?_drop, List.getElem?_take] at hi
      split at hi
      case isFalse => cases hi
    · exact k3 _ _ hi
    · obtain ⟨a, b, _⟩ := k4 _ _ _ _ hi hj
      rw [show o + l * sz + i * sz + j = o + (l + i) * sz + j by rw [Nat.add_mul]; omega]
      exact ⟨a, b⟩
    · exact (k4 _ _ _ _ hi hj).2.2

section
variable {P : Program} {W0 : World} {N : Nat} {G : Gh} {σ : St} {a : Act} {w : World} {Q : Exit → Act → World → Prop} {o : Oper} {L : St} {T : Tab P}
theorem run_load_agg {t : TypeId} {ti : TI} (ht : T.f t = some ti) (hg : ti.sh.agg = true) (b off : Nat) (f : Nat → Value) (h : ∀ j, j < ti.size → w.cell? ⟨b, off + j, none⟩ = some (f j)) :
    (Instr.loadAt t (.pointer (some ⟨b, off, none⟩))).run P w = .ok (.agg ((List.range ti.size).map f).toArray) w := by
  have h1 := (T.ok t ti ht).run_agg w
  have h2 := (T.ok t ti ht).run_size w
  have h3 := run_loadCells (P := P) w ⟨b, off, none⟩ ti.size f (fun j hj => by rw [add_none]; exact h j hj)
  simp [Instr.loadAt, Instr.sureAddr, loadVar, h1, hg, h2, h3]
theorem run_load_word {t : TypeId} {ti : TI} (ht : T.f t = some ti) (hg : ti.sh.agg = false) (b off : Nat) (v : Value) (h : w.cell? ⟨b, off, none⟩ = some v) :
    (Instr.loadAt t (.pointer (some ⟨b, off, none⟩))).run P w = .ok v w := by
  have h1 := (T.ok t ti ht).run_agg w
  simp [Instr.loadAt, Instr.sureAddr, loadVar, h1, hg, h]
/-- a cell's value as data. -/
def cd : AV → Option (List Nat × D)
  | .c zs x => some (zs, x)
  | .own z sz rows => some ([z], .s sz rows)
  | _ => none
theorem zu_one {z : Nat} {v : Value} {x : D} (h : RepD (G.ζ z) w v x) : RepD (G.zu [z]) w v x := h.evo fun g o u a b => ⟨⟨z, by simp, a⟩, b⟩
theorem cd_ok {x : AV} {zs : List Nat} {d : D} {v : Value} (h : cd x = some (zs, d)) (hx : Rep G σ w v x) : (∀ z ∈ zs, Uz σ z) ∧ ((∀ z ∈ zs, Lv σ z) → RepD (G.zu zs) w v d) := by
  cases x <;> simp only [cd, Option.some.injEq, Prod.mk.injEq] at h <;> try (cases h; done)
  · obtain ⟨rfl, rfl⟩ := h
    exact ⟨hx.ok, hx.rep⟩
  · obtain ⟨rfl, rfl⟩ := h
    refine ⟨fun z hz => ?_, fun hl => zu_one (hx.rep (hl _ (by simp))).2⟩
    simp at hz; subst hz; exact hx.ok
def cells (L : St) (n : Nat) : Nat → Nat → Option (Row × List (List Nat × D))
  | _, 0 => some ([], [])
  | off, c + 1 => match L (.cell n off) with
    | .av x => match cd x, cells L n (off + 1) c with
      | some y, some (r, ys) => some ((.cell n off, .av x) :: r, y :: ys)
      | _, _ => none
    | _ => none
theorem cells_ok {n : Nat} : ∀ {c off : Nat} {r : Row} {ys : List (List Nat × D)}, cells L n off c = some (r, ys) → ASG W0 N G σ a w → (∀ kv ∈ r, σ kv.1 = kv.2) →
    ys.length = c ∧ ∀ (i : Nat) (zs : List Nat) (x : D), ys[i]? = some (zs, x) → (∀ z ∈ zs, Uz σ z) ∧ ∃ v, w.cell? ⟨G.ρ n, off + i, none⟩ = some v ∧ ((∀ z ∈ zs, Lv σ z) → RepD (G.zu zs) w v x)
  | 0, off, r, ys, h, _, _ => by simp only [cells, Option.some.injEq, Prod.mk.injEq] at h; obtain ⟨_, rfl⟩ := h; simp
  | c + 1, off, r, ys, h, hA, hr => by
    unfold cells at h
    split at h
    · rename_i x hx
      split at h
      · rename_i y r' ys' h1 h2
        simp only [Option.some.injEq, Prod.mk.injEq] at h
        obtain ⟨rfl, rfl⟩ := h
        obtain ⟨k1, k2⟩ := cells_ok h2 hA fun kv hkv => hr kv (List.mem_cons_of_mem _ hkv)
        obtain ⟨_, v, c1, _, c3⟩ := hA.cell n off x (hr (.cell n off, .av x) List.mem_cons_self)
        refine ⟨by simp [k1], fun i zs d hi => ?_⟩
        cases i with
        | zero =>
          simp only [List.getElem?_cons_zero, Option.some.injEq] at hi
          subst hi
          obtain ⟨j1, j2⟩ := cd_ok h1 c3
          exact ⟨j1, v, c1, j2⟩
        | succ i =>
          simp only [List.getElem?_cons_succ] at hi
          have := k2 i zs d hi
          rwa [show off + 1 + i = off + (i + 1) by omega] at this
      · cases h
    · cases h
theorem rep_agg {vs : Array Value} {cs : List (List Nat × D)} (hu : ∀ (i : Nat) (zs : List Nat) (x : D), cs[i]? = some (zs, x) → (∀ z ∈ zs, Uz σ z) ∧ ((∀ z ∈ zs, Lv σ z) → RepD (G.zu zs) w (vs.getD i undef) x)) (hs : vs.size = cs.length) : Rep G σ w (.agg vs) (.agg cs) := by
  refine ⟨fun c hc z hz => ?_, vs, rfl, hs, fun i zs x hi hl => (hu i zs x hi).2 hl⟩
  obtain ⟨i, hi⟩ := List.getElem?_of_mem hc
  exact (hu i c.1 c.2 hi).1 z hz
theorem op_load_box {t : TypeId} {ti : TI} {x : Operand} {r r' : Row} {n off : Nat} {ys : List (List Nat × D)} (ho : o.op = .load t x) (ht : T.f t = some ti) (hg : ti.sh.agg = true) (hx : opd L x = some (r, .ptr n off)) (hc : cells L n off ti.size = some (r', ys)) (hd : ∀ d, o.dst = some d → d < N) :
    OpOk P W0 N Q o ⟨r ++ r', wr o.dst (.agg ys)⟩ := by
  refine OpOk.pure hd fun G σ a w hA hr => ?_
  have e := (opd_ok hx hA fun kv hkv => hr kv (List.mem_append_left _ hkv)).rep
  obtain ⟨k1, k2⟩ := cells_ok hc hA fun kv hkv => hr kv (List.mem_append_right _ hkv)
  have hf : ∀ j, j < ti.size → ∃ v, w.cell? ⟨G.ρ n, off + j, none⟩ = some v ∧ ∀ zs x, ys[j]? = some (zs, x) → (∀ z ∈ zs, Uz σ z) ∧ ((∀ z ∈ zs, Lv σ z) → RepD (G.zu zs) w v x) := by
    intro j hj
    obtain ⟨⟨zs, x⟩, hy⟩ : ∃ y, ys[j]? = some y := ⟨_, List.getElem?_eq_getElem (by omega)⟩
    obtain ⟨j1, v, j2, j3⟩ := k2 j zs x hy
    refine ⟨v, j2, fun zs' x' h' => ?_⟩
    rw [hy] at h'
    cases h'
    exact ⟨j1, j3⟩
  let f : Nat → Value := fun j => if h : j < ti.size then (hf j h).choose else undef
  have hf1 : ∀ j (h : j < ti.size), f j = (hf j h).choose := fun j h => dif_pos h
  refine ⟨.agg ((List.range ti.size).map f).toArray, ?_, ?_⟩
  · have := run_load_agg (w := w) ht hg (G.ρ n) off f (fun j hj => by rw [hf1 j hj]; exact (hf j hj).choose_spec.1)
    simp only [execOp, ho]
    rw [show a.eval x = .pointer (some ⟨G.ρ n, off, none⟩) from e]
    simp [this]
  · refine rep_agg (fun i zs d hi => ?_) (by simp [k1])
    have hi' : i < ti.size := by rw [← k1]; exact (List.getElem?_eq_some_iff.1 hi).1
    have e2 : ((List.range ti.size).map f).toArray.getD i undef = f i := by simp [Array.getD_eq_getD_getElem?, hi']
    rw [e2, hf1 i hi']
    exact (hf i hi').choose_spec.2 zs d hi
theorem op_load_cell {t : TypeId} {ti : TI} {x : Operand} {r : Row} {n off : Nat} {y : AV} (ho : o.op = .load t x) (ht : T.f t = some ti) (hg : ti.sh.agg = false) (hx : opd L x = some (r, .ptr n off)) (hc : L (.cell n off) = .av y) (hd : ∀ d, o.dst = some d → d < N) :
    OpOk P W0 N Q o ⟨r ++ [(.cell n off, .av y)], wr o.dst y⟩ := by
  refine OpOk.pure hd fun G σ a w hA hr => ?_
  have e := (opd_ok hx hA fun kv hkv => hr kv (List.mem_append_left _ hkv)).rep
  obtain ⟨_, v, c1, _, c3⟩ := hA.cell n off y (hr (.cell n off, .av y) (List.mem_append_right _ List.mem_cons_self))
  refine ⟨v, ?_, c3⟩
  simp only [execOp, ho]
  rw [show a.eval x = .pointer (some ⟨G.ρ n, off, none⟩) from e]
  simp [run_load_word (w := w) ht hg (G.ρ n) off v c1]
theorem op_load_row {t : TypeId} {ti : TI} {x : Operand} {r r' : Row} {zs : List Nat} {ds : List D} (ho : o.op = .load t x) (ht : T.f t = some ti) (hg : ti.sh.agg = true) (hx : opd L x = some (r, .seg zs ds)) (hz : zr L zs = some r') (hl : ti.size ≤ ds.length) (hd : ∀ d, o.dst = some d → d < N) :
    OpOk P W0 N Q o ⟨r ++ r', wr o.dst (.agg ((ds.take ti.size).map fun x => (nz zs x, x)))⟩ := by
  refine OpOk.pure hd fun G σ a w hA hr => ?_
  have e := opd_ok hx hA fun kv hkv => hr kv (List.mem_append_left _ hkv)
  obtain ⟨g, off, e1, k⟩ := e.rep (zr_ok hz fun kv hkv => hr kv (List.mem_append_right _ hkv))
  have hf : ∀ j (h : j < ti.size), ∃ u, w.cell? ⟨g, off + j, none⟩ = some u ∧ RepD (G.zu zs) w u (ds[j]'(by omega)) := fun j h => by
    obtain ⟨_, u, k1, k2⟩ := k j (ds[j]'(by omega)) (List.getElem?_eq_getElem (by omega))
    exact ⟨u, k1, k2⟩
  let f : Nat → Value := fun j => if h : j < ti.size then (hf j h).choose else undef
  have hf1 : ∀ j (h : j < ti.size), f j = (hf j h).choose := fun j h => dif_pos h
  refine ⟨.agg ((List.range ti.size).map f).toArray, ?_, ?_⟩
  · have := run_load_agg (w := w) ht hg g off f (fun j hj => by rw [hf1 j hj]; exact (hf j hj).choose_spec.1)
    simp only [execOp, ho]
    rw [e1]
    simp [this]
  · refine rep_agg (fun i zs' d hi => ?_) (by simp; omega)
    have hi' : i < ti.size := by
      have := (List.getElem?_eq_some_iff.1 hi).1
      simp at this
      omega
    have e2 : ((List.range ti.size).map f).toArray.getD i undef = f i := by simp [Array.getD_eq_getD_getElem?, hi']
    rw [e2, hf1 i hi']
    simp only [List.getElem?_map, List.getElem?_take, if_pos hi', List.getElem?_eq_getElem (show i < ds.length by omega), Option.map_some, Option.some.injEq, Prod.mk.injEq] at hi
    obtain ⟨rfl, rfl⟩ := hi
    exact ⟨fun z hz => e.ok z (nz_sub _ _ hz), fun _ => nz_rep (hf i hi').choose_spec.2⟩
theorem op_load_seg {t : TypeId} {ti : TI} {x : Operand} {r r' : Row} {zs : List Nat} {d : D} {ds : List D} (ho : o.op = .load t x) (ht : T.f t = some ti) (hg : ti.sh.agg = false) (hx : opd L x = some (r, .seg zs (d :: ds))) (hz : zr L zs = some r') (hd : ∀ d, o.dst = some d → d < N) :
    OpOk P W0 N Q o ⟨r ++ r', wr o.dst (.c (nz zs d) d)⟩ := by
  refine OpOk.pure hd fun G σ a w hA hr => ?_
  have e := opd_ok hx hA fun kv hkv => hr kv (List.mem_append_left _ hkv)
  obtain ⟨g, off, e1, k⟩ := e.rep (zr_ok hz fun kv hkv => hr kv (List.mem_append_right _ hkv))
  obtain ⟨_, u, k1, k2⟩ := k 0 d rfl
  refine ⟨u, ?_, rep_nz e.ok k2⟩
  simp only [execOp, ho]
  rw [e1]
  simp [run_load_word (w := w) ht hg g off u k1]

theorem run_fieldAt {s : TypeId} {si : TI} {fs : List (Nat × TypeId)} {f fo : Nat} {ft : TypeId} {fi : TI} (hs : T.f s = some si) (hsh : si.sh = .struct fs) (hf : fs[f]? = some (fo, ft)) (hft : T.f ft = some fi) (hne : fi.size ≠ 0) (b off : Nat) :
    (Instr.fieldAt s (.pointer (some ⟨b, off, none⟩)) f).run P w = .ok (.pointer (some ⟨b, off + fo, none⟩)) w := by
  obtain ⟨arr, h1, h2⟩ := (T.ok s si hs).struct hsh
  have h3 : (arr[f]?).map (fun f => (f.offset, f.type)) = some (fo, ft) := by
    rw [← h2] at hf
    simpa [List.getElem?_map] using hf
  cases hq : arr[f]? with
  | none => rw [hq] at h3; cases h3
  | some fl =>
    rw [hq] at h3
    simp only [Option.map_some, Option.some.injEq, Prod.mk.injEq] at h3
    obtain ⟨rfl, rfl⟩ := h3
    have h4 := (T.ok fl.type fi hft).run_size w
    simp [Instr.fieldAt, run_underlying h1, hq, Instr.sureAddr, fieldPlace, h4, hne, add_none]
theorem op_faddr {s : TypeId} {si : TI} {fs : List (Nat × TypeId)} {f fo : Nat} {ft : TypeId} {fi : TI} {x : Operand} {r : Row} {n off : Nat} (ho : o.op = .fieldAddr s x f) (hs : T.f s = some si) (hsh : si.sh = .struct fs) (hf : fs[f]? = some (fo, ft)) (hft : T.f ft = some fi) (hne : fi.size ≠ 0)
    (hx : opd L x = some (r, .ptr n off)) (hd : ∀ d, o.dst = some d → d < N) : OpOk P W0 N Q o ⟨r, wr o.dst (.ptr n (off + fo))⟩ := by
  refine OpOk.pure hd fun G σ a w hA hr => ?_
  have e := opd_ok hx hA hr
  refine ⟨.pointer (some ⟨G.ρ n, off + fo, none⟩), ?_, e.ok, rfl⟩
  simp only [execOp, ho]
  rw [show a.eval x = .pointer (some ⟨G.ρ n, off, none⟩) from e.rep]
  simp [run_fieldAt (w := w) hs hsh hf hft hne]
theorem op_faddr_seg {s : TypeId} {si : TI} {fs : List (Nat × TypeId)} {f fo : Nat} {ft : TypeId} {fi : TI} {x : Operand} {r r' : Row} {zs : List Nat} {ds : List D} (ho : o.op = .fieldAddr s x f) (hs : T.f s = some si) (hsh : si.sh = .struct fs) (hf : fs[f]? = some (fo, ft)) (hft : T.f ft = some fi) (hne : fi.size ≠ 0)
    (hx : opd L x = some (r, .seg zs ds)) (hz : zr L zs = some r') (hd : ∀ d, o.dst = some d → d < N) : OpOk P W0 N Q o ⟨r ++ r', wr o.dst (.seg zs (ds.drop fo))⟩ := by
  refine OpOk.pure hd fun G σ a w hA hr => ?_
  have e := opd_ok hx hA fun kv hkv => hr kv (List.mem_append_left _ hkv)
  obtain ⟨g, off, e1, k⟩ := e.rep (zr_ok hz fun kv hkv => hr kv (List.mem_append_right _ hkv))
  refine ⟨.pointer (some ⟨g, off + fo, none⟩), ?_, e.ok, fun _ => ⟨g, off + fo, rfl, fun j x hj => ?_⟩⟩
  · simp only [execOp, ho]
    rw [e1]
    simp [run_fieldAt (w := w) hs hsh hf hft hne]
  · rw [List.getElem?_drop] at hj
    have := k _ _ hj
    rwa [show off + (fo + j) = off + fo + j by omega] at this
/-- a datum of a call's, in its zones. -/
def atz (zs : List Nat) : DV → AV
  | .c x => .c (nz zs x) x
  | .agg cs => .agg (cs.map fun x => (nz zs x, x))
theorem atz_rep {zs : List Nat} {x : DV} {v : Value} (hu : ∀ z ∈ zs, Uz σ z) (h : RepDV (G.zu zs) w v x) : Rep G σ w v (atz zs x) := by
  cases x with
  | c x => exact rep_nz hu h
  | agg cs =>
    obtain ⟨vs, rfl, e, k⟩ := h
    refine rep_agg (fun i zs' x hi => ?_) (by simp [e])
    simp only [List.getElem?_map, Option.map_eq_some_iff, Prod.mk.injEq] at hi
    obtain ⟨y, h1, rfl, rfl⟩ := hi
    exact ⟨fun z hz => hu z (nz_sub _ _ hz), fun _ => nz_rep (k i y h1)⟩
theorem op_extract {x : Operand} {i : Nat} {r r' : Row} {zs : List Nat} {l : List DV} {d : DV} (ho : o.op = .extract x i) (hx : opd L x = some (r, .tup zs l)) (hz : zr L zs = some r') (hi : l[i]? = some d) (hd : ∀ d, o.dst = some d → d < N) : OpOk P W0 N Q o ⟨r ++ r', wr o.dst (atz zs d)⟩ := by
  refine OpOk.pure hd fun G σ a w hA hr => ?_
  have e := opd_ok hx hA fun kv hkv => hr kv (List.mem_append_left _ hkv)
  obtain ⟨vs, e1, e2, k⟩ := e.rep (zr_ok hz fun kv hkv => hr kv (List.mem_append_right _ hkv))
  have hlt : i < vs.size := by rw [e2]; exact (List.getElem?_eq_some_iff.1 hi).1
  refine ⟨vs.getD i undef, ?_, atz_rep e.ok (k i d hi)⟩
  simp only [execOp, ho]
  rw [e1]
  simp [Instr.extract, Array.getD_eq_getD_getElem?, hlt]
/-- a slice's rows; nil is a slice, too. -/
def slc (esz : Nat) : AV → Option (List Nat × List (List D))
  | .c zs (.s sz rows) => if sz = esz then some (zs, rows) else none
  | .own z sz rows => if sz = esz then some ([z], rows) else none
  | .c [] (.v (.slice none 0 0)) => some ([], [])
  | _ => none
end
end Go.Proofs.Ytlkdkhmdmgchbaa
namespace Go.Proofs.Ytlkdkhmdmgchbaa
set_option linter.unusedSimpArgs false
set_option linter.unusedVariables false
open Go.RowKit

section
variable {P : Program} {W0 : World} {N : Nat} {G : Gh} {σ : St} {a : Act} {w : World} {Q : Exit → Act → World → Prop} {o : Oper} {L : St} {T : Tab P}
theorem slc_ok {esz : Nat} {x : AV} {zs : List Nat} {rows : List (List D)} {v : Value} (h : slc esz x = some (zs, rows)) (hx : Rep G σ w v x) : (∀ z ∈ zs, Uz σ z) ∧ ((∀ z ∈ zs, Lv σ z) → RepD (G.zu zs) w v (.s esz rows)) := by
  unfold slc at h
  split at h
  · split at h
    · simp only [Option.some.injEq, Prod.mk.injEq] at h
      obtain ⟨rfl, rfl⟩ := h
      rename_i e; subst e
      exact ⟨hx.ok, hx.rep⟩
    · cases h
  · split at h
    · simp only [Option.some.injEq, Prod.mk.injEq] at h
      obtain ⟨rfl, rfl⟩ := h
      rename_i e; subst e
      refine ⟨fun z hz => ?_, fun hl => zu_one (hx.rep (hl _ (by simp))).2⟩
      simp at hz; subst hz; exact hx.ok
    · cases h
  · simp only [Option.some.injEq, Prod.mk.injEq] at h
    obtain ⟨rfl, rfl⟩ := h
    refine ⟨fun z hz => absurd hz (by simp), fun _ => ?_⟩
    have := (hx.rep (fun z hz => absurd hz (by simp))).raw
    subst this
    exact .nil esz
  · cases h
/-- the rows of an operand that is a slice. -/
def ops (L : St) (esz : Nat) (x : Operand) : Option (Row × List Nat × List (List D)) := match opd L x with
  | some (r, v) => match slc esz v with
    | some (zs, rows) => (zr L zs).map fun r' => (r ++ r', zs, rows)
    | none => none
  | none => none
theorem ops_ok {esz : Nat} {x : Operand} {r : Row} {zs : List Nat} {rows : List (List D)} (h : ops L esz x = some (r, zs, rows)) (hA : ASG W0 N G σ a w) (hr : ∀ kv ∈ r, σ kv.1 = kv.2) :
    (∀ z ∈ zs, Uz σ z) ∧ (∀ z ∈ zs, Lv σ z) ∧ RepD (G.zu zs) w (a.eval x) (.s esz rows) := by
  unfold ops at h
  split at h
  · rename_i r1 v h1
    split at h
    · rename_i zs' rows' h2
      simp only [Option.map_eq_some_iff, Prod.mk.injEq] at h
      obtain ⟨r2, h3, rfl, rfl, rfl⟩ := h
      obtain ⟨k1, k2⟩ := slc_ok h2 (opd_ok h1 hA fun kv hkv => hr kv (List.mem_append_left _ hkv))
      have hl := zr_ok h3 fun kv hkv => hr kv (List.mem_append_right _ hkv)
      exact ⟨k1, hl, k2 hl⟩
    · cases h
  · cases h
theorem op_len {t e : TypeId} {ti ei : TI} {x : Operand} {r : Row} {zs : List Nat} {rows : List (List D)} (ho : o.op = .call { callee := .builtin .len, args := #[x], argTypes := #[t] }) (ht : T.f t = some ti) (hsh : ti.sh = .slice e) (he : T.f e = some ei)
    (hx : ops L ei.size x = some (r, zs, rows)) (hd : ∀ d, o.dst = some d → d < N) : OpOk P W0 N Q o ⟨r, wr o.dst (.c [] (.v (.int .i64 rows.length)))⟩ := by
  refine OpOk.pure hd fun G σ a w hA hr => ?_
  obtain ⟨_, _, h⟩ := ops_ok hx hA hr
  obtain ⟨p, cap, e1, _⟩ := h.form
  have hu := (T.ok t ti ht).slice hsh
  refine ⟨.int .i64 rows.length, ?_, rep_raw _⟩
  simp [execOp, ho, resolve, invoke, builtin, Builtin.len_, e1, run_underlying hu, goInt]
theorem op_lens {t : TypeId} {ti : TI} {x : Operand} {r : Row} {s : ByteArray} (ho : o.op = .call { callee := .builtin .len, args := #[x], argTypes := #[t] }) (ht : T.f t = some ti) (hsh : ti.sh = .str) (hx : opr L x = some (r, .string s)) (hd : ∀ d, o.dst = some d → d < N) :
    OpOk P W0 N Q o ⟨r, wr o.dst (.c [] (.v (.int .i64 s.size)))⟩ := by
  refine OpOk.pure hd fun G σ a w hA hr => ?_
  have e := opr_ok hx hA hr
  obtain ⟨d, h1, h2⟩ := (T.ok t ti ht).und
  rw [hsh] at h2
  cases d <;> simp [shp] at h2
  refine ⟨.int .i64 s.size, ?_, rep_raw _⟩
  simp [execOp, ho, resolve, invoke, builtin, Builtin.len_, e, run_underlying h1, goInt]
theorem op_min {ts : Array TypeId} {x y : Operand} {r r' : Row} {k k' : IntKind} {n m : Int} (ho : o.op = .call { callee := .builtin .min, args := #[x, y], argTypes := ts }) (hx : opr L x = some (r, .int k n)) (hy : opr L y = some (r', .int k' m)) (hd : ∀ d, o.dst = some d → d < N) :
    OpOk P W0 N Q o ⟨r ++ r', wr o.dst (.c [] (.v (.int k (if m < n then m else n))))⟩ := by
  refine OpOk.pure hd fun G σ a w hA hr => ?_
  have e1 := opr_ok hx hA fun kv hkv => hr kv (List.mem_append_left _ hkv)
  have e2 := opr_ok hy hA fun kv hkv => hr kv (List.mem_append_right _ hkv)
  refine ⟨.int k (if m < n then m else n), ?_, rep_raw _⟩
  simp [execOp, ho, resolve, invoke, builtin, e1, e2, run_min_int2]
theorem op_max {ts : Array TypeId} {x y : Operand} {r r' : Row} {k k' : IntKind} {n m : Int} (ho : o.op = .call { callee := .builtin .max, args := #[x, y], argTypes := ts }) (hx : opr L x = some (r, .int k n)) (hy : opr L y = some (r', .int k' m)) (hd : ∀ d, o.dst = some d → d < N) :
    OpOk P W0 N Q o ⟨r ++ r', wr o.dst (.c [] (.v (.int k (if m > n then m else n))))⟩ := by
  refine OpOk.pure hd fun G σ a w hA hr => ?_
  have e1 := opr_ok hx hA fun kv hkv => hr kv (List.mem_append_left _ hkv)
  have e2 := opr_ok hy hA fun kv hkv => hr kv (List.mem_append_right _ hkv)
  refine ⟨.int k (if m > n then m else n), ?_, rep_raw _⟩
  simp [execOp, ho, resolve, invoke, builtin, e1, e2, run_max_int2]
theorem op_iaddr {t e : TypeId} {ti ei : TI} {x ix : Operand} {r r' : Row} {zs : List Nat} {rows : List (List D)} {k : IntKind} {n : Int} {j : Nat} {row : List D} (ho : o.op = .indexAddr t x ix) (ht : T.f t = some ti) (hsh : ti.sh = .slice e) (he : T.f e = some ei)
    (hx : ops L ei.size x = some (r, zs, rows)) (hi : opr L ix = some (r', .int k n)) (hj : n = (j : Int)) (hrow : rows[j]? = some row) (hd : ∀ d, o.dst = some d → d < N) : OpOk P W0 N Q o ⟨r ++ r', wr o.dst (.seg zs row)⟩ := by
  refine OpOk.pure hd fun G σ a w hA hr => ?_
  obtain ⟨h1, _, h⟩ := ops_ok hx hA fun kv hkv => hr kv (List.mem_append_left _ hkv)
  have ei' := opr_ok hi hA fun kv hkv => hr kv (List.mem_append_right _ hkv)
  have hlt : j < rows.length := (List.getElem?_eq_some_iff.1 hrow).1
  obtain ⟨g, off, cap, vals, e1, _, _, _, k4⟩ := h.at (by omega)
  have hu := (T.ok t ti ht).slice hsh
  have hs := (T.ok e ei he).run_size w
  refine ⟨.pointer (some ⟨g, off + j * ei.size, none⟩), ?_, h1, fun _ => ⟨g, off + j * ei.size, rfl, fun i x hx => ?_⟩⟩
  · subst hj
    have c1 : (0 : Int) ≤ (j : Int) ∧ (j : Int) < (rows.length : Int) := by omega
    simp [execOp, ho, Instr.indexAt, e1, ei', asIntOf, run_underlying hu, c1, hs, add_none]
    omega
  · obtain ⟨b1, b2, b3⟩ := k4 j row i x hrow hx
    exact ⟨b1, _, b2, b3⟩
theorem op_iaddr_arr {t e : TypeId} {ti ei : TI} {x ix : Operand} {r r' : Row} {m nn off : Nat} {k : IntKind} {n : Int} {j : Nat} (ho : o.op = .indexAddr t x ix) (ht : T.f t = some ti) (hsh : ti.sh = .arr m e) (he : T.f e = some ei)
    (hx : opd L x = some (r, .ptr nn off)) (hi : opr L ix = some (r', .int k n)) (hj : n = (j : Int)) (hjm : j < m) (hd : ∀ d, o.dst = some d → d < N) : OpOk P W0 N Q o ⟨r ++ r', wr o.dst (.ptr nn (off + j * ei.size))⟩ := by
  refine OpOk.pure hd fun G σ a w hA hr => ?_
  have hx' := opd_ok hx hA fun kv hkv => hr kv (List.mem_append_left _ hkv)
  have ei' := opr_ok hi hA fun kv hkv => hr kv (List.mem_append_right _ hkv)
  obtain ⟨d, hu, h2⟩ := (T.ok t ti ht).und
  rw [hsh] at h2
  cases d <;> simp [shp] at h2
  obtain ⟨q1, q2⟩ := h2
  rw [q1, q2] at hu
  have hs := (T.ok _ ei he).run_size w
  refine ⟨.pointer (some ⟨G.ρ nn, off + j * ei.size, none⟩), ?_, hx'.ok, rfl⟩
  subst hj
  have c1 : (0 : Int) ≤ (j : Int) ∧ (j : Int) < (m : Int) := by omega
  simp only [execOp, ho]
  rw [show a.eval x = .pointer (some ⟨G.ρ nn, off, none⟩) from hx'.rep]
  simp [Instr.indexAt, ei', asIntOf, run_underlying hu, Instr.sureAddr, c1, hs, add_none]
  omega
def bnd : Option (IntKind × Nat) → Option Value := fun x => x.map fun y => .int y.1 (y.2 : Int)
theorem run_sliceAt {t e : TypeId} {ti ei : TI} (ht : T.f t = some ti) (hsh : ti.sh = .slice e) (he : T.f e = some ei) (p : Option Addr) (n cap : Nat) (lo hi mx : Option (IntKind × Nat)) (hmx : mx.isSome = true → hi.isSome = true)
    (h1 : (lo.map (·.2)).getD 0 ≤ (hi.map (·.2)).getD n) (h2 : (hi.map (·.2)).getD n ≤ (mx.map (·.2)).getD cap) (h3 : (mx.map (·.2)).getD cap ≤ cap) :
    (Instr.sliceAt t (.slice p n cap) (bnd lo) (bnd hi) (bnd mx)).run P w =
      .ok (.slice (if (mx.map (·.2)).getD cap = (lo.map (·.2)).getD 0 then p else p.map (·.add ((lo.map (·.2)).getD 0 * ei.size))) ((hi.map (·.2)).getD n - (lo.map (·.2)).getD 0) ((mx.map (·.2)).getD cap - (lo.map (·.2)).getD 0)) w := by
  have hu := (T.ok t ti ht).slice hsh
  have hs := (T.ok e ei he).run_size w
  have hb : ∀ (k : IntKind) (m y : Nat) (code : BoundsCode), m ≤ y → (Instr.sliceBound (.int k (m : Int)) y code).run P w = .ok m w := fun k m y code h => by
    simp only [Instr.sliceBound, asIntOf, Sem.run_bind, Sem.run_pure, Result.andThen_ok]
    rw [if_pos (by omega)]
    simp
  have hB : (Instr.sliceBounds true n cap (bnd lo) (bnd hi) (bnd mx)).run P w = .ok ((lo.map (·.2)).getD 0, (hi.map (·.2)).getD n, (mx.map (·.2)).getD cap) w := by
    cases mx with
    | none =>
      simp only [Option.map_none, Option.getD_none] at h2 h3 ⊢
      cases hi with
      | none => cases lo with
        | none => simp [Instr.sliceBounds, bnd]
        | some l => simp only [Option.map_none, Option.map_some, Option.getD_none, Option.getD_some] at h1 h2 ⊢; simp [Instr.sliceBounds, bnd, hb _ _ _ _ h1]
      | some h => cases lo with
        | none => simp only [Option.map_none, Option.map_some, Option.getD_none, Option.getD_some] at h1 h2 ⊢; simp [Instr.sliceBounds, bnd, hb _ _ _ _ h2]
        | some l => simp only [Option.map_none, Option.map_some, Option.getD_none, Option.getD_some] at h1 h2 ⊢; simp [Instr.sliceBounds, bnd, hb _ _ _ _ h1, hb _ _ _ _ h2]
    | some m =>
      cases hi with
      | none => exact absurd (hmx rfl) (by simp)
      | some h => cases lo with
        | none => simp only [Option.map_none, Option.map_some, Option.getD_none, Option.getD_some] at h1 h2 h3 ⊢; simp [Instr.sliceBounds, bnd, hb _ _ _ _ h2, hb _ _ _ _ h3]
        | some l => simp only [Option.map_none, Option.map_some, Option.getD_none, Option.getD_some] at h1 h2 h3 ⊢; simp [Instr.sliceBounds, bnd, hb _ _ _ _ h1, hb _ _ _ _ h2, hb _ _ _ _ h3]
  simp only [Instr.sliceAt, Instr.slice, Sem.run_bind, run_underlying hu, Result.andThen_ok, hB, hs, Sem.run_pure]
/-- bounds that are known. -/
def opb (L : St) : Option Operand → Option (Row × Option (IntKind × Int))
  | none => some ([], none)
  | some x => match opr L x with
    | some (r, .int k n) => some (r, some (k, n))
    | _ => none
def nat? : Option (IntKind × Int) → Option (IntKind × Nat) → Prop
  | none, none => True
  | some (k, n), some (k', m) => k = k' ∧ n = (m : Int)
  | _, _ => False
theorem opb_ok {x : Option Operand} {r : Row} {b : Option (IntKind × Int)} {c : Option (IntKind × Nat)} (h : opb L x = some (r, b)) (hn : nat? b c) (hA : ASG W0 N G σ a w) (hr : ∀ kv ∈ r, σ kv.1 = kv.2) : x.map a.eval = bnd c := by
  cases x with
  | none =>
    simp only [opb, Option.some.injEq, Prod.mk.injEq] at h
    obtain ⟨_, rfl⟩ := h
    cases c with
    | none => rfl
    | some c => exact hn.elim
  | some x =>
    simp only [opb] at h
    split at h
    · rename_i r' k n h1
      simp only [Option.some.injEq, Prod.mk.injEq] at h
      obtain ⟨rfl, rfl⟩ := h
      cases c with
      | none => exact hn.elim
      | some c =>
        obtain ⟨rfl, rfl⟩ := hn
        simp only [Option.map_some, bnd, opr_ok h1 hA hr]
    · cases h
theorem op_slice {t e : TypeId} {ti ei : TI} {x : Operand} {lo hi mx : Option Operand} {r r1 r2 r3 : Row} {zs : List Nat} {rows : List (List D)} {b1 b2 b3 : Option (IntKind × Int)} {c1 c2 c3 : Option (IntKind × Nat)} (ho : o.op = .slice t x lo hi mx) (ht : T.f t = some ti) (hsh : ti.sh = .slice e) (he : T.f e = some ei)
    (hx : ops L ei.size x = some (r, zs, rows)) (h1 : opb L lo = some (r1, b1)) (h2 : opb L hi = some (r2, b2)) (h3 : opb L mx = some (r3, b3)) (n1 : nat? b1 c1) (n2 : nat? b2 c2) (n3 : nat? b3 c3) (hmx : c3.isSome = true → c2.isSome = true)
    (k1 : (c1.map (·.2)).getD 0 ≤ (c2.map (·.2)).getD rows.length) (k2 : (c2.map (·.2)).getD rows.length ≤ (c3.map (·.2)).getD rows.length) (k3 : (c3.map (·.2)).getD rows.length ≤ rows.length) (hd : ∀ d, o.dst = some d → d < N) :
    OpOk P W0 N Q o ⟨r ++ (r1 ++ (r2 ++ r3)), wr o.dst (.c zs (.s ei.size ((rows.take ((c2.map (·.2)).getD rows.length)).drop ((c1.map (·.2)).getD 0))))⟩ := by
  refine OpOk.pure hd fun G σ a w hA hr => ?_
  obtain ⟨hu, hl, h⟩ := ops_ok hx hA fun kv hkv => hr kv (List.mem_append_left _ hkv)
  have e1 := opb_ok h1 n1 hA fun kv hkv => hr kv (List.mem_append_right _ (List.mem_append_left _ hkv))
  have e2 := opb_ok h2 n2 hA fun kv hkv => hr kv (List.mem_append_right _ (List.mem_append_right _ (List.mem_append_left _ hkv)))
  have e3 := opb_ok h3 n3 hA fun kv hkv => hr kv (List.mem_append_right _ (List.mem_append_right _ (List.mem_append_right _ hkv)))
  obtain ⟨p, cap, ev, q1, q2, q3⟩ := h.form
  rw [ev] at h
  have hcap : rows.length ≤ (c3.map (·.2)).getD cap → (c3.map (·.2)).getD cap ≤ cap := by
    cases c3 with
    | none => simp
    | some c => simp at k3 ⊢; omega
  have g1 : (c2.map (·.2)).getD rows.length ≤ (c3.map (·.2)).getD cap := by
    cases c3 with
    | none => simp at k2 ⊢; omega
    | some c => simpa using k2
  have g2 : (c3.map (·.2)).getD cap ≤ cap := by
    cases c3 with
    | none => simp
    | some c => simp at k3 ⊢; omega
  refine ⟨_, ?_, rep_c hu (h.sub _ _ k1 (by omega) _ g1 g2)⟩
  have := run_sliceAt (w := w) ht hsh he p rows.length cap c1 c2 c3 hmx k1 g1 g2
  simp only [execOp, ho, ev, e1, e2, e3]
  rw [Sem.run_bind, this]
  rfl
theorem op_field {s : TypeId} {si : TI} {fs : List (Nat × TypeId)} {f fo : Nat} {ft : TypeId} {fi : TI} {x : Operand} {r : Row} {cs : List (List Nat × D)} {y : List Nat × D} (ho : o.op = .field s x f) (hs : T.f s = some si) (hsh : si.sh = .struct fs) (hf : fs[f]? = some (fo, ft)) (hft : T.f ft = some fi) (hg : fi.sh.agg = false)
    (hx : opd L x = some (r, .agg cs)) (hy : cs[fo]? = some y) (hd : ∀ d, o.dst = some d → d < N) : OpOk P W0 N Q o ⟨r, wr o.dst (.c y.1 y.2)⟩ := by
  refine OpOk.pure hd fun G σ a w hA hr => ?_
  have e := opd_ok hx hA hr
  obtain ⟨vs, e1, e2, k⟩ := e.rep
  obtain ⟨arr, h1, h2⟩ := (T.ok s si hs).struct hsh
  have h3 : (arr[f]?).map (fun f => (f.offset, f.type)) = some (fo, ft) := by
    rw [← h2] at hf
    simpa [List.getElem?_map] using hf
  cases hq : arr[f]? with
  | none => rw [hq] at h3; cases h3
  | some fl =>
    rw [hq] at h3
    simp only [Option.map_some, Option.some.injEq, Prod.mk.injEq] at h3
    obtain ⟨rfl, rfl⟩ := h3
    have h4 := (T.ok fl.type fi hft).run_agg w
    have hlt : fl.offset < vs.size := by rw [e2]; exact (List.getElem?_eq_some_iff.1 hy).1
    refine ⟨vs.getD fl.offset undef, ?_, ⟨fun z hz => e.ok y (List.mem_of_getElem? hy) z hz, fun hl => k fl.offset y.1 y.2 hy hl⟩⟩
    simp only [execOp, ho, e1]
    simp [Instr.field, run_underlying h1, hq, asAgg, part, h4, hg, Array.getD_eq_getD_getElem?, hlt]
end
end Go.Proofs.Ytlkdkhmdmgchbaa
namespace Go.Proofs.Ytlkdkhmdmgchbaa
set_option linter.unusedSimpArgs false
set_option linter.unusedVariables false
open Go.RowKit

theorem fnd_app : ∀ (a b : Row) (k : Key), fnd (a ++ b) k = (fnd a k).or (fnd b k)
  | [], b, k => by simp [fnd]
  | (k', v) :: a, b, k => by
    simp only [List.cons_append, fnd]
    split
    · rfl
    · exact fnd_app a b k
theorem ovr_ovr (σ : St) (a b : Row) : ovr (ovr σ a) b = ovr σ (b ++ a) := by
  funext k
  simp only [ovr, fnd_app]
  cases fnd b k <;> simp
def crow (n : Nat) : Nat → List AV → Row
  | _, [] => []
  | k, y :: ys => (.cell n k, .av y) :: crow n (k + 1) ys
theorem fnd_crow (n : Nat) : ∀ (ys : List AV) (k m j : Nat), fnd (crow n k ys) (.cell m j) = if m = n ∧ k ≤ j then (ys[j - k]?).map .av else none
  | [], k, m, j => by simp [crow, fnd]
  | y :: ys, k, m, j => by
    simp only [crow, fnd, Key.cell.injEq]
    by_cases h : n = m ∧ k = j
    · obtain ⟨rfl, rfl⟩ := h
      simp
    · rw [if_neg h, fnd_crow n ys (k + 1) m j]
      by_cases h2 : m = n ∧ k + 1 ≤ j
      · rw [if_pos h2, if_pos ⟨h2.1, by omega⟩, show j - k = (j - (k + 1)) + 1 by omega]
        simp
      · rw [if_neg h2, if_neg]
        rintro ⟨rfl, hk⟩
        exact h2 ⟨rfl, by have : k ≠ j := fun e => h ⟨rfl, e⟩; omega⟩
theorem fnd_crow_ne (n : Nat) : ∀ (ys : List AV) (k : Nat) {kk : Key}, (∀ j, kk ≠ .cell n j) → fnd (crow n k ys) kk = none
  | [], k, kk, h => rfl
  | y :: ys, k, kk, h => by
    simp only [crow, fnd]
    rw [if_neg (fun e => h k e.symm)]
    exact fnd_crow_ne n ys (k + 1) h

section
variable {P : Program} {W0 : World} {N : Nat} {G : Gh} {σ : St} {a : Act} {w : World} {Q : Exit → Act → World → Prop} {o : Oper} {L : St} {T : Tab P}
theorem AppOk.below {w' : World} {z E sz : Nat} {rows : List (List D)} (h : AppOk W0 G σ w z E sz rows) (hb : Below w.heap.size w w') : AppOk W0 G σ w' z E sz rows := by
  obtain ⟨vals, ho⟩ := h.own
  refine ⟨⟨vals, World.ownsRow.kept (row := none) ho ⟨hb.os, hb.tape, hb.output, hb.size, fun k hk _ => hb.block k hk⟩ (by cases (G.τ z).ownBlock <;> simp)⟩, h.rep.evo fun g o u hz hc => ⟨hz, cellB hb hc⟩, h.nn, h.zz, h.tt⟩
theorem AppOk.lt {z E sz : Nat} {rows : List (List D)} (h : AppOk W0 G σ w z E sz rows) : ∀ k, (G.τ z).ownBlock = some k → W0.heap.size ≤ k ∧ k < w.heap.size := by
  obtain ⟨vals, ho⟩ := h.own
  exact World.ownsRow.lt ho
/-- a variable is made. -/
theorem ASG.newbox (h : ASG W0 N G σ a w) {n : Nat} (hn : σ (.nm n) = .nm false) (arr : Array Value) (E : TypeId) (ys : List AV) (hs : arr.size = ys.length) (hy : ∀ (i : Nat) (y : AV), ys[i]? = some y → Rep G σ w (arr.getD i undef) y) {dst : Option Tmp} (hd : ∀ d, dst = some d → d < N) :
    ASG W0 N { G with ρ := fun m => if m = n then w.heap.size else G.ρ m } (ovr σ (wr dst (.ptr n 0) ++ ((.nm n, .nm true) :: crow n 0 ys))) (a.put dst (.pointer (some ⟨w.heap.size, 0, none⟩))) (w.alloc (.cells arr E)) := by
  obtain ⟨G', hG⟩ : ∃ G', G' = ({ G with ρ := fun m => if m = n then w.heap.size else G.ρ m } : Gh) := ⟨_, rfl⟩
  obtain ⟨σ', hσ⟩ : ∃ σ', σ' = ovr σ ((.nm n, .nm true) :: crow n 0 ys) := ⟨_, rfl⟩
  have nn : ¬ Nm σ n := by unfold Nm; rw [hn]; simp
  have kz : ∀ z, σ' (.zn z) = σ (.zn z) := fun z => by
    rw [hσ]; simp only [ovr, fnd]
    rw [if_neg (by simp), fnd_crow_ne n ys 0 (fun j => by simp)]
    rfl
  have kt : ∀ t, σ' (.tmp t) = σ (.tmp t) := fun t => by
    rw [hσ]; simp only [ovr, fnd]
    rw [if_neg (by simp), fnd_crow_ne n ys 0 (fun j => by simp)]
    rfl
  have kn : ∀ m, Nm σ' m ↔ Nm σ m ∨ m = n := fun m => by
    rw [hσ]; unfold Nm; simp only [ovr, fnd, Key.nm.injEq]
    by_cases e : n = m
    · subst e; simp
    · rw [if_neg e, fnd_crow_ne n ys 0 (fun j => by simp)]
      simp only [Option.getD_none]
      exact ⟨Or.inl, fun h => h.resolve_right (fun e' => e e'.symm)⟩
  have kc : ∀ m k, σ' (.cell m k) = if m = n ∧ k < ys.length then (match ys[k]? with | some y => .av y | none => .unk) else σ (.cell m k) := fun m k => by
    rw [hσ]; simp only [ovr, fnd]
    rw [if_neg (by simp), fnd_crow]
    simp only [Nat.zero_le, and_true, Nat.sub_zero]
    by_cases e : m = n
    · subst e
      by_cases hk : k < ys.length
      · simp [hk]
      · simp [hk]
    · simp [e]
  have lv : ∀ z, Lv σ' z ↔ Lv σ z := fun z => by unfold Lv; rw [kz]
  have uz : ∀ z, Uz σ' z ↔ Uz σ z := fun z => by unfold Uz; rw [kz]
  have hb := below_alloc w (.cells arr E)
  have ev : Evo G G' σ σ' w (w.alloc (.cells arr E)) := by
    refine ⟨fun z h => (uz z).2 h, fun m hm => ⟨(kn m).2 (.inl hm), ?_⟩, fun z _ hl => ⟨(lv z).1 hl, by rw [hG], by rw [hG], fun g o u _ hc => cellB hb hc⟩⟩
    rw [hG]
    simp only
    rw [if_neg (by rintro rfl; exact nn hm)]
  have ρn : G'.ρ n = w.heap.size := by rw [hG]; simp
  have ρo : ∀ m, m ≠ n → G'.ρ m = G.ρ m := fun m e => by rw [hG]; simp [e]
  have main : ASG W0 N G' σ' a (w.alloc (.cells arr E)) := by
    refine ⟨h.fr.alloc h.fr.size _, h.df, h.sz, fun t x e => ?_, fun m k x e => ?_, fun m hm => ?_, fun m m' hm hm' e => ?_, fun z g off hl hz => ?_, fun z EE sz rows e => ?_, fun z g off h0 hl hz => ⟨(h.new z g off h0 ((lv z).1 hl) (by rw [hG] at hz; exact hz)).1, (h.new z g off h0 ((lv z).1 hl) (by rw [hG] at hz; exact hz)).2.below hb⟩, fun y z g o o' hne hy hz h1 => by rw [hG] at h1 ⊢; exact h.disj y z g o o' hne ((lv y).1 hy) ((lv z).1 hz) h1⟩
    · rw [kt] at e
      obtain ⟨v, h1, h2⟩ := h.tmp t x e
      exact ⟨v, h1, h2.evo ev⟩
    · rw [kc] at e
      by_cases hm : m = n ∧ k < ys.length
      · rw [if_pos hm] at e
        obtain ⟨rfl, hk⟩ := hm
        rw [List.getElem?_eq_getElem hk] at e
        simp only [KV.av.injEq] at e
        subst e
        refine ⟨(kn m).2 (.inr rfl), arr.getD k undef, ?_, ?_, (hy k _ (List.getElem?_eq_getElem hk)).evo ev⟩
        · rw [ρn]
          have : k < arr.size := by omega
          unfold World.cell?
          simp only [heap_alloc_new w (.cells arr E)]
          simp [Array.getD_eq_getD_getElem?, this]
        · rw [ρn]; unfold World.frozen?; simp only [heap_alloc_new w (.cells arr E)]; simp
      · rw [if_neg hm] at e
        obtain ⟨h1, v, h2, h3, h4⟩ := h.cell m k x e
        have hmn : m ≠ n := by rintro rfl; exact nn h1
        refine ⟨(kn m).2 (.inl h1), v, ?_, ?_, h4.evo ev⟩
        · rw [ρo m hmn]; exact cellB hb h2
        · rw [ρo m hmn]
          exact (hb.frozen (p := ⟨G.ρ m, k, none⟩) (World.block_lt_of_cell? _ _ h2)).trans h3
    · rcases (kn m).1 hm with hm | rfl
      · have hmn : m ≠ n := by rintro rfl; exact nn hm
        rw [ρo m hmn]
        have := h.nm m hm
        simp
        omega
      · rw [ρn]
        have := h.fr.size
        simp
        omega
    · by_cases e1 : m = n
      · by_cases e2 : m' = n
        · rw [e1, e2]
        · have := h.nm m' (((kn m').1 hm').resolve_right e2)
          rw [e1, ρn, ρo m' e2] at e
          omega
      · by_cases e2 : m' = n
        · have := h.nm m (((kn m).1 hm).resolve_right e1)
          rw [e2, ρn, ρo m e1] at e
          omega
        · rw [ρo m e1, ρo m' e2] at e
          exact h.inj m m' (((kn m).1 hm).resolve_right e1) (((kn m').1 hm').resolve_right e2) e
    · have hz' : G.ζ z g off := by rw [hG] at hz; exact hz
      obtain ⟨h1, h2⟩ := h.sep z g off ((lv z).1 hl) hz'
      refine ⟨by simp; omega, fun m hm => ?_⟩
      by_cases e1 : m = n
      · rw [e1, ρn]; omega
      · rw [ρo m e1]; exact h2 m (((kn m).1 hm).resolve_right e1)
    · rw [kz] at e
      have hA := (h.app z EE sz rows e).below hb
      have hlt := (h.app z EE sz rows e).lt
      obtain ⟨h1, h2, h3, h4, h5⟩ := hA
      have eτ : G'.τ = G.τ := by rw [hG]
      have eζ : G'.ζ = G.ζ := by rw [hG]
      refine ⟨by rw [eτ]; exact h1, by rw [eτ, eζ]; exact h2, fun k hk m hm => ?_, fun k hk y o hl => ?_, fun k hk y E' sz' rows' e' => ?_⟩
      · rw [eτ] at hk
        by_cases e1 : m = n
        · have := hlt k hk; rw [e1, ρn]; omega
        · rw [ρo m e1]; exact h3 k hk m (((kn m).1 hm).resolve_right e1)
      · rw [eτ] at hk; rw [eζ]; exact h4 k hk y o ((lv y).1 hl)
      · rw [eτ] at hk ⊢; rw [kz] at e'; exact h5 k hk y E' sz' rows' e'
  have := main.put (dst := dst) (v := .pointer (some ⟨w.heap.size, 0, none⟩)) (x := .ptr n 0) hd ⟨(kn n).2 (.inr rfl), by show _ = _; rw [ρn]⟩
  rw [hσ, ovr_ovr] at this
  rw [← hG]
  exact this

/-- a cell of a variable is written. -/
theorem ASG.set1 (h : ASG W0 N G σ a w) {n k : Nat} {y0 y : AV} {v : Value} (hc : σ (.cell n k) = .av y0) (hr : Rep G σ w v y) : ASG W0 N G (ovr σ [(.cell n k, .av y)]) a (w.setCell ⟨G.ρ n, k, none⟩ v) := by
  obtain ⟨σ', hσ⟩ : ∃ σ', σ' = ovr σ [(.cell n k, .av y)] := ⟨_, rfl⟩
  rw [← hσ]
  have ko : ∀ kk, kk ≠ .cell n k → σ' kk = σ kk := fun kk e => by rw [hσ]; simp only [ovr, fnd]; rw [if_neg (fun e' => e e'.symm)]; rfl
  have ks : σ' (.cell n k) = .av y := by rw [hσ]; simp [ovr, fnd]
  have lv : ∀ z, Lv σ' z ↔ Lv σ z := fun z => by unfold Lv; rw [ko _ (by simp)]
  have uz : ∀ z, Uz σ' z ↔ Uz σ z := fun z => by unfold Uz; rw [ko _ (by simp)]
  have nm : ∀ m, Nm σ' m ↔ Nm σ m := fun m => by unfold Nm; rw [ko _ (by simp)]
  obtain ⟨hn, u0, c1, c2, _⟩ := h.cell n k y0 hc
  have ev : Evo G G σ σ' w (w.setCell ⟨G.ρ n, k, none⟩ v) := by
    refine ⟨fun z h => (uz z).2 h, fun m hm => ⟨(nm m).2 hm, rfl⟩, fun z _ hl => ⟨(lv z).1 hl, rfl, rfl, fun g off u hz hcell => ?_⟩⟩
    have := (h.sep z g off ((lv z).1 hl) hz).2 n hn
    rw [World.cell?_setCell_other]
    · exact hcell
    · intro e; cases e; exact this rfl
  have hbw : W0.heap.size ≤ G.ρ n := (h.nm n hn).1
  refine ⟨h.fr.setCell hbw _, h.df, h.sz, fun t x e => ?_, fun m j x e => ?_, fun m hm => ?_, fun m m' hm hm' e => h.inj m m' ((nm m).1 hm) ((nm m').1 hm') e, fun z g off hl hz => ?_, fun z EE sz rows e => ?_, fun z g off h0 hl hz => ⟨(h.new z g off h0 ((lv z).1 hl) hz).1, by
    obtain ⟨cur, t, e⟩ := (h.new z g off h0 ((lv z).1 hl) hz).2
    exact ⟨cur, t, (Below.heap_setCell _ _ _ _ (fun e' => (h.sep z g off ((lv z).1 hl) hz).2 n hn e'.symm)).trans e⟩⟩, fun y z g o o' hne hy hz => h.disj y z g o o' hne ((lv y).1 hy) ((lv z).1 hz)⟩
  · rw [ko _ (by simp)] at e
    obtain ⟨u, h1, h2⟩ := h.tmp t x e
    exact ⟨u, h1, h2.evo ev⟩
  · by_cases he : m = n ∧ j = k
    · obtain ⟨rfl, rfl⟩ := he
      rw [ks] at e
      simp only [KV.av.injEq] at e
      subst e
      refine ⟨(nm m).2 hn, v, World.cell?_setCell_same w _ v c1, ?_, hr.evo ev⟩
      rw [World.frozen?_setCell]; exact c2
    · rw [ko _ (by simp; exact fun a b => he ⟨a, b⟩)] at e
      obtain ⟨h1, u, h2, h3, h4⟩ := h.cell m j x e
      refine ⟨(nm m).2 h1, u, ?_, ?_, h4.evo ev⟩
      · rw [World.cell?_setCell_other]
        · exact h2
        · intro e'
          simp only [Addr.mk.injEq, and_true] at e'
          exact he ⟨(h.inj n m hn h1 e'.1).symm, e'.2.symm⟩
      · rw [World.frozen?_setCell]; exact h3
  · have := h.nm m ((nm m).1 hm); simpa [World.setCell] using this
  · obtain ⟨h1, h2⟩ := h.sep z g off ((lv z).1 hl) hz
    exact ⟨by simpa [World.setCell] using h1, fun m hm => h2 m ((nm m).1 hm)⟩
  · rw [ko _ (by simp)] at e
    obtain ⟨⟨vals, h1⟩, h2, h3, h4, h5⟩ := h.app z EE sz rows e
    have gb : w.grownBy (w.setCell ⟨G.ρ n, k, none⟩ v) (some (G.ρ n)) := ⟨rfl, rfl, rfl, by simp [World.setCell], fun j _ hj => Below.heap_setCell _ _ _ _ (fun e => hj (by rw [e]))⟩
    refine ⟨⟨vals, World.ownsRow.kept h1 gb ?_⟩, h2.evo fun g off u hz hcell => ?_, fun j hj m hm => h3 j hj m ((nm m).1 hm), fun j hj y' o' hl => h4 j hj y' o' ((lv y').1 hl), fun j hj y' E' sz' rows' e' => by
      rw [ko _ (by simp)] at e'; exact h5 j hj y' E' sz' rows' e'⟩
    · cases hob : (G.τ z).ownBlock with
      | none => exact .inl rfl
      | some j => exact .inr (fun e => h3 j hob n hn (Option.some.inj e).symm)
    · refine ⟨hz, ?_⟩
      have := (h.sep z g off (.inr ⟨EE, sz, rows, e⟩) hz).2 n hn
      rw [World.cell?_setCell_other]
      · exact hcell
      · intro e; cases e; exact this rfl
theorem evo_set1 (h : ASG W0 N G σ a w) {n k : Nat} {y0 y : AV} {v : Value} (hc : σ (.cell n k) = .av y0) : Evo G G σ (ovr σ [(.cell n k, .av y)]) w (w.setCell ⟨G.ρ n, k, none⟩ v) := by
  have ko : ∀ kk, kk ≠ .cell n k → ovr σ [(.cell n k, .av y)] kk = σ kk := fun kk e => by simp only [ovr, fnd]; rw [if_neg (fun e' => e e'.symm)]; rfl
  obtain ⟨hn, u0, c1, c2, _⟩ := h.cell n k y0 hc
  refine ⟨fun z h => by unfold Uz; rw [ko _ (by simp)]; exact h, fun m hm => ⟨by unfold Nm; rw [ko _ (by simp)]; exact hm, rfl⟩, fun z _ hl => ?_⟩
  have hl' : Lv σ z := by unfold Lv at hl; rw [ko _ (by simp)] at hl; exact hl
  refine ⟨hl', rfl, rfl, fun g off u hz hcell => ?_⟩
  have := (h.sep z g off hl' hz).2 n hn
  rw [World.cell?_setCell_other]
  · exact hcell
  · intro e; cases e; exact this rfl
end
end Go.Proofs.Ytlkdkhmdmgchbaa
namespace Go.Proofs.Ytlkdkhmdmgchbaa
set_option linter.unusedSimpArgs false
set_option linter.unusedVariables false
open Go.RowKit

section
variable {P : Program} {W0 : World} {N : Nat} {G : Gh} {σ : St} {a : Act} {w : World} {Q : Exit → Act → World → Prop} {o : Oper} {L : St} {T : Tab P}
/-- a value's cells. -/
def oc : AV → Bool
  | .c _ (.v u) => u.oneCell'
  | .c _ (.s ..) => true
  | .own .. => true
  | .ptr .. => true
  | .seg .. => true
  | _ => false
def zsOf : AV → List Nat
  | .c zs _ => zs
  | .own z _ _ => [z]
  | .seg zs _ => zs
  | _ => []
/-- the cells of a value, each of one cell; what that leans on. -/
def spread1 (L : St) (y : AV) : Option Row := if oc y then zr L (zsOf y) else none
def spreadL (L : St) : List (List Nat × D) → Option (Row × List AV)
  | [] => some ([], [])
  | (zs, x) :: cs => match spread1 L (.c zs x), spreadL L cs with
    | some r, some (r', ys) => some (r ++ r', .c zs x :: ys)
    | _, _ => none
def spread (L : St) : AV → Option (Row × List AV)
  | .agg cs => spreadL L cs
  | y => (spread1 L y).map fun r => (r, [y])
theorem spread1_ok {y : AV} {r : Row} {v : Value} (h : spread1 L y = some r) (hr : ∀ kv ∈ r, σ kv.1 = kv.2) (hy : Rep G σ w v y) : v.oneCell' = true := by
  unfold spread1 at h
  split at h
  · rename_i hoc
    have hl := zr_ok h hr
    cases y with
    | c zs x =>
      have := hy.rep hl
      cases x with
      | v u => rw [this.raw]; exact hoc
      | s sz rows => obtain ⟨p, cap, e, _⟩ := this.form; rw [e]; rfl
    | agg cs => simp [oc] at hoc
    | ptr n off => rw [show v = _ from hy.rep]; rfl
    | seg zs ds => obtain ⟨g, off, e, _⟩ := hy.rep hl; rw [e]; rfl
    | tup zs l => simp [oc] at hoc
    | own z sz rows => obtain ⟨_, h2⟩ := hy.rep (hl z (by simp [zsOf])); obtain ⟨p, cap, e, _⟩ := h2.form; rw [e]; rfl
  · cases h
theorem spreadL_ok : ∀ {cs : List (List Nat × D)} {r : Row} {ys : List AV}, spreadL L cs = some (r, ys) → (∀ kv ∈ r, σ kv.1 = kv.2) → ys = cs.map (fun c => .c c.1 c.2) ∧ ∀ y ∈ ys, ∃ r', spread1 L y = some r' ∧ ∀ kv ∈ r', σ kv.1 = kv.2
  | [], r, ys, h, _ => by simp only [spreadL, Option.some.injEq, Prod.mk.injEq] at h; obtain ⟨_, rfl⟩ := h; simp
  | (zs, x) :: cs, r, ys, h, hr => by
    unfold spreadL at h
    split at h
    · rename_i r1 r2 ys' h1 h2
      simp only [Option.some.injEq, Prod.mk.injEq] at h
      obtain ⟨rfl, rfl⟩ := h
      obtain ⟨k1, k2⟩ := spreadL_ok h2 fun kv hkv => hr kv (List.mem_append_right _ hkv)
      refine ⟨by simp [k1], fun y hy => ?_⟩
      rcases List.mem_cons.1 hy with rfl | hy
      · exact ⟨r1, h1, fun kv hkv => hr kv (List.mem_append_left _ hkv)⟩
      · exact k2 y hy
    · cases h
theorem spread_ok {x : AV} {r : Row} {ys : List AV} {v : Value} (h : spread L x = some (r, ys)) (hr : ∀ kv ∈ r, σ kv.1 = kv.2) (hx : Rep G σ w v x) :
    v.cells.size = ys.length ∧ ∀ (i : Nat) (y : AV), ys[i]? = some y → Rep G σ w (v.cells.getD i undef) y ∧ (v.cells.getD i undef).oneCell' = true := by
  have one : ∀ {x : AV} {r : Row}, spread1 L x = some r → (∀ kv ∈ r, σ kv.1 = kv.2) → Rep G σ w v x → v.cells.size = 1 ∧ ∀ (i : Nat) (y : AV), [x][i]? = some y → Rep G σ w (v.cells.getD i undef) y ∧ (v.cells.getD i undef).oneCell' = true := by
    intro x r h hr hx
    have h1 := spread1_ok h hr hx
    have e : v.cells = #[v] := by cases v <;> simp_all [Value.cells, Value.oneCell']
    rw [e]
    refine ⟨rfl, fun i y hi => ?_⟩
    cases i with
    | zero => simp at hi; subst hi; exact ⟨hx, h1⟩
    | succ i => simp at hi
  cases x with
  | agg cs =>
    obtain ⟨k1, k2⟩ := spreadL_ok h hr
    obtain ⟨vs, rfl, e2, k⟩ := hx.rep
    refine ⟨by rw [k1]; simp [Value.cells, e2], fun i y hi => ?_⟩
    have hm := List.mem_of_getElem? hi
    rw [k1, List.getElem?_map, Option.map_eq_some_iff] at hi
    obtain ⟨⟨zs, x⟩, hi, rfl⟩ := hi
    have hR : Rep G σ w (vs.getD i undef) (.c zs x) := ⟨fun z hz => hx.ok _ (List.mem_of_getElem? hi) z hz, k i zs x hi⟩
    obtain ⟨r', h1, h2⟩ := k2 _ hm
    exact ⟨hR, spread1_ok h1 h2 hR⟩
  | c zs x =>
    simp only [spread, Option.map_eq_some_iff, Prod.mk.injEq] at h
    obtain ⟨r', h1, rfl, rfl⟩ := h
    exact one h1 hr hx
  | ptr n off =>
    simp only [spread, Option.map_eq_some_iff, Prod.mk.injEq] at h
    obtain ⟨r', h1, rfl, rfl⟩ := h
    exact one h1 hr hx
  | seg zs ds =>
    simp only [spread, Option.map_eq_some_iff, Prod.mk.injEq] at h
    obtain ⟨r', h1, rfl, rfl⟩ := h
    exact one h1 hr hx
  | tup zs l =>
    simp only [spread, Option.map_eq_some_iff, Prod.mk.injEq] at h
    obtain ⟨r', h1, rfl, rfl⟩ := h
    exact one h1 hr hx
  | own z sz rows =>
    simp only [spread, Option.map_eq_some_iff, Prod.mk.injEq] at h
    obtain ⟨r', h1, rfl, rfl⟩ := h
    exact one h1 hr hx

theorem op_alloc {t : TypeId} {ti : TI} {n : Nat} (ho : o.op = .alloc t) (ht : T.f t = some ti) (hn : L (.nm n) = .nm false) (hd : ∀ d, o.dst = some d → d < N) :
    OpOk P W0 N Q o ⟨[(.nm n, .nm false)], wr o.dst (.ptr n 0) ++ ((.nm n, .nm true) :: crow n 0 ((zds ti.zero.cells.toList ti.hint).map fun d => .c [] d))⟩ := by
  intro σ a w K ⟨G, hA⟩ hr hK
  have h1 := (T.ok t ti ht).run_zero w
  have hn' := hr (.nm n, .nm false) (by simp)
  unfold Oper.wp
  have e : (execOp a.eval o).run P w = .ok (.value (.pointer (some ⟨w.heap.size, 0, none⟩))) (w.alloc (.cells ti.zero.cells t)) := by
    simp [execOp, ho, Instr.alloc, h1, newVar, newRow]
  rw [e]
  refine hK _ _ ⟨_, hA.newbox hn' ti.zero.cells t _ (by simp [zds_len]) (fun i y hi => ?_) hd⟩
  rw [List.getElem?_map, Option.map_eq_some_iff] at hi
  obtain ⟨d, hi, rfl⟩ := hi
  obtain ⟨v, hv, hd'⟩ := zds_get _ _ _ _ hi
  rw [Array.getElem?_toList] at hv
  rw [Array.getD_eq_getD_getElem?, hv]
  exact ⟨fun z hz => absurd hz (by simp), fun _ => hd' _ _⟩
theorem op_box {t : TypeId} {x : Operand} {r r' : Row} {y : AV} {ys : List AV} {n : Nat} (ho : o.op = .box t x) (hx : opd L x = some (r, y)) (hs : spread L y = some (r', ys)) (hn : L (.nm n) = .nm false) (hd : ∀ d, o.dst = some d → d < N) :
    OpOk P W0 N Q o ⟨(.nm n, .nm false) :: (r ++ r'), wr o.dst (.ptr n 0) ++ ((.nm n, .nm true) :: crow n 0 ys)⟩ := by
  intro σ a w K ⟨G, hA⟩ hr hK
  have hn' := hr (.nm n, .nm false) (by simp)
  have e := opd_ok hx hA fun kv hkv => hr kv (List.mem_cons_of_mem _ (List.mem_append_left _ hkv))
  obtain ⟨k1, k2⟩ := spread_ok hs (fun kv hkv => hr kv (List.mem_cons_of_mem _ (List.mem_append_right _ hkv))) e
  unfold Oper.wp
  have e : (execOp a.eval o).run P w = .ok (.value (.pointer (some ⟨w.heap.size, 0, none⟩))) (w.alloc (.cells (a.eval x).cells t)) := by
    simp [execOp, ho, Instr.box, newVar, newRow]
  rw [e]
  exact hK _ _ ⟨_, hA.newbox hn' (a.eval x).cells t ys k1 (fun i y hi => (k2 i y hi).1) hd⟩
/-- the cells are there. -/
def ex (L : St) (n : Nat) : Nat → Nat → Option Row
  | _, 0 => some []
  | off, c + 1 => match L (.cell n off) with
    | .av x => (ex L n (off + 1) c).map ((.cell n off, .av x) :: ·)
    | _ => none
theorem ex_ok {n : Nat} : ∀ {c off : Nat} {r : Row}, ex L n off c = some r → (∀ kv ∈ r, σ kv.1 = kv.2) → ∀ j, j < c → ∃ y, σ (.cell n (off + j)) = .av y
  | 0, off, r, _, _, j, hj => by omega
  | c + 1, off, r, h, hr, j, hj => by
    unfold ex at h
    split at h
    · rename_i x hx
      rw [Option.map_eq_some_iff] at h
      obtain ⟨r', h1, rfl⟩ := h
      cases j with
      | zero => exact ⟨x, hr (.cell n off, .av x) List.mem_cons_self⟩
      | succ j =>
        have := ex_ok h1 (fun kv hkv => hr kv (List.mem_cons_of_mem _ hkv)) j (by omega)
        rwa [show off + 1 + j = off + (j + 1) by omega] at this
    · cases h
theorem crow_step (σ : St) (n k : Nat) (y : AV) (ys : List AV) : ovr (ovr σ [(.cell n k, .av y)]) (crow n (k + 1) ys) = ovr σ (crow n k (y :: ys)) := by
  rw [ovr_ovr]
  funext kk
  simp only [ovr, fnd_app, crow]
  cases kk with
  | cell m j =>
    simp only [fnd, Key.cell.injEq]
    by_cases h : n = m ∧ k = j
    · obtain ⟨rfl, rfl⟩ := h
      rw [fnd_crow, if_neg (by omega)]
      simp
    · rw [if_neg h, if_neg h]
      cases fnd (crow n (k + 1) ys) (.cell m j) <;> simp
  | _ => simp [fnd, fnd_crow_ne]
theorem run_stores {n : Nat} : ∀ (ys : List AV) (vs : List Value) (off : Nat) (base i : Nat) (σ : St) (w : World), base + i = off → ASG W0 N G σ a w → (∀ j, j < ys.length → ∃ y0, σ (.cell n (off + j)) = .av y0) → vs.length = ys.length →
    (∀ (j : Nat) (y : AV), ys[j]? = some y → Rep G σ w (vs.getD j undef) y ∧ (vs.getD j undef).oneCell' = true) →
    ∃ w', (storeCells ⟨G.ρ n, base, none⟩ vs i).run P w = .ok () w' ∧ ASG W0 N G (ovr σ (crow n off ys)) a w'
  | [], vs, off, base, i, σ, w, _, hA, _, hl, _ => by
    obtain rfl : vs = [] := List.eq_nil_of_length_eq_zero (by simpa using hl)
    refine ⟨w, rfl, ?_⟩
    have : ovr σ (crow n off []) = σ := by funext k; simp [ovr, crow, fnd]
    rw [this]; exact hA
  | y :: ys, [], off, base, i, σ, w, _, hA, _, hl, _ => by simp at hl
  | y :: ys, v :: vs, off, base, i, σ, w, hb, hA, he, hl, hy => by
    obtain ⟨y0, hc⟩ := he 0 (by simp)
    simp only [Nat.add_zero] at hc
    obtain ⟨hn, u, c1, c2, _⟩ := hA.cell n off y0 hc
    obtain ⟨h1, h2⟩ := hy 0 y rfl
    simp only [List.getD_cons_zero] at h1 h2
    have hA' := hA.set1 hc h1
    have ev := evo_set1 (y := y) (v := v) hA hc
    obtain ⟨w', k1, k2⟩ := run_stores ys vs (off + 1) base (i + 1) _ _ (by omega) hA' (fun j hj => by
      obtain ⟨y1, hy1⟩ := he (j + 1) (by simp; omega)
      refine ⟨y1, ?_⟩
      simp only [ovr, fnd, Key.cell.injEq]
      rw [if_neg (by omega)]
      rw [show off + 1 + j = off + (j + 1) by omega]
      exact hy1) (by simpa using hl) (fun j y' hj => by
      obtain ⟨a1, a2⟩ := hy (j + 1) y' (by simpa using hj)
      simp only [List.getD_cons_succ] at a1 a2
      exact ⟨a1.evo ev, a2⟩)
    refine ⟨w', ?_, by rw [← crow_step]; exact k2⟩
    have hst : (store ((⟨G.ρ n, base, none⟩ : Addr).add i) v).run P w = .ok () (w.setCell ⟨G.ρ n, off, none⟩ v) := by
      rw [add_none, hb, run_store P w _ v _ h2, c1]
      simp [c2]
    simp only [storeCells, Sem.run_bind, hst, Result.andThen_ok]
    exact k1
theorem op_store {t : TypeId} {ti : TI} {x v : Operand} {r r1 r2 r3 : Row} {n off : Nat} {y : AV} {ys : List AV} (ho : o.op = .store t x v) (ht : T.f t = some ti) (hx : opd L x = some (r, .ptr n off)) (hv : opd L v = some (r1, y)) (hs : spread L y = some (r2, ys)) (hl : ys.length = ti.size)
    (he : ex L n off ti.size = some r3) (hdst : o.dst = none) : OpOk P W0 N Q o ⟨r ++ (r1 ++ (r2 ++ r3)), crow n off ys⟩ := by
  intro σ a w K ⟨G, hA⟩ hr hK
  have e1 := opd_ok hx hA fun kv hkv => hr kv (List.mem_append_left _ hkv)
  have e2 := opd_ok hv hA fun kv hkv => hr kv (List.mem_append_right _ (List.mem_append_left _ hkv))
  obtain ⟨k1, k2⟩ := spread_ok hs (fun kv hkv => hr kv (List.mem_append_right _ (List.mem_append_right _ (List.mem_append_left _ hkv)))) e2
  have k3 := ex_ok he (fun kv hkv => hr kv (List.mem_append_right _ (List.mem_append_right _ (List.mem_append_right _ hkv))))
  obtain ⟨w', h1, h2⟩ := run_stores (P := P) (n := n) ys (a.eval v).cells.toList off off 0 σ w (by omega) hA (fun j hj => k3 j (by omega)) (by simpa using k1) (fun j y hj => by
    obtain ⟨a1, a2⟩ := k2 j y hj
    have : (a.eval v).cells.toList.getD j undef = (a.eval v).cells.getD j undef := by simp [List.getD, Array.getD_eq_getD_getElem?]
    rw [this]; exact ⟨a1, a2⟩)
  have hsz := (T.ok t ti ht).run_size w
  have hne : (a.eval v).cells.size = ti.size := by rw [k1, hl]
  unfold Oper.wp
  have e : (execOp a.eval o).run P w = .ok .skip w' := by
    simp only [execOp, ho]
    rw [show a.eval x = .pointer (some ⟨G.ρ n, off, none⟩) from e1.rep]
    simp [Instr.storeAt, Instr.sureAddr, storeVar, hsz, hne, h1]
  rw [e]
  simp only [Oper.upon, hdst, Act.put]
  exact hK _ _ ⟨G, h2⟩
end
end Go.Proofs.Ytlkdkhmdmgchbaa
namespace Go.Proofs.Ytlkdkhmdmgchbaa
set_option linter.unusedSimpArgs false
set_option linter.unusedVariables false
open Go.RowKit

section
variable {P : Program} {W0 : World} {N : Nat} {G : Gh} {σ : St} {a : Act} {w : World} {Q : Exit → Act → World → Prop} {o : Oper} {L : St} {T : Tab P}
/-- something new comes, in blocks of its own. -/
theorem ASG.newzone {w' : World} (h : ASG W0 N G σ a w) {z : Nat} (hz : σ (.zn z) = .zn .free) (B : Below w.heap.size w w') (Zn : Zone) (hZ : ∀ g o, Zn g o → w.heap.size ≤ g ∧ Soft w' g) (st : ZS) (tv : Value)
    (hst : st = .live ∨ ∃ E sz rows vals, st = .app E sz rows ∧ w'.ownsRow w.heap.size E sz tv rows.length vals ∧ RepD Zn w' tv (.s sz rows) ∧ ∀ k, tv.ownBlock = some k → ∀ o, Zn k o → o < rows.length * sz) :
    ASG W0 N { G with ζ := fun y => if y = z then Zn else G.ζ y, τ := fun y => if y = z then tv else G.τ y } (ovr σ [(.zn z, .zn st)]) a w' ∧
    Evo G { G with ζ := fun y => if y = z then Zn else G.ζ y, τ := fun y => if y = z then tv else G.τ y } σ (ovr σ [(.zn z, .zn st)]) w w' := by
  obtain ⟨G', hG⟩ : ∃ G', G' = ({ G with ζ := fun y => if y = z then Zn else G.ζ y, τ := fun y => if y = z then tv else G.τ y } : Gh) := ⟨_, rfl⟩
  obtain ⟨σ', hσ⟩ : ∃ σ', σ' = ovr σ [(.zn z, .zn st)] := ⟨_, rfl⟩
  rw [← hG, ← hσ]
  have ko : ∀ kk, kk ≠ .zn z → σ' kk = σ kk := fun kk e => by rw [hσ]; simp only [ovr, fnd]; rw [if_neg (fun e' => e e'.symm)]; rfl
  have ks : σ' (.zn z) = .zn st := by rw [hσ]; simp [ovr, fnd]
  have nuz : ¬ Uz σ z := fun h => h hz
  have nlv : ¬ Lv σ z := fun h => nuz h.used
  have lvs : Lv σ' z := by
    unfold Lv; rw [ks]
    rcases hst with rfl | ⟨E, sz, rows, vals, rfl, _⟩
    · exact .inl rfl
    · exact .inr ⟨_, _, _, rfl⟩
  have lv : ∀ y, y ≠ z → (Lv σ' y ↔ Lv σ y) := fun y e => by unfold Lv; rw [ko _ (by simpa using e)]
  have nm : ∀ m, Nm σ' m ↔ Nm σ m := fun m => by unfold Nm; rw [ko _ (by simp)]
  have eρ : G'.ρ = G.ρ := by rw [hG]
  have eζs : G'.ζ z = Zn := by rw [hG]; simp
  have eτs : G'.τ z = tv := by rw [hG]; simp
  have eζ : ∀ y, y ≠ z → G'.ζ y = G.ζ y := fun y e => by rw [hG]; simp [e]
  have eτ : ∀ y, y ≠ z → G'.τ y = G.τ y := fun y e => by rw [hG]; simp [e]
  have ev : Evo G G' σ σ' w w' := by
    refine ⟨fun y hy => ?_, fun m hm => ⟨(nm m).2 hm, by rw [eρ]⟩, fun y hy hl => ?_⟩
    · have e : y ≠ z := by rintro rfl; exact nuz hy
      unfold Uz; rw [ko _ (by simpa using e)]; exact hy
    · have e : y ≠ z := by rintro rfl; exact nuz hy
      exact ⟨(lv y e).1 hl, eζ y e, eτ y e, fun g off u _ hc => cellB B hc⟩
  have hfr := h.fr.size
  refine ⟨⟨bel_step h.fr B, h.df, h.sz, fun t x e => ?_, fun m k x e => ?_, fun m hm => ?_, fun m m' hm hm' e => ?_, fun y g off hl hg => ?_, fun y EE sz rows e => ?_, fun y g off h0 hl hg => ?_, fun y1 y2 g off off' hne hy1 hy2 h1 h2 => ?_⟩, ev⟩
  · rw [ko _ (by simp)] at e
    obtain ⟨v, h1, h2⟩ := h.tmp t x e
    exact ⟨v, h1, h2.evo ev⟩
  · rw [ko _ (by simp)] at e
    obtain ⟨h1, v, h2, h3, h4⟩ := h.cell m k x e
    rw [eρ]
    exact ⟨(nm m).2 h1, v, cellB B h2, (B.frozen (p := ⟨G.ρ m, k, none⟩) (World.block_lt_of_cell? _ _ h2)).trans h3, h4.evo ev⟩
  · rw [eρ]
    have := h.nm m ((nm m).1 hm)
    have := B.size
    omega
  · rw [eρ] at e
    exact h.inj m m' ((nm m).1 hm) ((nm m').1 hm') e
  · by_cases hy : y = z
    · subst hy
      rw [eζs] at hg
      obtain ⟨h1, h2⟩ := hZ g off hg
      refine ⟨h2.lt, fun m hm => ?_⟩
      rw [eρ]
      have := h.nm m ((nm m).1 hm)
      omega
    · rw [eζ y hy] at hg
      obtain ⟨h1, h2⟩ := h.sep y g off ((lv y hy).1 hl) hg
      have := B.size
      exact ⟨by omega, fun m hm => by rw [eρ]; exact h2 m ((nm m).1 hm)⟩
  · by_cases hy : y = z
    · subst hy
      rw [ks] at e
      rcases hst with rfl | ⟨E', sz', rows', vals, rfl, o1, o2, o3⟩
      · cases e
      · cases e
        have own1 := World.ownsRow.lt o1
        refine ⟨⟨vals, ?_⟩, by rw [eζs, eτs]; exact o2, fun k hk m hm => ?_, fun k hk y' o' hl hg => ?_, fun k hk y' E2 sz2 rows2 e2 hne hk2 => ?_⟩
        · rw [eτs]
          refine ⟨o1.1, ?_⟩
          rcases o1.2 with o1 | ⟨g, cap, cur, q1, q2, q3⟩
          · exact .inl o1
          · exact .inr ⟨g, cap, cur, q1, by omega, q3⟩
        · rw [eτs] at hk
          rw [eρ]
          have := h.nm m ((nm m).1 hm)
          have := own1 k hk
          omega
        · rw [eτs] at hk
          by_cases hy' : y' = y
          · subst hy'; rw [eζs] at hg; exact ⟨rfl, o3 k hk o' hg⟩
          · rw [eζ y' hy'] at hg
            have := (h.sep y' k o' ((lv y' hy').1 hl) hg).1
            have := own1 k hk
            omega
        · rw [eτs] at hk
          rw [eτ y' hne] at hk2
          rw [ko _ (by simpa using hne)] at e2
          have := (h.app y' E2 sz2 rows2 e2).lt k hk2
          have := own1 k hk
          omega
    · rw [ko _ (by simpa using hy)] at e
      have hlt := (h.app y EE sz rows e).lt
      obtain ⟨h1, h2, h3, h4, h5⟩ := (h.app y EE sz rows e).below B
      refine ⟨by rw [eτ y hy]; exact h1, by rw [eτ y hy, eζ y hy]; exact h2, fun k hk m hm => ?_, fun k hk y' o' hl hg => ?_, fun k hk y' E2 sz2 rows2 e2 hne hk2 => ?_⟩
      · rw [eτ y hy] at hk; rw [eρ]; exact h3 k hk m ((nm m).1 hm)
      · rw [eτ y hy] at hk
        by_cases hy' : y' = z
        · subst hy'
          rw [eζs] at hg
          have := (hZ k o' hg).1
          have := hlt k hk
          omega
        · rw [eζ y' hy'] at hg; exact h4 k hk y' o' ((lv y' hy').1 hl) hg
      · rw [eτ y hy] at hk
        by_cases hy' : y' = z
        · subst hy'
          rw [ks] at e2
          rw [eτs] at hk2
          rcases hst with rfl | ⟨E', sz', rows', vals, rfl, o1, o2, o3⟩
          · cases e2
          · have := World.ownsRow.lt o1 k hk2
            have := hlt k hk
            omega
        · rw [eτ y' hy'] at hk2
          rw [ko _ (by simpa using hy')] at e2
          exact h5 k hk y' E2 sz2 rows2 e2 hne hk2
  · by_cases hy : y = z
    · subst hy
      rw [eζs] at hg
      have := hZ g off hg
      exact ⟨by omega, this.2⟩
    · rw [eζ y hy] at hg
      have := h.new y g off h0 ((lv y hy).1 hl) hg
      exact ⟨this.1, this.2.below B⟩
  · by_cases e1 : y1 = z
    · subst e1
      rw [eζs] at h1
      rw [eζ y2 (fun e => hne e.symm)] at h2
      have := (hZ g off h1).1
      have := (h.sep y2 g off' ((lv y2 (fun e => hne e.symm)).1 hy2) h2).1
      omega
    · rw [eζ y1 e1] at h1
      by_cases e2 : y2 = z
      · subst e2
        rw [eζs] at h2
        have := (hZ g off' h2).1
        have := (h.sep y1 g off ((lv y1 e1).1 hy1) h1).1
        omega
      · rw [eζ y2 e2] at h2
        exact h.disj y1 y2 g off off' hne ((lv y1 e1).1 hy1) ((lv y2 e2).1 hy2) h1 h2

/-- a function's contract: off arguments that read as these data it returns what reads as that, in blocks of its own, and writes nothing that was there. -/
def Ct (P : Program) (f : FuncId) (args : List DV) (app : Option TypeId) (res : Res) : Prop :=
  ∀ (Z : Zone) (w : World) (vs : Array Value), vs.size = args.length → (∀ (i : Nat) (x : DV), args[i]? = some x → RepDV Z w (vs.getD i undef) x) →
    Calls P f vs w fun e w' => ∃ v Zn, e = .returned v ∧ Below w.heap.size w w' ∧ (∀ g o, Zn g o → w.heap.size ≤ g ∧ Soft w' g) ∧ RepR Zn w' v res ∧
      ∀ E, app = some E → ∃ sz rows vals, res = .one (.c (.s sz rows)) ∧ w'.ownsRow w.heap.size E sz v rows.length vals ∧ ∀ k, v.ownBlock = some k → ∀ o, Zn k o → o < rows.length * sz
/-- an argument's data. -/
def zrL (L : St) : List (List Nat × D) → Option Row
  | [] => some []
  | (zs, _) :: cs => match zr L zs, zrL L cs with
    | some r, some r' => some (r ++ r')
    | _, _ => none
def dvOf (L : St) : AV → Option (Row × DV)
  | .c zs x => (zr L zs).map fun r => (r, .c x)
  | .own z sz rows => (zr L [z]).map fun r => (r, .c (.s sz rows))
  | .agg cs => (zrL L cs).map fun r => (r, .agg (cs.map (·.2)))
  | _ => none
def argsOf (L : St) : List Operand → Option (Row × List DV)
  | [] => some ([], [])
  | x :: xs => match opd L x with
    | some (r, y) => match dvOf L y, argsOf L xs with
      | some (r1, d), some (r2, ds) => some (r ++ (r1 ++ r2), d :: ds)
      | _, _ => none
    | none => none
def zall (G : Gh) (σ : St) : Zone := fun g o => ∃ z, Lv σ z ∧ G.ζ z g o
theorem zu_all {zs : List Nat} (hl : ∀ z ∈ zs, Lv σ z) {v : Value} {x : D} (h : RepD (G.zu zs) w v x) : RepD (zall G σ) w v x := h.evo fun g o u ⟨z, hz, hg⟩ hc => ⟨⟨z, hl z hz, hg⟩, hc⟩
theorem zrL_ok : ∀ {cs : List (List Nat × D)} {r : Row}, zrL L cs = some r → (∀ kv ∈ r, σ kv.1 = kv.2) → ∀ c ∈ cs, ∀ z ∈ c.1, Lv σ z
  | [], r, _, _, c, hc => by cases hc
  | (zs, x) :: cs, r, h, hr, c, hc => by
    unfold zrL at h
    split at h
    · rename_i r1 r2 h1 h2
      simp only [Option.some.injEq] at h
      subst h
      rcases List.mem_cons.1 hc with rfl | hc
      · exact zr_ok h1 fun kv hkv => hr kv (List.mem_append_left _ hkv)
      · exact zrL_ok h2 (fun kv hkv => hr kv (List.mem_append_right _ hkv)) c hc
    · cases h
theorem dvOf_ok {x : AV} {r : Row} {d : DV} {v : Value} (h : dvOf L x = some (r, d)) (hr : ∀ kv ∈ r, σ kv.1 = kv.2) (hx : Rep G σ w v x) : RepDV (zall G σ) w v d := by
  cases x with
  | c zs x =>
    simp only [dvOf, Option.map_eq_some_iff, Prod.mk.injEq] at h
    obtain ⟨r', h1, rfl, rfl⟩ := h
    exact zu_all (zr_ok h1 hr) (hx.rep (zr_ok h1 hr))
  | own z sz rows =>
    simp only [dvOf, Option.map_eq_some_iff, Prod.mk.injEq] at h
    obtain ⟨r', h1, rfl, rfl⟩ := h
    have hl := zr_ok h1 hr
    exact zu_all hl (zu_one (hx.rep (hl z (by simp))).2)
  | agg cs =>
    simp only [dvOf, Option.map_eq_some_iff, Prod.mk.injEq] at h
    obtain ⟨r', h1, rfl, rfl⟩ := h
    have hl := zrL_ok h1 hr
    obtain ⟨vs, e, e2, k⟩ := hx.rep
    refine ⟨vs, e, by simp [e2], fun i x hi => ?_⟩
    rw [List.getElem?_map, Option.map_eq_some_iff] at hi
    obtain ⟨⟨zs, y⟩, hi, rfl⟩ := hi
    have hz := hl _ (List.mem_of_getElem? hi)
    exact zu_all hz (k i zs y hi hz)
  | _ => simp [dvOf] at h
theorem argsOf_ok : ∀ {xs : List Operand} {r : Row} {ds : List DV}, argsOf L xs = some (r, ds) → ASG W0 N G σ a w → (∀ kv ∈ r, σ kv.1 = kv.2) →
    xs.length = ds.length ∧ ∀ (i : Nat) (d : DV), ds[i]? = some d → RepDV (zall G σ) w ((xs.map a.eval).getD i undef) d
  | [], r, ds, h, _, _ => by simp only [argsOf, Option.some.injEq, Prod.mk.injEq] at h; obtain ⟨_, rfl⟩ := h; simp
  | x :: xs, r, ds, h, hA, hr => by
    unfold argsOf at h
    split at h
    · rename_i r0 y h0
      split at h
      · rename_i r1 d r2 ds' h1 h2
        simp only [Option.some.injEq, Prod.mk.injEq] at h
        obtain ⟨rfl, rfl⟩ := h
        have e := dvOf_ok h1 (fun kv hkv => hr kv (List.mem_append_right _ (List.mem_append_left _ hkv))) (opd_ok h0 hA fun kv hkv => hr kv (List.mem_append_left _ hkv))
        obtain ⟨k1, k2⟩ := argsOf_ok h2 hA fun kv hkv => hr kv (List.mem_append_right _ (List.mem_append_right _ hkv))
        refine ⟨by simp [k1], fun i d' hi => ?_⟩
        cases i with
        | zero => simp only [List.getElem?_cons_zero, Option.some.injEq] at hi; subst hi; exact e
        | succ i => simpa using k2 i d' (by simpa using hi)
      · cases h
    · cases h
def callOk (P : Program) (f : FuncId) : Bool := match P.funcs[f]? with
  | some fn => !(fn.name == "runtime.NumGoroutine") && fn.body.isSome
  | none => false
theorem run_call {ρ : Operand → Value} {c : Call} {f : FuncId} (ho : o.op = .call c) (hc : c.callee = .value (.func f)) (hρ : ρ (.func f) = .func (.func f) #[] #[]) (hf : callOk P f = true) (w : World) : (execOp ρ o).run P w = .ok (.enter f (c.args.map ρ)) w := by
  unfold callOk at hf
  split at hf
  · rename_i fn hfn
    simp only [Bool.and_eq_true, Bool.not_eq_true'] at hf
    have hb : fn.body.isNone = false := by cases h : fn.body <;> simp_all
    have hn := hf.1
    simp only [execOp, ho, resolve, hc, hρ, Deferred.ofValue, invoke, callFunc, Sem.run_bind, Sem.run_pure, Result.andThen_ok, run_program, hfn, hn, hb, Bool.false_eq_true, if_false]
    simp
  · cases hf
/-- what a call's result is in the frame. -/
def resAV (z : Nat) (app : Option TypeId) : Res → AV
  | .one (.c (.s sz rows)) => match app with
    | some _ => .own z sz rows
    | none => .c [z] (.s sz rows)
  | .one x => atz [z] x
  | .tup l => .tup [z] l
def resZ (app : Option TypeId) : Res → ZS
  | .one (.c (.s sz rows)) => match app with
    | some E => .app E sz rows
    | none => .live
  | _ => .live
/-- does a result lean on memory? -/
def D.isV : D → Bool
  | .v _ => true
  | .s .. => false
def DV.isV : DV → Bool
  | .c x => x.isV
  | .agg cs => cs.all (·.isV)
def Res.isV : Res → Bool
  | .one x => x.isV
  | .tup l => l.all (·.isV)
theorem D.isV_rep {Z Z' : Zone} {w w' : World} {v : Value} {x : D} (hv : x.isV = true) (h : RepD Z w v x) : RepD Z' w' v x := by
  cases x with
  | v u => rw [h.raw]; exact .v u
  | s => cases hv
theorem DV.isV_rep {Z Z' : Zone} {w w' : World} {v : Value} {x : DV} (hv : x.isV = true) (h : RepDV Z w v x) : RepDV Z' w' v x := by
  cases x with
  | c x => exact D.isV_rep hv h
  | agg cs =>
    obtain ⟨vs, e, e2, k⟩ := h
    simp only [DV.isV, List.all_eq_true] at hv
    exact ⟨vs, e, e2, fun i x hi => D.isV_rep (hv x (List.mem_of_getElem? hi)) (k i x hi)⟩
theorem Res.isV_rep {Z Z' : Zone} {w w' : World} {v : Value} {x : Res} (hv : x.isV = true) (h : RepR Z w v x) : RepR Z' w' v x := by
  cases x with
  | one x => exact DV.isV_rep hv h
  | tup l =>
    obtain ⟨vs, e, e2, k⟩ := h
    simp only [Res.isV, List.all_eq_true] at hv
    exact ⟨vs, e, e2, fun i x hi => DV.isV_rep (hv x (List.mem_of_getElem? hi)) (k i x hi)⟩
theorem ASG.below {w' : World} (h : ASG W0 N G σ a w) (B : Below w.heap.size w w') : ASG W0 N G σ a w' ∧ Evo G G σ σ w w' := by
  have ev : Evo G G σ σ w w' := ⟨fun _ h => h, fun _ h => ⟨h, rfl⟩, fun _ _ h => ⟨h, rfl, rfl, fun _ _ _ _ hc => cellB B hc⟩⟩
  have hs := B.size
  refine ⟨⟨bel_step h.fr B, h.df, h.sz, fun t x e => ?_, fun m k x e => ?_, fun m hm => ?_, h.inj, fun y g off hl hg => ?_, fun y EE sz rows e => (h.app y EE sz rows e).below B, fun z g o h0 hl hz => ⟨(h.new z g o h0 hl hz).1, (h.new z g o h0 hl hz).2.below B⟩, h.disj⟩, ev⟩
  · obtain ⟨v, h1, h2⟩ := h.tmp t x e; exact ⟨v, h1, h2.evo ev⟩
  · obtain ⟨h1, v, h2, h3, h4⟩ := h.cell m k x e
    exact ⟨h1, v, cellB B h2, (B.frozen (p := ⟨G.ρ m, k, none⟩) (World.block_lt_of_cell? _ _ h2)).trans h3, h4.evo ev⟩
  · have := h.nm m hm; omega
  · obtain ⟨h1, h2⟩ := h.sep y g off hl hg; exact ⟨by omega, h2⟩
/-- a result as it stands, without a zone. -/
def resV : Res → AV
  | .one x => atz [] x
  | .tup l => .tup [] l
theorem op_callv {f : FuncId} {args : Array Operand} {ats : Array TypeId} {r : Row} {ds : List DV} {res : Res} (ho : o.op = .call { callee := .value (.func f), args := args, argTypes := ats }) (hf : callOk P f = true) (hargs : argsOf L args.toList = some (r, ds)) (hc : Ct P f ds none res) (hv : res.isV = true) (hd : ∀ d, o.dst = some d → d < N) :
    OpOk P W0 N Q o ⟨r, wr o.dst (resV res)⟩ := by
  intro σ a w K ⟨G, hA⟩ hr hK
  obtain ⟨k1, k2⟩ := argsOf_ok hargs hA hr
  unfold Oper.wp
  rw [run_call ho rfl rfl hf w]
  refine Calls.mono (hc (zall G σ) w (args.map a.eval) (by simpa using k1) (fun i x hi => ?_)) ?_
  · have := k2 i x hi
    have e : (args.map a.eval).getD i undef = (args.toList.map a.eval).getD i undef := by simp [Array.getD_eq_getD_getElem?, List.getD]
    rw [e]; exact this
  · rintro e w' ⟨v, Zn, rfl, B, _, hres, _⟩
    refine hK _ _ ⟨G, (hA.below B).1.put hd ?_⟩
    cases res with
    | one x => exact atz_rep (fun z hz => absurd hz (by simp)) (Res.isV_rep hv hres : RepR _ w' v (.one x))
    | tup l => exact ⟨fun z hz => absurd hz (by simp), fun _ => Res.isV_rep hv hres⟩
theorem op_call {f : FuncId} {args : Array Operand} {ats : Array TypeId} {r : Row} {ds : List DV} {app : Option TypeId} {res : Res} {z : Nat} (ho : o.op = .call { callee := .value (.func f), args := args, argTypes := ats }) (hf : callOk P f = true) (hargs : argsOf L args.toList = some (r, ds)) (hc : Ct P f ds app res)
    (hz : L (.zn z) = .zn .free) (hd : ∀ d, o.dst = some d → d < N) : OpOk P W0 N Q o ⟨(.zn z, .zn .free) :: r, wr o.dst (resAV z app res) ++ [(.zn z, .zn (resZ app res))]⟩ := by
  intro σ a w K ⟨G, hA⟩ hr hK
  have hz' := hr (.zn z, .zn .free) (by simp)
  obtain ⟨k1, k2⟩ := argsOf_ok hargs hA fun kv hkv => hr kv (List.mem_cons_of_mem _ hkv)
  unfold Oper.wp
  rw [run_call ho rfl rfl hf w]
  refine Calls.mono (hc (zall G σ) w (args.map a.eval) (by simpa using k1) (fun i x hi => ?_)) ?_
  · have := k2 i x hi
    have e : (args.map a.eval).getD i undef = (args.toList.map a.eval).getD i undef := by simp [Array.getD_eq_getD_getElem?, List.getD]
    rw [e]; exact this
  · rintro e w' ⟨v, Zn, rfl, B, hZ, hres, happ⟩
    have hst : resZ app res = .live ∨ ∃ E sz rows vals, resZ app res = .app E sz rows ∧ w'.ownsRow w.heap.size E sz v rows.length vals ∧ RepD Zn w' v (.s sz rows) ∧ ∀ k, v.ownBlock = some k → ∀ o, Zn k o → o < rows.length * sz := by
      cases app with
      | none => left; cases res with
        | one x => cases x with
          | c x => cases x <;> rfl
          | agg => rfl
        | tup => rfl
      | some E =>
        obtain ⟨sz, rows, vals, rfl, h1, h2⟩ := happ E rfl
        exact .inr ⟨E, sz, rows, vals, rfl, h1, hres, h2⟩
    obtain ⟨hA', ev⟩ := hA.newzone hz' B Zn hZ (resZ app res) v hst
    have hu : ∀ y ∈ [z], Uz (ovr σ [(.zn z, .zn (resZ app res))]) y := by
      intro y hy
      simp at hy; subst hy
      unfold Uz; simp only [ovr, fnd, if_pos, Option.getD_some]
      rcases hst with h | ⟨E, sz, rows, vals, h, _⟩ <;> rw [h] <;> simp
    have hzu : ∀ g off u, Zn g off → w'.cell? ⟨g, off, none⟩ = some u → (Gh.zu { G with ζ := fun y => if y = z then Zn else G.ζ y, τ := fun y => if y = z then v else G.τ y } [z]) g off ∧ w'.cell? ⟨g, off, none⟩ = some u := fun g off u hg hcell => ⟨⟨z, by simp, by simpa using hg⟩, hcell⟩
    have := hA'.put (dst := o.dst) (v := v) (x := resAV z app res) hd ?_
    · rw [ovr_ovr] at this
      exact hK _ _ ⟨_, this⟩
    · cases res with
      | one x =>
        cases x with
        | c x =>
          cases x with
          | v u => exact atz_rep (x := .c (.v u)) hu (RepDV.evo (x := .c (.v u)) hres hzu)
          | s sz rows =>
            cases app with
            | none => exact atz_rep (x := .c (.s sz rows)) hu (RepDV.evo (x := .c (.s sz rows)) hres hzu)
            | some E => exact ⟨hu z (by simp), fun _ => ⟨by simp, RepD.evo (x := .s sz rows) hres (fun g off u hg hcell => ⟨by simpa using hg, hcell⟩)⟩⟩
        | agg cs => exact atz_rep (x := .agg cs) hu (RepDV.evo (x := .agg cs) hres hzu)
      | tup l => exact ⟨hu, fun _ => (hres : RepR Zn w' v _).evo hzu⟩
end
end Go.Proofs.Ytlkdkhmdmgchbaa
namespace Go.Proofs.Ytlkdkhmdmgchbaa
set_option linter.unusedSimpArgs false
set_option linter.unusedVariables false
open Go.RowKit

section
variable {P : Program} {W0 : World} {N : Nat} {G : Gh} {σ : St} {a : Act} {w : World} {Q : Exit → Act → World → Prop} {o : Oper} {L : St} {T : Tab P}
/-- cells read as data, each in its zones. -/
def CR (G : Gh) (σ : St) (w : World) (arr : Array Value) (cs : List (List Nat × D)) : Prop :=
  arr.size = cs.length ∧ ∀ (i : Nat) (zs : List Nat) (x : D), cs[i]? = some (zs, x) → (∀ z ∈ zs, Uz σ z) ∧ ((∀ z ∈ zs, Lv σ z) → RepD (G.zu zs) w (arr.getD i undef) x)
def raws (l : List D) : List (List Nat × D) := l.map fun d => ([], d)
theorem raws_cr (arr : Array Value) (hs : List (Option Nat)) : CR G σ w arr (raws (zds arr.toList hs)) := by
  refine ⟨by simp [raws, zds_len], fun i zs x hi => ?_⟩
  simp only [raws, List.getElem?_map, Option.map_eq_some_iff, Prod.mk.injEq] at hi
  obtain ⟨d, hi, rfl, rfl⟩ := hi
  obtain ⟨v, hv, hd'⟩ := zds_get _ _ _ _ hi
  rw [Array.getElem?_toList] at hv
  rw [Array.getD_eq_getD_getElem?, hv]
  exact ⟨fun z hz => absurd hz (by simp), fun _ => hd' _ _⟩
def spreadD (L : St) : AV → Option (Row × List (List Nat × D))
  | .agg cs => some ([], cs)
  | .c zs x => (spread1 L (.c zs x)).map fun r => (r, [(zs, x)])
  | .own z sz rows => (spread1 L (.own z sz rows)).map fun r => (r, [([z], .s sz rows)])
  | _ => none
theorem cells_one {v : Value} (h : v.oneCell' = true) : v.cells = #[v] := by cases v <;> simp_all [Value.cells, Value.oneCell']
theorem spreadD_ok {x : AV} {r : Row} {cs : List (List Nat × D)} {v : Value} (h : spreadD L x = some (r, cs)) (hr : ∀ kv ∈ r, σ kv.1 = kv.2) (hx : Rep G σ w v x) : CR G σ w v.cells cs := by
  cases x with
  | agg cs' =>
    simp only [spreadD, Option.some.injEq, Prod.mk.injEq] at h
    obtain ⟨_, rfl⟩ := h
    obtain ⟨vs, rfl, e, k⟩ := hx.rep
    exact ⟨e, fun i zs x hi => ⟨fun z hz => hx.ok _ (List.mem_of_getElem? hi) z hz, k i zs x hi⟩⟩
  | c zs x =>
    simp only [spreadD, Option.map_eq_some_iff, Prod.mk.injEq] at h
    obtain ⟨r', h1, rfl, rfl⟩ := h
    rw [cells_one (spread1_ok h1 hr hx)]
    refine ⟨rfl, fun i zs' x' hi => ?_⟩
    cases i with
    | zero => simp only [List.getElem?_cons_zero, Option.some.injEq, Prod.mk.injEq] at hi; obtain ⟨rfl, rfl⟩ := hi; exact ⟨hx.ok, hx.rep⟩
    | succ i => simp at hi
  | own z sz rows =>
    simp only [spreadD, Option.map_eq_some_iff, Prod.mk.injEq] at h
    obtain ⟨r', h1, rfl, rfl⟩ := h
    rw [cells_one (spread1_ok h1 hr hx)]
    refine ⟨rfl, fun i zs' x' hi => ?_⟩
    cases i with
    | zero =>
      simp only [List.getElem?_cons_zero, Option.some.injEq, Prod.mk.injEq] at hi
      obtain ⟨rfl, rfl⟩ := hi
      refine ⟨fun y hy => ?_, fun hl => zu_one (hx.rep (hl z (by simp))).2⟩
      simp at hy; subst hy; exact hx.ok
    | succ i => simp at hi
  | _ => simp [spreadD] at h
theorem foldset (off : Nat) : ∀ (l : List Value) (k : Nat) (cells : Array Value), off + k + l.length ≤ cells.size →
    ((l.zipIdx k).foldl (fun cs (p : Value × Nat) => cs.setIfInBounds (off + p.2) p.1) cells).size = cells.size ∧
    ∀ i, ((l.zipIdx k).foldl (fun cs (p : Value × Nat) => cs.setIfInBounds (off + p.2) p.1) cells).getD i undef = if off + k ≤ i ∧ i < off + k + l.length then l.getD (i - (off + k)) undef else cells.getD i undef
  | [], k, cells, h => ⟨rfl, fun i => by rw [if_neg (by simp)]; rfl⟩
  | v :: l, k, cells, h => by
    simp only [List.length_cons] at h
    rw [List.zipIdx_cons, List.foldl_cons]
    obtain ⟨h1, h2⟩ := foldset off l (k + 1) (cells.setIfInBounds (off + k) v) (by simp; omega)
    refine ⟨by rw [h1]; simp, fun i => ?_⟩
    rw [h2 i]
    by_cases hi : i = off + k
    · subst hi
      rw [if_neg (by omega), if_pos (by simp)]
      have : off + k < cells.size := by omega
      simp [Array.getD_eq_getD_getElem?, Array.getElem?_setIfInBounds, this]
    · by_cases hr : off + (k + 1) ≤ i ∧ i < off + (k + 1) + l.length
      · rw [if_pos hr, if_pos (by simp; omega), show i - (off + k) = (i - (off + (k + 1))) + 1 by omega]
        simp
      · rw [if_neg hr, if_neg (by simp; omega)]
        simp only [Array.getD_eq_getD_getElem?]
        rw [Array.getElem?_setIfInBounds_ne (by omega)]
def setR (cs : List (List Nat × D)) (off : Nat) (ds : List (List Nat × D)) : List (List Nat × D) := cs.take off ++ (ds ++ cs.drop (off + ds.length))
theorem CR.set {arr : Array Value} {cs ds : List (List Nat × D)} {v : Value} {off : Nat} (h : CR G σ w arr cs) (hv : CR G σ w v.cells ds) (hl : off + ds.length ≤ cs.length) :
    CR G σ w (v.cells.zipIdx.foldl (fun cs (c, j) => cs.setIfInBounds (off + j) c) arr) (setR cs off ds) := by
  have e : v.cells.zipIdx.foldl (fun cs (c, j) => cs.setIfInBounds (off + j) c) arr = (v.cells.toList.zipIdx 0).foldl (fun cs (p : Value × Nat) => cs.setIfInBounds (off + p.2) p.1) arr := by
    rw [← Array.foldl_toList, Array.toList_zipIdx]
  obtain ⟨h1, h2⟩ := foldset off v.cells.toList 0 arr (by simp [hv.1, h.1]; omega)
  rw [e]
  refine ⟨by rw [h1, h.1]; simp [setR]; omega, fun i zs x hi => ?_⟩
  rw [h2 i]
  simp only [Array.length_toList, hv.1, Nat.add_zero]
  simp only [setR] at hi
  by_cases c1 : i < off
  · rw [if_neg (by omega)]
    rw [List.getElem?_append_left (by simp; omega), List.getElem?_take, if_pos c1] at hi
    exact h.2 i zs x hi
  · rw [List.getElem?_append_right (by simp; omega)] at hi
    simp only [List.length_take, Nat.min_eq_left (show off ≤ cs.length by omega)] at hi
    by_cases c2 : i < off + ds.length
    · rw [if_pos (by omega)]
      rw [List.getElem?_append_left (by omega)] at hi
      have := hv.2 (i - off) zs x hi
      simpa [List.getD, Array.getD_eq_getD_getElem?] using this
    · rw [if_neg (by omega)]
      rw [List.getElem?_append_right (by omega), List.getElem?_drop] at hi
      rw [show off + ds.length + (i - off - ds.length) = i by omega] at hi
      exact h.2 i zs x hi
/-- parts are laid into cells. -/
def fillO (L : St) (pl : Nat → Option (Nat × Nat)) : List (List Nat × D) → List (Nat × Operand) → Option (Row × List (List Nat × D))
  | cs, [] => some ([], cs)
  | cs, (i, x) :: rest => match pl i, opd L x with
    | some (off, size), some (r, y) => match spreadD L y with
      | some (r', ds) => if ds.length = size ∧ off + ds.length ≤ cs.length then match fillO L pl (setR cs off ds) rest with
          | some (r'', cs') => some (r ++ (r' ++ r''), cs')
          | none => none
        else none
      | none => none
    | _, _ => none
theorem fillO_ok {pl : Nat → Option (Nat × Nat)} : ∀ {ps : List (Nat × Operand)} {cs cs' : List (List Nat × D)} {r : Row} {arr : Array Value}, fillO L pl cs ps = some (r, cs') → ASG W0 N G σ a w → (∀ kv ∈ r, σ kv.1 = kv.2) → CR G σ w arr cs →
    ∃ arr', Instr.fill pl arr (ps.map fun p => (p.1, a.eval p.2)) = some arr' ∧ CR G σ w arr' cs'
  | [], cs, cs', r, arr, h, _, _, hc => by
    simp only [fillO, Option.some.injEq, Prod.mk.injEq] at h
    obtain ⟨_, rfl⟩ := h
    exact ⟨arr, rfl, hc⟩
  | (i, x) :: rest, cs, cs', r, arr, h, hA, hr, hc => by
    unfold fillO at h
    split at h
    · rename_i off size r1 y hp hx
      split at h
      · rename_i r2 ds hs
        split at h
        · rename_i hsz
          split at h
          · rename_i r3 cs2 hf
            simp only [Option.some.injEq, Prod.mk.injEq] at h
            obtain ⟨rfl, rfl⟩ := h
            have hv := spreadD_ok hs (fun kv hkv => hr kv (List.mem_append_right _ (List.mem_append_left _ hkv))) (opd_ok hx hA fun kv hkv => hr kv (List.mem_append_left _ hkv))
            obtain ⟨arr', k1, k2⟩ := fillO_ok hf hA (fun kv hkv => hr kv (List.mem_append_right _ (List.mem_append_right _ hkv))) (hc.set hv hsz.2)
            refine ⟨arr', ?_, k2⟩
            simp only [List.map_cons, Instr.fill, hp]
            rw [if_neg (by rw [hv.1, hc.1]; simp; omega)]
            exact k1
          · cases h
        · cases h
      · cases h
    · cases h
def placesT {P : Program} (T : Tab P) : List (Nat × TypeId) → Option (List (Nat × Nat))
  | [] => some []
  | (off, t) :: fs => match T.f t, placesT T fs with
    | some ti, some l => some ((off, ti.size) :: l)
    | _, _ => none
theorem placesT_ok : ∀ {fl : List Field} {pl : List (Nat × Nat)}, placesT T (fl.map fun f => (f.offset, f.type)) = some pl → fl.mapM (fun f => (P.info? f.type).map fun i => (f.offset, i.size)) = some pl
  | [], pl, h => by simpa [placesT] using h
  | f :: fl, pl, h => by
    simp only [List.map_cons, placesT] at h
    split at h
    · rename_i ti l h1 h2
      simp only [Option.some.injEq] at h
      subst h
      obtain ⟨x, q1, q2, q3, q4⟩ := (T.ok _ ti h1).get
      simp [List.mapM_cons, q1, q3, placesT_ok h2]
    · cases h
theorem op_build {t : TypeId} {ti : TI} {fs : List (Nat × TypeId)} {ps : Array (Nat × Operand)} {pl : List (Nat × Nat)} {r : Row} {cs : List (List Nat × D)} (ho : o.op = .build t ps) (ht : T.f t = some ti) (hsh : ti.sh = .struct fs) (hp : placesT T fs = some pl)
    (hf : fillO L (fun i => pl[i]?) (raws (zds ti.zero.cells.toList ti.hint)) ps.toList = some (r, cs)) (hd : ∀ d, o.dst = some d → d < N) : OpOk P W0 N Q o ⟨r, wr o.dst (.agg cs)⟩ := by
  refine OpOk.pure hd fun G σ a w hA hr => ?_
  obtain ⟨arr', k1, k2⟩ := fillO_ok hf hA hr (raws_cr (G := G) (σ := σ) (w := w) ti.zero.cells ti.hint)
  obtain ⟨x, q1, q2, q3, q4⟩ := (T.ok t ti ht).get
  obtain ⟨fl, h1, h2⟩ := (T.ok t ti ht).struct hsh
  rw [← h2] at hp
  have hb : P.built t (ps.map fun p => (p.1, a.eval p.2)).toList = some arr' := by
    unfold Program.built
    simp only [q1, h1, q2, placesT_ok hp]
    simpa using k1
  refine ⟨.agg arr', ?_, rep_agg k2.2 k2.1⟩
  simp only [execOp, ho]
  rw [Sem.run_bind, run_build w t _ arr' hb]
  rfl
def zc : Nat → List D → List (List Nat × D)
  | 0, _ => []
  | n + 1, z => raws z ++ zc n z
theorem zc_len : ∀ (n : Nat) (z : List D), (zc n z).length = n * z.length
  | 0, z => by simp [zc]
  | n + 1, z => by simp [zc, raws, zc_len n z, Nat.add_mul]; omega
theorem zc_get : ∀ (n : Nat) (z : List D) (i : Nat) (zs : List Nat) (x : D), (zc n z)[i]? = some (zs, x) → zs = [] ∧ ∃ u, z[i % z.length]? = some u ∧ x = u
  | 0, z, i, zs, x, h => by simp [zc] at h
  | n + 1, z, i, zs, x, h => by
    simp only [zc] at h
    by_cases hi : i < z.length
    · rw [List.getElem?_append_left (by simpa [raws] using hi)] at h
      simp only [raws, List.getElem?_map, Option.map_eq_some_iff, Prod.mk.injEq] at h
      obtain ⟨v, h1, rfl, rfl⟩ := h
      exact ⟨rfl, v, by rw [Nat.mod_eq_of_lt hi]; exact h1, rfl⟩
    · rw [List.getElem?_append_right (by simp [raws]; omega)] at h
      obtain ⟨h1, u, h2, h3⟩ := zc_get n z _ zs x h
      refine ⟨h1, u, ?_, h3⟩
      simp only [raws, List.length_map] at h2
      rw [Nat.mod_eq_sub_mod (by omega)]
      exact h2
def chunk (esz : Nat) : Nat → List D → List (List D)
  | 0, _ => []
  | n + 1, l => l.take esz :: chunk esz n (l.drop esz)
theorem chunk_len (esz : Nat) : ∀ (n : Nat) (l : List D), (chunk esz n l).length = n
  | 0, l => rfl
  | n + 1, l => by simp [chunk, chunk_len esz n]
theorem chunk_get (esz : Nat) : ∀ (n : Nat) (l : List D) (i : Nat) (row : List D), (chunk esz n l)[i]? = some row → row = (l.drop (i * esz)).take esz
  | 0, l, i, row, h => by simp [chunk] at h
  | n + 1, l, i, row, h => by
    cases i with
    | zero => simpa [chunk] using h.symm
    | succ i =>
      have := chunk_get esz n _ i row (by simpa [chunk] using h)
      rw [this, List.drop_drop, Nat.add_mul]
      congr 2
      omega
def zsAll (cs : List (List Nat × D)) : List Nat := cs.flatMap (·.1)
theorem op_rows {t e : TypeId} {ti ei : TI} {n : Nat} {ps : Array (Nat × Operand)} {r r' : Row} {cs : List (List Nat × D)} {z : Nat} (ho : o.op = .buildSlice t n ps) (ht : T.f t = some ti) (hsh : ti.sh = .slice e) (he : T.f e = some ei) (hz0 : ei.zero.cells.size = ei.size) (hsm : n * ei.size ≤ 16777216) (hpos : 0 < ei.size) (hn : n ≤ maxI)
    (hf : fillO L (fun i => some (i * ei.size, ei.size)) (zc n (zds ei.zero.cells.toList ei.hint)) ps.toList = some (r, cs)) (hzr : zr L (zsAll cs) = some r') (hz : L (.zn z) = .zn .free) (hd : ∀ d, o.dst = some d → d < N) :
    OpOk P W0 N Q o ⟨(.zn z, .zn .free) :: (r ++ r'), wr o.dst (.c (z :: zsAll cs) (.s ei.size (chunk ei.size n (cs.map (·.2))))) ++ [(.zn z, .zn .live)]⟩ := by
  intro σ a w K ⟨G, hA⟩ hr hK
  have hz' := hr (.zn z, .zn .free) (by simp)
  have hl := zr_ok hzr fun kv hkv => hr kv (List.mem_cons_of_mem _ (List.mem_append_right _ hkv))
  have hrun0 : CR G σ w ((Array.range (n * ei.size)).map fun i => ei.zero.cells[i % ei.zero.cells.size]!) (zc n (zds ei.zero.cells.toList ei.hint)) := by
    refine ⟨by simp [zc_len, zds_len, hz0], fun i zs x hi => ?_⟩
    have hlt : i < n * ei.size := by
      have := (List.getElem?_eq_some_iff.1 hi).1
      rw [zc_len, zds_len] at this
      simpa [hz0] using this
    obtain ⟨rfl, d0, hi1, rfl⟩ := zc_get _ _ _ _ _ hi
    obtain ⟨u, h1, hd0⟩ := zds_get _ _ _ _ hi1
    rw [zds_len] at h1
    refine ⟨fun z hz => absurd hz (by simp), fun _ => ?_⟩
    simp only [Array.length_toList, Array.getElem?_toList] at h1
    have e : ((Array.range (n * ei.size)).map fun i => ei.zero.cells[i % ei.zero.cells.size]!).getD i undef = u := by
      have hm : i % ei.zero.cells.size < ei.zero.cells.size := Nat.mod_lt _ (by omega)
      rw [Array.getElem?_eq_getElem hm] at h1
      simp only [Option.some.injEq] at h1
      simp [Array.getD_eq_getD_getElem?, hlt, getElem!_pos, hm, h1]
    rw [e]
    exact hd0 _ _
  obtain ⟨arr, k1, k2⟩ := fillO_ok hf hA (fun kv hkv => hr kv (List.mem_cons_of_mem _ (List.mem_append_left _ hkv))) hrun0
  have hu := (T.ok t ti ht).slice hsh
  have h2 := (T.ok e ei he).run_size w
  have h3 := (T.ok e ei he).run_zero w
  have hlen : cs.length = n * ei.size := by
    have : ∀ {ps : List (Nat × Operand)} {c c' : List (List Nat × D)} {r : Row}, fillO L (fun i => some (i * ei.size, ei.size)) c ps = some (r, c') → c'.length = c.length := by
      intro ps
      induction ps with
      | nil => intro c c' r h; simp only [fillO, Option.some.injEq, Prod.mk.injEq] at h; rw [h.2]
      | cons p ps ih =>
        intro c c' r h
        obtain ⟨i, x⟩ := p
        unfold fillO at h
        split at h
        · split at h
          · split at h
            · rename_i hsz
              split at h
              · rename_i hf'
                simp only [Option.some.injEq, Prod.mk.injEq] at h
                rw [← h.2, ih hf']
                simp [setR]
                omega
              · cases h
            · cases h
          · cases h
        · cases h
    rw [this hf, zc_len, zds_len]
    simp [hz0]
  unfold Oper.wp
  have er : (execOp a.eval o).run P w = .ok (.value (.slice (some ⟨w.heap.size, 0, none⟩) n n)) (w.alloc (.cells arr e)) := by
    simp only [execOp, ho]
    have k1' : Instr.fill (fun i => some (i * ei.size, ei.size)) ((Array.range (n * ei.size)).map fun i => ei.zero.cells[i % ei.zero.cells.size]!) (ps.map fun p => (p.1, a.eval p.2)).toList = some arr := by simpa using k1
    by_cases h0 : n * ei.size = 0
    · rw [h0] at k1'
      simp only [Instr.buildSlice, Sem.run_bind, run_underlying hu, Result.andThen_ok, h2, h0]
      simp only [Nat.reducePow, gt_iff_lt, Nat.not_lt_zero, if_false, if_true, Sem.run_bind, Sem.run_pure, Result.andThen_ok]
      have : Instr.fill (fun i => some (i * ei.size, ei.size)) ((Array.range 0).map fun i => (#[] : Array Value)[i % (#[] : Array Value).size]!) (ps.map fun p => (p.1, a.eval p.2)).toList = some arr := by
        rw [show ((Array.range 0).map fun i => (#[] : Array Value)[i % (#[] : Array Value).size]!) = ((Array.range 0).map fun i => ei.zero.cells[i % ei.zero.cells.size]!) from by apply Array.ext <;> simp]
        exact k1'
      simp only [this, Sem.run_bind, Sem.run_pure, Result.andThen_ok, newRow, run_newObj]
      rfl
    · simp only [Instr.buildSlice, Sem.run_bind, run_underlying hu, Result.andThen_ok, h2]
      rw [if_neg (by simp; omega), if_neg h0]
      simp only [Sem.run_bind, Sem.run_pure, Result.andThen_ok, h3, k1', newRow, run_newObj]
      rfl
  rw [er]
  have B := below_alloc w (.cells arr e)
  obtain ⟨hA', ev⟩ := hA.newzone hz' B (fun g _ => g = w.heap.size) (fun g off h => by subst h; exact ⟨Nat.le_refl _, arr, e, heap_alloc_new w _⟩) .live undef (.inl rfl)
  have hu' : ∀ y ∈ z :: zsAll cs, Uz (ovr σ [(.zn z, .zn .live)]) y := by
    intro y hy
    rcases List.mem_cons.1 hy with rfl | hy
    · unfold Uz; simp [ovr, fnd]
    · exact ev.uz y (hl y hy).used
  have := hA'.put (dst := o.dst) (v := .slice (some ⟨w.heap.size, 0, none⟩) n n) (x := .c (z :: zsAll cs) (.s ei.size (chunk ei.size n (cs.map (·.2))))) hd (rep_c hu' ?_)
  · rw [ovr_ovr] at this
    exact hK _ _ ⟨_, this⟩
  · have cell : ∀ i, i < cs.length → (w.alloc (.cells arr e)).cell? ⟨w.heap.size, i, none⟩ = some (arr.getD i undef) := by
      intro i hi
      have : i < arr.size := by rw [k2.1]; exact hi
      unfold World.cell?
      simp only [heap_alloc_new w (.cells arr e)]
      simp [Array.getD_eq_getD_getElem?, this]
    refine .row w.heap.size 0 n n ei.size _ (fun i j => arr.getD (i * ei.size + j) undef) (chunk_len _ _ _).symm (Nat.le_refl _) hn (fun i row hi => ?_) (fun i row j x hi hj => ?_) (fun i row j x hi hj => ?_)
    all_goals
      have hi' : i < n := by have := (List.getElem?_eq_some_iff.1 hi).1; rwa [chunk_len] at this
      have hle : (i + 1) * ei.size ≤ n * ei.size := Nat.mul_le_mul_right _ hi'
      rw [Nat.add_mul, Nat.one_mul] at hle
      have hrow := chunk_get _ _ _ _ _ hi
      subst hrow
    · simp; omega
    all_goals
      have hj' : j < ei.size := by have := (List.getElem?_eq_some_iff.1 hj).1; simp at this; omega
      rw [List.getElem?_take, if_pos hj', List.getElem?_drop, List.getElem?_map, Option.map_eq_some_iff] at hj
      obtain ⟨⟨zs, y⟩, hy, rfl⟩ := hj
    · refine ⟨⟨z, by simp, by simp⟩, ?_⟩
      rw [Nat.zero_add]
      exact cell _ (by omega)
    · have hzs : ∀ y' ∈ zs, y' ∈ zsAll cs := fun y' hy' => List.mem_flatMap.2 ⟨(zs, y), List.mem_of_getElem? hy, hy'⟩
      have := (k2.2 _ zs y hy).2 (fun y' hy' => hl y' (hzs y' hy'))
      refine this.evo fun g off u ⟨y', hy', hg⟩ hcell => ⟨⟨y', List.mem_cons_of_mem _ (hzs y' hy'), ?_⟩, cellB B hcell⟩
      have hne : y' ≠ z := by rintro rfl; exact (hl y' (hzs y' hy')).used hz'
      simp [hne, hg]

/-- a function that writes over what it is handed, and over nothing else. -/
def Kt (P : Program) (f : FuncId) (args : List DV) : Prop :=
  ∀ (S : Nat → Prop) (Z : Zone) (w : World) (vs : Array Value), vs.size = args.length → (∀ (i : Nat) (x : DV), args[i]? = some x → RepDV Z w (vs.getD i undef) x) → (∀ g o, Z g o → S g) → (∀ g, S g → Soft w g) →
    Calls P f vs w fun e w' => e = .returned (.tuple #[]) ∧ Keeps (fun k => ¬ S k) w w'
def zsAV : AV → List Nat
  | .c zs _ => zs
  | .own z _ _ => [z]
  | .agg cs => zsAll cs
  | _ => []
def zsArgs (L : St) : List Operand → List Nat
  | [] => []
  | x :: xs => (match opd L x with | some (_, y) => zsAV y | none => []) ++ zsArgs L xs
theorem RepDV.mono {Z Z' : Zone} {v : Value} {x : DV} (h : RepDV Z w v x) (hz : ∀ g o, Z g o → Z' g o) : RepDV Z' w v x := h.evo fun g o _ hg hc => ⟨hz g o hg, hc⟩
theorem dvOf_zu {x : AV} {r : Row} {d : DV} {v : Value} (h : dvOf L x = some (r, d)) (hr : ∀ kv ∈ r, σ kv.1 = kv.2) (hx : Rep G σ w v x) : RepDV (G.zu (zsAV x)) w v d ∧ ∀ z ∈ zsAV x, Lv σ z := by
  cases x with
  | c zs x =>
    simp only [dvOf, Option.map_eq_some_iff, Prod.mk.injEq] at h
    obtain ⟨r', h1, rfl, rfl⟩ := h
    exact ⟨hx.rep (zr_ok h1 hr), zr_ok h1 hr⟩
  | own z sz rows =>
    simp only [dvOf, Option.map_eq_some_iff, Prod.mk.injEq] at h
    obtain ⟨r', h1, rfl, rfl⟩ := h
    have hl := zr_ok h1 hr
    exact ⟨zu_one (hx.rep (hl z (by simp))).2, hl⟩
  | agg cs =>
    simp only [dvOf, Option.map_eq_some_iff, Prod.mk.injEq] at h
    obtain ⟨r', h1, rfl, rfl⟩ := h
    have hl := zrL_ok h1 hr
    obtain ⟨vs, e, e2, k⟩ := hx.rep
    refine ⟨⟨vs, e, by simp [e2], fun i x hi => ?_⟩, fun z hz => ?_⟩
    · rw [List.getElem?_map, Option.map_eq_some_iff] at hi
      obtain ⟨⟨zs, y⟩, hi, rfl⟩ := hi
      have hz := hl _ (List.mem_of_getElem? hi)
      exact (k i zs y hi hz).evo fun g o u ⟨z, hz, hg⟩ hc => ⟨⟨z, List.mem_flatMap.2 ⟨(zs, y), List.mem_of_getElem? hi, hz⟩, hg⟩, hc⟩
    · obtain ⟨c, hc, hz⟩ := List.mem_flatMap.1 hz
      exact hl c hc z hz
  | _ => simp [dvOf] at h
theorem argsOf_zu : ∀ {xs : List Operand} {r : Row} {ds : List DV}, argsOf L xs = some (r, ds) → ASG W0 N G σ a w → (∀ kv ∈ r, σ kv.1 = kv.2) →
    (∀ z ∈ zsArgs L xs, Lv σ z) ∧ ∀ (i : Nat) (d : DV), ds[i]? = some d → RepDV (G.zu (zsArgs L xs)) w ((xs.map a.eval).getD i undef) d
  | [], r, ds, h, _, _ => by simp only [argsOf, Option.some.injEq, Prod.mk.injEq] at h; obtain ⟨_, rfl⟩ := h; simp [zsArgs]
  | x :: xs, r, ds, h, hA, hr => by
    unfold argsOf at h
    split at h
    · rename_i r0 y h0
      split at h
      · rename_i r1 d r2 ds' h1 h2
        simp only [Option.some.injEq, Prod.mk.injEq] at h
        obtain ⟨rfl, rfl⟩ := h
        obtain ⟨e1, e2⟩ := dvOf_zu h1 (fun kv hkv => hr kv (List.mem_append_right _ (List.mem_append_left _ hkv))) (opd_ok h0 hA fun kv hkv => hr kv (List.mem_append_left _ hkv))
        obtain ⟨k1, k2⟩ := argsOf_zu h2 hA fun kv hkv => hr kv (List.mem_append_right _ (List.mem_append_right _ hkv))
        have ez : zsArgs L (x :: xs) = zsAV y ++ zsArgs L xs := by simp [zsArgs, h0]
        rw [ez]
        refine ⟨fun z hz => ?_, fun i d' hi => ?_⟩
        · rcases List.mem_append.1 hz with hz | hz
          · exact e2 z hz
          · exact k1 z hz
        · cases i with
          | zero =>
            simp only [List.getElem?_cons_zero, Option.some.injEq] at hi; subst hi
            exact e1.mono fun g o ⟨z, hz, hg⟩ => ⟨z, List.mem_append_left _ hz, hg⟩
          | succ i =>
            have := k2 i d' (by simpa using hi)
            refine RepDV.mono (Z := G.zu (zsArgs L xs)) (by simpa using this) fun g o hg => ?_
            obtain ⟨z, hz, hg⟩ := hg
            exact ⟨z, List.mem_append_right _ hz, hg⟩
      · cases h
    · cases h
theorem ownsRow_keep {K : Nat → Prop} {w' : World} {B E sz : Nat} {v : Value} {n : Nat} {vals : List Value} (h : w.ownsRow B E sz v n vals) (hk : Keeps K w w') (hK : ∀ k, v.ownBlock = some k → K k) : w'.ownsRow B E sz v n vals := by
  have hlt := World.ownsRow.lt h
  refine ⟨h.1, ?_⟩
  rcases h.2 with h | ⟨g, cap, cur, rfl, hb, hg, rest⟩
  · exact .inl h
  · exact .inr ⟨g, cap, cur, rfl, hb, (hk.block g (hlt g rfl).2 (hK g rfl)).trans hg, rest⟩
def deadRow (zs : List Nat) : Row := zs.map fun z => (.zn z, .zn .dead)
theorem fnd_dead (zs : List Nat) (z : Nat) : fnd (deadRow zs) (.zn z) = if z ∈ zs then some (.zn .dead) else none := by
  induction zs with
  | nil => simp [deadRow, fnd]
  | cons y zs ih =>
    simp only [deadRow, List.map_cons, fnd, Key.zn.injEq] at ih ⊢
    by_cases h : y = z
    · subst h; simp
    · rw [if_neg h, ih]
      have : z ≠ y := fun e => h e.symm
      simp [this]
theorem fnd_dead_ne (zs : List Nat) {k : Key} (h : ∀ z, k ≠ .zn z) : fnd (deadRow zs) k = none := by
  induction zs with
  | nil => rfl
  | cons y zs ih =>
    simp only [deadRow, List.map_cons, fnd] at ih ⊢
    rw [if_neg (fun e => h y e.symm)]
    exact ih
theorem ASG.kill {w' : World} {zs : List Nat} (h : ASG W0 N G σ a w) (hl : ∀ z ∈ zs, Lv σ z) (h0 : ∀ z ∈ zs, z ≠ 0) (hk : Keeps (fun k => ¬ ∃ z ∈ zs, ∃ o, G.ζ z k o) w w') : ASG W0 N G (ovr σ (deadRow zs)) a w' := by
  obtain ⟨σ', hσ⟩ : ∃ σ', σ' = ovr σ (deadRow zs) := ⟨_, rfl⟩
  rw [← hσ]
  have ko : ∀ kk, (∀ z, kk ≠ .zn z) → σ' kk = σ kk := fun kk e => by rw [hσ]; simp [ovr, fnd_dead_ne zs e]
  have kz : ∀ z, σ' (.zn z) = if z ∈ zs then .zn .dead else σ (.zn z) := fun z => by rw [hσ]; simp only [ovr, fnd_dead]; split <;> simp
  have lv : ∀ z, Lv σ' z → z ∉ zs ∧ Lv σ z := fun z hz => by
    unfold Lv at hz
    rw [kz] at hz
    split at hz
    · simp at hz
    · rename_i hne; exact ⟨hne, hz⟩
  have nm : ∀ n, Nm σ' n ↔ Nm σ n := fun n => by unfold Nm; rw [ko _ (by simp)]
  have far : ∀ z g o, Lv σ' z → G.ζ z g o → g < w.heap.size ∧ ¬ ∃ y ∈ zs, ∃ o, G.ζ y g o := fun z g o hz hg => by
    obtain ⟨e1, e2⟩ := lv z hz
    refine ⟨(h.sep z g o e2 hg).1, ?_⟩
    rintro ⟨y, hy, o', hg'⟩
    exact h.disj z y g o o' (by rintro rfl; exact e1 hy) e2 (hl y hy) hg hg'
  have box : ∀ n, Nm σ n → ¬ ∃ y ∈ zs, ∃ o, G.ζ y (G.ρ n) o := fun n hn => by
    rintro ⟨y, hy, o, hg⟩
    exact (h.sep y _ o (hl y hy) hg).2 n hn rfl
  have ev : Evo G G σ σ' w w' := by
    refine ⟨fun z hz => ?_, fun n hn => ⟨(nm n).2 hn, rfl⟩, fun z _ hz => ⟨(lv z hz).2, rfl, rfl, fun g o u hg hc => ?_⟩⟩
    · unfold Uz; rw [kz]; split
      · simp
      · exact hz
    · obtain ⟨e1, e2⟩ := far z g o hz hg
      exact (hk.cell e1 e2).trans hc
  refine ⟨bel_keep h.fr hk (fun k hk => ?_), h.df, h.sz, fun t x e => ?_, fun m k x e => ?_, fun m hm => ?_, fun m m' hm hm' e => h.inj m m' ((nm m).1 hm) ((nm m').1 hm') e, fun y g off hy hg => ?_, fun y EE sz rows e => ?_, fun y g off h1 hy hg => ?_, fun y z g o o' hne hy hz => h.disj y z g o o' hne (lv y hy).2 (lv z hz).2⟩
  · rintro ⟨y, hy, o, hg⟩
    have := (h.new y k o (h0 y hy) (hl y hy) hg).1
    omega
  · rw [ko _ (by simp)] at e
    obtain ⟨v, h1, h2⟩ := h.tmp t x e
    exact ⟨v, h1, h2.evo ev⟩
  · rw [ko _ (by simp)] at e
    obtain ⟨h1, v, h2, h3, h4⟩ := h.cell m k x e
    have hlt := (h.nm m h1).2
    exact ⟨(nm m).2 h1, v, (hk.cell hlt (box m h1)).trans h2, (hk.frozen hlt (box m h1)).trans h3, h4.evo ev⟩
  · have := h.nm m ((nm m).1 hm); have := hk.size; omega
  · obtain ⟨h1, h2⟩ := h.sep y g off (lv y hy).2 hg
    have := hk.size
    exact ⟨by omega, fun m hm => h2 m ((nm m).1 hm)⟩
  · rw [kz] at e
    split at e
    · cases e
    · rename_i hne
      have hA := h.app y EE sz rows e
      have hly : Lv σ y := .inr ⟨_, _, _, e⟩
      have hly' : Lv σ' y := by unfold Lv; rw [kz, if_neg hne]; exact hly
      obtain ⟨⟨vals, h1⟩, h2, h3, h4, h5⟩ := hA
      refine ⟨⟨vals, ownsRow_keep h1 hk fun k hk' => ?_⟩, h2.evo fun g o u hg hc => ⟨hg, ?_⟩, fun k hk' m hm => h3 k hk' m ((nm m).1 hm), fun k hk' z o hz => h4 k hk' z o (lv z hz).2, fun k hk' z E' sz' rows' e' => ?_⟩
      · rintro ⟨z, hz, o, hg⟩
        obtain ⟨rfl, _⟩ := h4 k hk' z o (hl z hz) hg
        exact hne hz
      · obtain ⟨e1, e2⟩ := far y g o hly' hg
        exact (hk.cell e1 e2).trans hc
      · rw [kz] at e'
        split at e'
        · cases e'
        · exact h5 k hk' z E' sz' rows' e'
  · obtain ⟨k1, cur, t, k2⟩ := h.new y g off h1 (lv y hy).2 hg
    obtain ⟨e1, e2⟩ := far y g off hy hg
    exact ⟨k1, cur, t, (hk.block g e1 e2).trans k2⟩
theorem op_kill {f : FuncId} {args : Array Operand} {ats : Array TypeId} {r : Row} {ds : List DV} (ho : o.op = .call { callee := .value (.func f), args := args, argTypes := ats }) (hf : callOk P f = true) (hargs : argsOf L args.toList = some (r, ds)) (hc : Kt P f ds)
    (h0 : ∀ z ∈ zsArgs L args.toList, z ≠ 0) (hd : ∀ d, o.dst = some d → d < N) : OpOk P W0 N Q o ⟨r, wr o.dst (.c [] (.v (.tuple #[]))) ++ deadRow (zsArgs L args.toList)⟩ := by
  intro σ a w K ⟨G, hA⟩ hr hK
  obtain ⟨k1, _⟩ := argsOf_ok hargs hA hr
  obtain ⟨hl, k2⟩ := argsOf_zu hargs hA hr
  unfold Oper.wp
  rw [run_call ho rfl rfl hf w]
  refine Calls.mono (hc (fun g => ∃ z ∈ zsArgs L args.toList, ∃ o, G.ζ z g o) (G.zu (zsArgs L args.toList)) w (args.map a.eval) (by simpa using k1) (fun i x hi => ?_) (fun g o ⟨z, hz, hg⟩ => ⟨z, hz, o, hg⟩) (fun g ⟨z, hz, o, hg⟩ => (hA.new z g o (h0 z hz) (hl z hz) hg).2)) ?_
  · have := k2 i x hi
    have e : (args.map a.eval).getD i undef = (args.toList.map a.eval).getD i undef := by simp [Array.getD_eq_getD_getElem?, List.getD]
    rw [e]; exact this
  · rintro e w' ⟨rfl, hk⟩
    have := (hA.kill hl h0 hk).put (dst := o.dst) (v := .tuple #[]) (x := .c [] (.v (.tuple #[]))) hd (rep_raw _)
    rw [ovr_ovr] at this
    exact hK _ _ ⟨_, this⟩
end
end Go.Proofs.Ytlkdkhmdmgchbaa
namespace Go.Proofs.Ytlkdkhmdmgchbaa
set_option linter.unusedSimpArgs false
set_option linter.unusedVariables false
open Go.RowKit

def Rd (L : St) (r : Row) : Prop := ∀ kv ∈ r, L kv.1 = kv.2
section
variable {P : Program} {L : St} {T : Tab P}
theorem Rd.nil : Rd L [] := fun kv h => by cases h
theorem Rd.cons {k : Key} {v : KV} {r : Row} (h : L k = v) (hr : Rd L r) : Rd L ((k, v) :: r) := fun kv hkv => by
  rcases List.mem_cons.1 hkv with rfl | hkv
  · exact h
  · exact hr kv hkv
theorem Rd.app {a b : Row} (ha : Rd L a) (hb : Rd L b) : Rd L (a ++ b) := fun kv hkv => by
  rcases List.mem_append.1 hkv with h | h
  · exact ha kv h
  · exact hb kv h
theorem opd_rd {x : Operand} {r : Row} {v : AV} (h : opd L x = some (r, v)) : Rd L r := by
  cases x with
  | tmp t =>
    simp only [opd] at h
    split at h
    · rename_i y hy
      simp only [Option.some.injEq, Prod.mk.injEq] at h
      rw [← h.1]
      exact Rd.cons hy Rd.nil
    · cases h
  | const v => simp only [opd, Option.some.injEq, Prod.mk.injEq] at h; rw [← h.1]; exact Rd.nil
  | func f => simp only [opd, Option.some.injEq, Prod.mk.injEq] at h; rw [← h.1]; exact Rd.nil
  | global g => cases h
theorem zr_rd : ∀ {zs : List Nat} {r : Row}, zr L zs = some r → Rd L r
  | [], r, h => by simp only [zr, Option.some.injEq] at h; rw [← h]; exact Rd.nil
  | z :: zs, r, h => by
    unfold zr at h
    split at h
    · rw [Option.map_eq_some_iff] at h
      obtain ⟨r', h1, rfl⟩ := h
      exact Rd.cons rfl (zr_rd h1)
    · cases h
theorem rawL_rd : ∀ {cs : List (List Nat × D)} {r : Row} {vs : List Value}, rawL L cs = some (r, vs) → Rd L r
  | [], r, vs, h => by simp only [rawL, Option.some.injEq, Prod.mk.injEq] at h; rw [← h.1]; exact Rd.nil
  | (zs, .v x) :: cs, r, vs, h => by
    unfold rawL at h
    split at h
    · rename_i h1 h2
      simp only [Option.some.injEq, Prod.mk.injEq] at h
      rw [← h.1]
      exact Rd.app (zr_rd h1) (rawL_rd h2)
    · cases h
  | (zs, .s ..) :: cs, r, vs, h => by unfold rawL at h; cases h
theorem raw_rd {x : AV} {r : Row} {u : Value} (h : raw L x = some (r, u)) : Rd L r := by
  cases x with
  | c zs x =>
    cases x with
    | s => simp [raw] at h
    | v y =>
      simp only [raw, Option.map_eq_some_iff, Prod.mk.injEq] at h
      obtain ⟨r', h1, rfl, _⟩ := h
      exact zr_rd h1
  | agg cs =>
    simp only [raw] at h
    split at h
    · rename_i h1
      simp only [Option.some.injEq, Prod.mk.injEq] at h
      rw [← h.1]; exact rawL_rd h1
    · cases h
  | _ => simp [raw] at h
theorem opr_rd {x : Operand} {r : Row} {u : Value} (h : opr L x = some (r, u)) : Rd L r := by
  unfold opr at h
  split at h
  · rename_i r1 v h1
    simp only [Option.map_eq_some_iff, Prod.mk.injEq] at h
    obtain ⟨⟨r2, y⟩, h2, rfl, _⟩ := h
    exact Rd.app (opd_rd h1) (raw_rd h2)
  · cases h
theorem cells_rd {n : Nat} : ∀ {c off : Nat} {r : Row} {ys : List (List Nat × D)}, cells L n off c = some (r, ys) → Rd L r
  | 0, off, r, ys, h => by simp only [cells, Option.some.injEq, Prod.mk.injEq] at h; rw [← h.1]; exact Rd.nil
  | c + 1, off, r, ys, h => by
    unfold cells at h
    split at h
    · rename_i x hx
      split at h
      · rename_i h1 h2
        simp only [Option.some.injEq, Prod.mk.injEq] at h
        rw [← h.1]
        exact Rd.cons hx (cells_rd h2)
      · cases h
    · cases h
theorem ops_rd {esz : Nat} {x : Operand} {r : Row} {zs : List Nat} {rows : List (List D)} (h : ops L esz x = some (r, zs, rows)) : Rd L r := by
  unfold ops at h
  split at h
  · rename_i r1 v h1
    split at h
    · simp only [Option.map_eq_some_iff, Prod.mk.injEq] at h
      obtain ⟨r2, h3, rfl, _⟩ := h
      exact Rd.app (opd_rd h1) (zr_rd h3)
    · cases h
  · cases h
theorem opb_rd {x : Option Operand} {r : Row} {b : Option (IntKind × Int)} (h : opb L x = some (r, b)) : Rd L r := by
  cases x with
  | none => simp only [opb, Option.some.injEq, Prod.mk.injEq] at h; rw [← h.1]; exact Rd.nil
  | some x =>
    simp only [opb] at h
    split at h
    · rename_i h1
      simp only [Option.some.injEq, Prod.mk.injEq] at h
      rw [← h.1]; exact opr_rd h1
    · cases h
theorem spread1_rd {y : AV} {r : Row} (h : spread1 L y = some r) : Rd L r := by
  unfold spread1 at h
  split at h
  · exact zr_rd h
  · cases h
theorem spreadL_rd : ∀ {cs : List (List Nat × D)} {r : Row} {ys : List AV}, spreadL L cs = some (r, ys) → Rd L r
  | [], r, ys, h => by simp only [spreadL, Option.some.injEq, Prod.mk.injEq] at h; rw [← h.1]; exact Rd.nil
  | (zs, x) :: cs, r, ys, h => by
    unfold spreadL at h
    split at h
    · rename_i h1 h2
      simp only [Option.some.injEq, Prod.mk.injEq] at h
      rw [← h.1]; exact Rd.app (spread1_rd h1) (spreadL_rd h2)
    · cases h
theorem spread_rd {x : AV} {r : Row} {ys : List AV} (h : spread L x = some (r, ys)) : Rd L r := by
  cases x with
  | agg cs => exact spreadL_rd h
  | _ =>
    simp only [spread, Option.map_eq_some_iff, Prod.mk.injEq] at h
    obtain ⟨r', h1, rfl, _⟩ := h
    exact spread1_rd h1
theorem ex_rd {n : Nat} : ∀ {c off : Nat} {r : Row}, ex L n off c = some r → Rd L r
  | 0, off, r, h => by simp only [ex, Option.some.injEq] at h; rw [← h]; exact Rd.nil
  | c + 1, off, r, h => by
    unfold ex at h
    split at h
    · rename_i x hx
      rw [Option.map_eq_some_iff] at h
      obtain ⟨r', h1, rfl⟩ := h
      exact Rd.cons hx (ex_rd h1)
    · cases h
theorem spreadD_rd {x : AV} {r : Row} {cs : List (List Nat × D)} (h : spreadD L x = some (r, cs)) : Rd L r := by
  cases x with
  | agg cs' => simp only [spreadD, Option.some.injEq, Prod.mk.injEq] at h; rw [← h.1]; exact Rd.nil
  | c zs x =>
    simp only [spreadD, Option.map_eq_some_iff, Prod.mk.injEq] at h
    obtain ⟨r', h1, rfl, _⟩ := h
    exact spread1_rd h1
  | own z sz rows =>
    simp only [spreadD, Option.map_eq_some_iff, Prod.mk.injEq] at h
    obtain ⟨r', h1, rfl, _⟩ := h
    exact spread1_rd h1
  | _ => simp [spreadD] at h
theorem fillO_rd {pl : Nat → Option (Nat × Nat)} : ∀ {ps : List (Nat × Operand)} {cs cs' : List (List Nat × D)} {r : Row}, fillO L pl cs ps = some (r, cs') → Rd L r
  | [], cs, cs', r, h => by simp only [fillO, Option.some.injEq, Prod.mk.injEq] at h; rw [← h.1]; exact Rd.nil
  | (i, x) :: rest, cs, cs', r, h => by
    unfold fillO at h
    split at h
    · rename_i hx
      split at h
      · rename_i hs
        split at h
        · split at h
          · rename_i hf
            simp only [Option.some.injEq, Prod.mk.injEq] at h
            rw [← h.1]
            exact Rd.app (opd_rd hx) (Rd.app (spreadD_rd hs) (fillO_rd hf))
          · cases h
        · cases h
      · cases h
    · cases h
theorem zrL_rd : ∀ {cs : List (List Nat × D)} {r : Row}, zrL L cs = some r → Rd L r
  | [], r, h => by simp only [zrL, Option.some.injEq] at h; rw [← h]; exact Rd.nil
  | (zs, x) :: cs, r, h => by
    unfold zrL at h
    split at h
    · rename_i h1 h2
      simp only [Option.some.injEq] at h
      rw [← h]; exact Rd.app (zr_rd h1) (zrL_rd h2)
    · cases h
theorem dvOf_rd {x : AV} {r : Row} {d : DV} (h : dvOf L x = some (r, d)) : Rd L r := by
  cases x with
  | c zs x =>
    simp only [dvOf, Option.map_eq_some_iff, Prod.mk.injEq] at h
    obtain ⟨r', h1, rfl, _⟩ := h
    exact zr_rd h1
  | own z sz rows =>
    simp only [dvOf, Option.map_eq_some_iff, Prod.mk.injEq] at h
    obtain ⟨r', h1, rfl, _⟩ := h
    exact zr_rd h1
  | agg cs =>
    simp only [dvOf, Option.map_eq_some_iff, Prod.mk.injEq] at h
    obtain ⟨r', h1, rfl, _⟩ := h
    exact zrL_rd h1
  | _ => simp [dvOf] at h
theorem argsOf_rd : ∀ {xs : List Operand} {r : Row} {ds : List DV}, argsOf L xs = some (r, ds) → Rd L r
  | [], r, ds, h => by simp only [argsOf, Option.some.injEq, Prod.mk.injEq] at h; rw [← h.1]; exact Rd.nil
  | x :: xs, r, ds, h => by
    unfold argsOf at h
    split at h
    · rename_i h0
      split at h
      · rename_i h1 h2
        simp only [Option.some.injEq, Prod.mk.injEq] at h
        rw [← h.1]
        exact Rd.app (opd_rd h0) (Rd.app (dvOf_rd h1) (argsOf_rd h2))
      · cases h
    · cases h
end
end Go.Proofs.Ytlkdkhmdmgchbaa
namespace Go.Proofs.Ytlkdkhmdmgchbaa
set_option linter.unusedSimpArgs false
set_option linter.unusedVariables false
open Go.RowKit

def dflt : Key → KV
  | .tmp _ => .unk
  | .cell _ _ => .unk
  | .zn _ => .zn .free
  | .nm _ => .nm false
def lk : Row → St
  | [], k => dflt k
  | (k', v) :: r, k => if k' = k then v else lk r k
def ins (k : Key) (v : KV) : Row → Row
  | [] => [(k, v)]
  | (k', v') :: r => if k' = k then (k, v) :: r else (k', v') :: ins k v r
def puts (L : Row) : Row → Row
  | [] => L
  | (k, v) :: ws => ins k v (puts L ws)
theorem lk_ins (k : Key) (v : KV) (k2 : Key) : ∀ L : Row, lk (ins k v L) k2 = if k = k2 then v else lk L k2
  | [] => by simp [ins, lk]
  | (k', v') :: r => by
    unfold ins
    by_cases h : k' = k
    · subst h
      rw [if_pos rfl]
      simp only [lk]
      split <;> simp_all
    · rw [if_neg h]
      simp only [lk]
      rw [lk_ins k v k2 r]
      by_cases h2 : k' = k2
      · subst h2
        rw [if_pos rfl, if_pos rfl, if_neg (fun e => h e.symm)]
      · rw [if_neg h2, if_neg h2]
theorem lk_puts (L : Row) : ∀ ws : Row, lk (puts L ws) = ovr (lk L) ws
  | [] => by funext k; simp [puts, ovr, fnd]
  | (k, v) :: ws => by
    funext k2
    simp only [puts, lk_ins, lk_puts L ws, ovr, fnd]
    split <;> simp

section
variable {P : Program} {W0 : World} {N : Nat} {Q : Exit → Act → World → Prop} {o : Oper} {L : St} {T : Tab P} {k : Trc → Prop}
def dok (N : Nat) (o : Oper) : Bool := match o.dst with
  | some d => decide (d < N)
  | none => true
theorem dok_ok (h : dok N o = true) : ∀ d, o.dst = some d → d < N := fun d hd => by unfold dok at h; rw [hd] at h; simpa using h
/-- the steps' joints: the simplifier goes into what is asked first, and into nothing that stands behind it. -/
def ob {α : Type} (e : Option α) (k : α → Prop) : Prop := match e with
  | some v => k v
  | none => False
def kva (e : KV) (k : AV → Prop) : Prop := match e with
  | .av x => k x
  | _ => False
def kfree (e : KV) (k : Prop) : Prop := match e with
  | .zn .free => k
  | _ => False
def knm (e : KV) (k : Prop) : Prop := match e with
  | .nm false => k
  | _ => False
def chk (b : Bool) (k : Prop) : Prop := b = true ∧ k
def ya (p k : Prop) : Prop := p ∧ k
def gsel (b want : Bool) (p q : Prop) : Prop := (b = want → p) ∧ (¬ b = want → q)
theorem ob_some {α : Type} (v : α) (k : α → Prop) : ob (some v) k = k v := rfl
theorem kva_av (x : AV) (k : AV → Prop) : kva (.av x) k = k x := rfl
theorem kfree_free (k : Prop) : kfree (.zn .free) k = k := rfl
theorem knm_false (k : Prop) : knm (.nm false) k = k := rfl
theorem chk_true (k : Prop) : chk true k = k := by simp [chk]
theorem ya_true (k : Prop) : ya True k = k := by simp [ya]
theorem ya_mk {p k : Prop} (h : p) (h' : k) : ya p k := ⟨h, h'⟩
theorem gsel_tt (p q : Prop) : gsel true true p q = p := by simp [gsel]
theorem gsel_ff (p q : Prop) : gsel false false p q = p := by simp [gsel]
theorem gsel_tf (p q : Prop) : gsel true false p q = q := by simp [gsel]
theorem gsel_ft (p q : Prop) : gsel false true p q = q := by simp [gsel]
@[congr] theorem ob_congr {α : Type} {e e' : Option α} {k : α → Prop} (h : e = e') : ob e k = ob e' k := by rw [h]
@[congr] theorem kva_congr {e e' : KV} {k : AV → Prop} (h : e = e') : kva e k = kva e' k := by rw [h]
@[congr] theorem kfree_congr {e e' : KV} {k : Prop} (h : e = e') : kfree e k = kfree e' k := by rw [h]
@[congr] theorem knm_congr {e e' : KV} {k : Prop} (h : e = e') : knm e k = knm e' k := by rw [h]
@[congr] theorem chk_congr {b b' : Bool} {k : Prop} (h : b = b') : chk b k = chk b' k := by rw [h]
@[congr] theorem ya_congr {p p' k : Prop} (h : p = p') : ya p k = ya p' k := by rw [h]
@[congr] theorem gsel_congr {b b' w w' : Bool} {p q : Prop} (h : b = b') (h' : w = w') : gsel b w p q = gsel b' w' p q := by rw [h, h']
/-- cases, without matches. -/
def vb (v : Value) (k : Bool → Prop) : Prop := match v with
  | .bool b => k b
  | _ => False
def vi (v : Value) (k : IntKind → Int → Prop) : Prop := match v with
  | .int kk n => k kk n
  | _ => False
def vstr (v : Value) (k : ByteArray → Prop) : Prop := match v with
  | .string s => k s
  | _ => False
def avps (y : AV) (kp : Nat → Nat → Prop) (ks : List Nat → List D → Prop) : Prop := match y with
  | .ptr n off => kp n off
  | .seg zs ds => ks zs ds
  | _ => False
def avp (y : AV) (kp : Nat → Nat → Prop) : Prop := match y with
  | .ptr n off => kp n off
  | _ => False
def avagg (y : AV) (k : List (List Nat × D) → Prop) : Prop := match y with
  | .agg cs => k cs
  | _ => False
def avtup (y : AV) (k : List Nat → List DV → Prop) : Prop := match y with
  | .tup zs l => k zs l
  | _ => False
def avb (y : AV) (k : Bool → Prop) : Prop := match y with
  | .c [] (.v (.bool b)) => k b
  | _ => False
def shs (s : Sh) (k : List (Nat × TypeId) → Prop) : Prop := match s with
  | .struct fs => k fs
  | _ => False
def shl (s : Sh) (k : TypeId → Prop) : Prop := match s with
  | .slice e => k e
  | _ => False
def shla (s : Sh) (k : TypeId → Prop) (k2 : Nat → TypeId → Prop) : Prop := match s with
  | .slice e => k e
  | .arr n e => k2 n e
  | _ => False
def shls (s : Sh) (k : TypeId → Prop) (k2 : Prop) : Prop := match s with
  | .slice e => k e
  | .str => k2
  | _ => False
def shi (s : Sh) (k : IntKind → Prop) : Prop := match s with
  | .int kk => k kk
  | _ => False
def bc (b : Bool) (p q : Prop) : Prop := match b with
  | true => p
  | false => q
def hd1 (ds : List D) (k : D → Prop) : Prop := match ds with
  | d :: _ => k d
  | [] => False
def opc {α : Type} (o : Option α) (k : α → Prop) (n : Prop) : Prop := match o with
  | some v => k v
  | none => n
def unc (op : UnOp) (p q : Prop) : Prop := match op with
  | .not => p
  | .neg => q
  | _ => False
theorem vb_bool (b : Bool) (k : Bool → Prop) : vb (.bool b) k = k b := rfl
theorem vi_int (kk : IntKind) (n : Int) (k : IntKind → Int → Prop) : vi (.int kk n) k = k kk n := rfl
theorem vstr_string (s : ByteArray) (k : ByteArray → Prop) : vstr (.string s) k = k s := rfl
theorem avps_ptr (n off : Nat) (kp : Nat → Nat → Prop) (ks : List Nat → List D → Prop) : avps (.ptr n off) kp ks = kp n off := rfl
theorem avps_seg (zs : List Nat) (ds : List D) (kp : Nat → Nat → Prop) (ks : List Nat → List D → Prop) : avps (.seg zs ds) kp ks = ks zs ds := rfl
theorem avp_ptr (n off : Nat) (kp : Nat → Nat → Prop) : avp (.ptr n off) kp = kp n off := rfl
theorem avagg_agg (cs : List (List Nat × D)) (k : List (List Nat × D) → Prop) : avagg (.agg cs) k = k cs := rfl
theorem avtup_tup (zs : List Nat) (l : List DV) (k : List Nat → List DV → Prop) : avtup (.tup zs l) k = k zs l := rfl
theorem avb_bool (b : Bool) (k : Bool → Prop) : avb (.c [] (.v (.bool b))) k = k b := rfl
theorem shs_struct (fs : List (Nat × TypeId)) (k : List (Nat × TypeId) → Prop) : shs (.struct fs) k = k fs := rfl
theorem shl_slice (e : TypeId) (k : TypeId → Prop) : shl (.slice e) k = k e := rfl
theorem shla_slice (e : TypeId) (k : TypeId → Prop) (k2 : Nat → TypeId → Prop) : shla (.slice e) k k2 = k e := rfl
theorem shla_arr (n : Nat) (e : TypeId) (k : TypeId → Prop) (k2 : Nat → TypeId → Prop) : shla (.arr n e) k k2 = k2 n e := rfl
theorem shls_slice (e : TypeId) (k : TypeId → Prop) (k2 : Prop) : shls (.slice e) k k2 = k e := rfl
theorem shls_str (k : TypeId → Prop) (k2 : Prop) : shls .str k k2 = k2 := rfl
theorem shi_int (kk : IntKind) (k : IntKind → Prop) : shi (.int kk) k = k kk := rfl
theorem bc_true (p q : Prop) : bc true p q = p := rfl
theorem bc_false (p q : Prop) : bc false p q = q := rfl
theorem hd1_cons (d : D) (ds : List D) (k : D → Prop) : hd1 (d :: ds) k = k d := rfl
theorem opc_some {α : Type} (v : α) (k : α → Prop) (n : Prop) : opc (some v) k n = k v := rfl
theorem opc_none {α : Type} (k : α → Prop) (n : Prop) : opc none k n = n := rfl
theorem unc_not (p q : Prop) : unc .not p q = p := rfl
theorem unc_neg (p q : Prop) : unc .neg p q = q := rfl
@[congr] theorem vb_congr {v v' : Value} {k : Bool → Prop} (h : v = v') : vb v k = vb v' k := by rw [h]
@[congr] theorem vi_congr {v v' : Value} {k : IntKind → Int → Prop} (h : v = v') : vi v k = vi v' k := by rw [h]
@[congr] theorem vstr_congr {v v' : Value} {k : ByteArray → Prop} (h : v = v') : vstr v k = vstr v' k := by rw [h]
@[congr] theorem avps_congr {y y' : AV} {kp : Nat → Nat → Prop} {ks : List Nat → List D → Prop} (h : y = y') : avps y kp ks = avps y' kp ks := by rw [h]
@[congr] theorem avp_congr {y y' : AV} {kp : Nat → Nat → Prop} (h : y = y') : avp y kp = avp y' kp := by rw [h]
@[congr] theorem avagg_congr {y y' : AV} {k : List (List Nat × D) → Prop} (h : y = y') : avagg y k = avagg y' k := by rw [h]
@[congr] theorem avtup_congr {y y' : AV} {k : List Nat → List DV → Prop} (h : y = y') : avtup y k = avtup y' k := by rw [h]
@[congr] theorem avb_congr {y y' : AV} {k : Bool → Prop} (h : y = y') : avb y k = avb y' k := by rw [h]
@[congr] theorem shs_congr {s s' : Sh} {k : List (Nat × TypeId) → Prop} (h : s = s') : shs s k = shs s' k := by rw [h]
@[congr] theorem shl_congr {s s' : Sh} {k : TypeId → Prop} (h : s = s') : shl s k = shl s' k := by rw [h]
@[congr] theorem shla_congr {s s' : Sh} {k : TypeId → Prop} {k2 : Nat → TypeId → Prop} (h : s = s') : shla s k k2 = shla s' k k2 := by rw [h]
@[congr] theorem shls_congr {s s' : Sh} {k : TypeId → Prop} {k2 : Prop} (h : s = s') : shls s k k2 = shls s' k k2 := by rw [h]
@[congr] theorem shi_congr {s s' : Sh} {k : IntKind → Prop} (h : s = s') : shi s k = shi s' k := by rw [h]
@[congr] theorem bc_congr {b b' : Bool} {p q : Prop} (h : b = b') : bc b p q = bc b' p q := by rw [h]
@[congr] theorem hd1_congr {ds ds' : List D} {k : D → Prop} (h : ds = ds') : hd1 ds k = hd1 ds' k := by rw [h]
@[congr] theorem opc_congr {α : Type} {o o' : Option α} {k : α → Prop} {n : Prop} (h : o = o') : opc o k n = opc o' k n := by rw [h]
theorem vb_ok {v : Value} {k : Bool → Prop} (h : vb v k) : ∃ b, v = .bool b ∧ k b := by
  cases v <;> first | exact ⟨_, rfl, h⟩ | exact h.elim
theorem vi_ok {v : Value} {k : IntKind → Int → Prop} (h : vi v k) : ∃ kk n, v = .int kk n ∧ k kk n := by
  cases v <;> first | exact ⟨_, _, rfl, h⟩ | exact h.elim
theorem vstr_ok {v : Value} {k : ByteArray → Prop} (h : vstr v k) : ∃ s, v = .string s ∧ k s := by
  cases v <;> first | exact ⟨_, rfl, h⟩ | exact h.elim
theorem avps_ok {y : AV} {kp : Nat → Nat → Prop} {ks : List Nat → List D → Prop} (h : avps y kp ks) : (∃ n off, y = .ptr n off ∧ kp n off) ∨ ∃ zs ds, y = .seg zs ds ∧ ks zs ds := by
  cases y <;> first | exact .inl ⟨_, _, rfl, h⟩ | exact .inr ⟨_, _, rfl, h⟩ | exact h.elim
theorem avp_ok {y : AV} {kp : Nat → Nat → Prop} (h : avp y kp) : ∃ n off, y = .ptr n off ∧ kp n off := by
  cases y <;> first | exact ⟨_, _, rfl, h⟩ | exact h.elim
theorem avagg_ok {y : AV} {k : List (List Nat × D) → Prop} (h : avagg y k) : ∃ cs, y = .agg cs ∧ k cs := by
  cases y <;> first | exact ⟨_, rfl, h⟩ | exact h.elim
theorem avtup_ok {y : AV} {k : List Nat → List DV → Prop} (h : avtup y k) : ∃ zs l, y = .tup zs l ∧ k zs l := by
  cases y <;> first | exact ⟨_, _, rfl, h⟩ | exact h.elim
theorem avb_ok {y : AV} {k : Bool → Prop} (h : avb y k) : ∃ b, y = .c [] (.v (.bool b)) ∧ k b := by
  unfold avb at h
  split at h
  · exact ⟨_, rfl, h⟩
  · exact h.elim
theorem shs_ok {s : Sh} {k : List (Nat × TypeId) → Prop} (h : shs s k) : ∃ fs, s = .struct fs ∧ k fs := by
  cases s <;> first | exact ⟨_, rfl, h⟩ | exact h.elim
theorem shl_ok {s : Sh} {k : TypeId → Prop} (h : shl s k) : ∃ e, s = .slice e ∧ k e := by
  cases s <;> first | exact ⟨_, rfl, h⟩ | exact h.elim
theorem shla_ok {s : Sh} {k : TypeId → Prop} {k2 : Nat → TypeId → Prop} (h : shla s k k2) : (∃ e, s = .slice e ∧ k e) ∨ ∃ n e, s = .arr n e ∧ k2 n e := by
  cases s <;> first | exact .inl ⟨_, rfl, h⟩ | exact .inr ⟨_, _, rfl, h⟩ | exact h.elim
theorem shls_ok {s : Sh} {k : TypeId → Prop} {k2 : Prop} (h : shls s k k2) : (∃ e, s = .slice e ∧ k e) ∨ (s = .str ∧ k2) := by
  cases s <;> first | exact .inl ⟨_, rfl, h⟩ | exact .inr ⟨rfl, h⟩ | exact h.elim
theorem shi_ok {s : Sh} {k : IntKind → Prop} (h : shi s k) : ∃ kk, s = .int kk ∧ k kk := by
  cases s <;> first | exact ⟨_, rfl, h⟩ | exact h.elim
theorem bc_ok {b : Bool} {p q : Prop} (h : bc b p q) : (b = true ∧ p) ∨ (b = false ∧ q) := by
  cases b
  · exact .inr ⟨rfl, h⟩
  · exact .inl ⟨rfl, h⟩
theorem hd1_ok {ds : List D} {k : D → Prop} (h : hd1 ds k) : ∃ d r, ds = d :: r ∧ k d := by
  cases ds with
  | nil => exact h.elim
  | cons d r => exact ⟨d, r, rfl, h⟩
theorem opc_ok {α : Type} {o : Option α} {k : α → Prop} {n : Prop} (h : opc o k n) : (∃ v, o = some v ∧ k v) ∨ (o = none ∧ n) := by
  cases o with
  | none => exact .inr ⟨rfl, h⟩
  | some v => exact .inl ⟨v, rfl, h⟩
theorem unc_ok {op : UnOp} {p q : Prop} (h : unc op p q) : (op = .not ∧ p) ∨ (op = .neg ∧ q) := by
  cases op <;> first | exact .inl ⟨rfl, h⟩ | exact .inr ⟨rfl, h⟩ | exact h.elim
/-- what an operation does, handed on. -/
def stMove (L : St) (o : Oper) (x : Operand) (k : Trc → Prop) : Prop := ob (opd L x) fun y => k ⟨y.1, wr o.dst y.2⟩
def stPick (L : St) (o : Oper) (c x y : Operand) (k : Trc → Prop) : Prop := ob (opr L c) fun t => vb t.2 fun b => gsel b true (ob (opd L x) fun v => k ⟨t.1 ++ v.1, wr o.dst v.2⟩) (ob (opd L y) fun v => k ⟨t.1 ++ v.1, wr o.dst v.2⟩)
def stBinAny (P : Program) (op : BinOp) (t : TypeId) (x y : Operand) (u v : Value) (k : Value → Prop) : Prop := ∃ z, (∀ w, (do eqGuard op t x y u v; binOp op t u v : Sem Value).run P w = .ok z w) ∧ k z
/-- two truths compared. -/
def binT {P : Program} (T : Tab P) (op : BinOp) (t : TypeId) : Value → Value → Option Value
  | .bool a, .bool b => match T.f t with
    | some ti => if ti.sh = .bool then match op with
      | .eql => some (.bool (a == b))
      | .neq => some (.bool (!(a == b)))
      | _ => none
      else none
    | none => none
  | _, _ => none
def stBin {P : Program} (T : Tab P) (L : St) (o : Oper) (op : BinOp) (t : TypeId) (x y : Operand) (k : Trc → Prop) : Prop := ob (opr L x) fun a => ob (opr L y) fun b => opc (bin op a.2 b.2) (fun z => ya z.2 (k ⟨a.1 ++ b.1, wr o.dst (cst z.1)⟩)) (opc (binT T op t a.2 b.2) (fun z => k ⟨a.1 ++ b.1, wr o.dst (cst z)⟩) (stBinAny P op t x y a.2 b.2 fun z => k ⟨a.1 ++ b.1, wr o.dst (cst z)⟩))
def stUn (L : St) (o : Oper) (op : UnOp) (x : Operand) (k : Trc → Prop) : Prop := ob (opr L x) fun y => unc op (vb y.2 fun b => k ⟨y.1, wr o.dst (.c [] (.v (.bool (!b))))⟩) (vi y.2 fun kk n => k ⟨y.1, wr o.dst (.c [] (.v (.int kk (kk.wrap (0 - n)))))⟩)
def stConv {P : Program} (T : Tab P) (L : St) (o : Oper) (s d : TypeId) (x : Operand) (k : Trc → Prop) : Prop := ob (opr L x) fun y => ob (T.f s) fun _ => ob (T.f d) fun di => vi y.2 fun _ n => shi di.sh fun k' => k ⟨y.1, wr o.dst (.c [] (.v (.int k' (k'.wrap n))))⟩
def stLoad {P : Program} (T : Tab P) (L : St) (o : Oper) (t : TypeId) (x : Operand) (k : Trc → Prop) : Prop := ob (T.f t) fun ti => ob (opd L x) fun y => avps y.2
  (fun n off => bc ti.sh.agg (ob (cells L n off ti.size) fun c => k ⟨y.1 ++ c.1, wr o.dst (.agg c.2)⟩) (kva (L (.cell n off)) fun v => k ⟨y.1 ++ [(.cell n off, .av v)], wr o.dst v⟩))
  (fun zs ds => ob (zr L zs) fun r' => bc ti.sh.agg (ya (ti.size ≤ ds.length) (k ⟨y.1 ++ r', wr o.dst (.agg ((ds.take ti.size).map fun x => (nz zs x, x)))⟩)) (hd1 ds fun d => k ⟨y.1 ++ r', wr o.dst (.c (nz zs d) d)⟩))
def stFaddr {P : Program} (T : Tab P) (L : St) (o : Oper) (s : TypeId) (x : Operand) (f : Nat) (k : Trc → Prop) : Prop := ob (T.f s) fun si => shs si.sh fun fs => ob (fs[f]?) fun fo => ob (T.f fo.2) fun fi => chk (decide (fi.size ≠ 0)) (ob (opd L x) fun y => avps y.2
    (fun n off => k ⟨y.1, wr o.dst (.ptr n (off + fo.1))⟩)
    (fun zs ds => ob (zr L zs) fun r' => k ⟨y.1 ++ r', wr o.dst (.seg zs (ds.drop fo.1))⟩))
def stField {P : Program} (T : Tab P) (L : St) (o : Oper) (s : TypeId) (x : Operand) (f : Nat) (k : Trc → Prop) : Prop := ob (T.f s) fun si => shs si.sh fun fs => ob (fs[f]?) fun fo => ob (T.f fo.2) fun fi => chk (!fi.sh.agg) (ob (opd L x) fun y => avagg y.2 fun cs => ob (cs[fo.1]?) fun c => k ⟨y.1, wr o.dst (.c c.1 c.2)⟩)
def stExtract (L : St) (o : Oper) (x : Operand) (i : Nat) (k : Trc → Prop) : Prop := ob (opd L x) fun y => avtup y.2 fun zs l => ob (zr L zs) fun r' => ob (l[i]?) fun d => k ⟨y.1 ++ r', wr o.dst (atz zs d)⟩
def iaddrAny (n : Int) (rows : List (List D)) (k : List D → Prop) : Prop := ∃ (j : Nat) (row : List D), n = (j : Int) ∧ rows[j]? = some row ∧ k row
def iaddrArr (n : Int) (m : Nat) (k : Nat → Prop) : Prop := ∃ j : Nat, n = (j : Int) ∧ j < m ∧ k j
def stIaddr {P : Program} (T : Tab P) (L : St) (o : Oper) (t : TypeId) (x ix : Operand) (k : Trc → Prop) : Prop := ob (T.f t) fun ti => shla ti.sh
  (fun e => ob (T.f e) fun ei => ob (ops L ei.size x) fun y => ob (opr L ix) fun i => vi i.2 fun _ n => iaddrAny n y.2.2 fun row => k ⟨y.1 ++ i.1, wr o.dst (.seg y.2.1 row)⟩)
  (fun m e => ob (T.f e) fun ei => ob (opd L x) fun y => ob (opr L ix) fun i => avp y.2 fun nn off => vi i.2 fun _ n => iaddrArr n m fun j => k ⟨y.1 ++ i.1, wr o.dst (.ptr nn (off + j * ei.size))⟩)
def sliceAny (b1 b2 b3 : Option (IntKind × Int)) (rows : List (List D)) (k : List (List D) → Prop) : Prop := ∃ c1 c2 c3, nat? b1 c1 ∧ nat? b2 c2 ∧ nat? b3 c3 ∧ (c3.isSome = true → c2.isSome = true) ∧
  (c1.map (·.2)).getD 0 ≤ (c2.map (·.2)).getD rows.length ∧ (c2.map (·.2)).getD rows.length ≤ (c3.map (·.2)).getD rows.length ∧ (c3.map (·.2)).getD rows.length ≤ rows.length ∧
  k ((rows.take ((c2.map (·.2)).getD rows.length)).drop ((c1.map (·.2)).getD 0))
def stSlice {P : Program} (T : Tab P) (L : St) (o : Oper) (t : TypeId) (x : Operand) (lo hi mx : Option Operand) (k : Trc → Prop) : Prop := ob (T.f t) fun ti => shl ti.sh fun e => ob (T.f e) fun ei => ob (ops L ei.size x) fun y => ob (opb L lo) fun b1 => ob (opb L hi) fun b2 => ob (opb L mx) fun b3 =>
      sliceAny b1.2 b2.2 b3.2 y.2.2 fun rows => k ⟨y.1 ++ (b1.1 ++ (b2.1 ++ b3.1)), wr o.dst (.c y.2.1 (.s ei.size rows))⟩
def stAlloc {P : Program} (T : Tab P) (L : St) (z : Nat) (o : Oper) (t : TypeId) (k : Trc → Prop) : Prop := ob (T.f t) fun ti => knm (L (.nm z)) (k ⟨[(.nm z, .nm false)], wr o.dst (.ptr z 0) ++ ((.nm z, .nm true) :: crow z 0 ((zds ti.zero.cells.toList ti.hint).map fun d => .c [] d))⟩)
def stBox (L : St) (z : Nat) (o : Oper) (x : Operand) (k : Trc → Prop) : Prop := ob (opd L x) fun y => knm (L (.nm z)) (ob (spread L y.2) fun s => k ⟨(.nm z, .nm false) :: (y.1 ++ s.1), wr o.dst (.ptr z 0) ++ ((.nm z, .nm true) :: crow z 0 s.2)⟩)
def stStore {P : Program} (T : Tab P) (L : St) (o : Oper) (t : TypeId) (x v : Operand) (k : Trc → Prop) : Prop := ob (T.f t) fun ti => ob (opd L x) fun y => avp y.2 fun n off => ob (opd L v) fun u => ob (spread L u.2) fun s => ob (ex L n off ti.size) fun r3 => chk (decide (s.2.length = ti.size) && o.dst.isNone) (k ⟨y.1 ++ (u.1 ++ (s.1 ++ r3)), crow n off s.2⟩)
def stBuild {P : Program} (T : Tab P) (L : St) (o : Oper) (t : TypeId) (ps : Array (Nat × Operand)) (k : Trc → Prop) : Prop := ob (T.f t) fun ti => shs ti.sh fun fs => ob (placesT T fs) fun pl => ob (fillO L (fun i => pl[i]?) (raws (zds ti.zero.cells.toList ti.hint)) ps.toList) fun c => k ⟨c.1, wr o.dst (.agg c.2)⟩
def stRows {P : Program} (T : Tab P) (L : St) (z : Nat) (o : Oper) (t : TypeId) (n : Nat) (ps : Array (Nat × Operand)) (k : Trc → Prop) : Prop := ob (T.f t) fun ti => shl ti.sh fun e => ob (T.f e) fun ei => chk (decide (ei.zero.cells.size = ei.size) && decide (n * ei.size ≤ 16777216) && decide (0 < ei.size)) (ob (fillO L (fun i => some (i * ei.size, ei.size)) (zc n (zds ei.zero.cells.toList ei.hint)) ps.toList) fun c =>
      ob (zr L (zsAll c.2)) fun r' => kfree (L (.zn z)) (k ⟨(.zn z, .zn .free) :: (c.1 ++ r'), wr o.dst (.c (z :: zsAll c.2) (.s ei.size (chunk ei.size n (c.2.map (·.2))))) ++ [(.zn z, .zn .live)]⟩))
/-- a call: by a contract, or by one that writes over what it is handed. -/
def callAny (P : Program) (L : St) (z : Nat) (o : Oper) (f : FuncId) (args : List Operand) (r : Row) (ds : List DV) (k : Trc → Prop) : Prop :=
  (∃ app res, Ct P f ds app res ∧ bc res.isV (ya (app = none) (k ⟨r, wr o.dst (resV res)⟩)) (kfree (L (.zn z)) (k ⟨(.zn z, .zn .free) :: r, wr o.dst (resAV z app res) ++ [(.zn z, .zn (resZ app res))]⟩))) ∨
  (Kt P f ds ∧ ya (∀ z ∈ zsArgs L args, z ≠ 0) (k ⟨r, wr o.dst (.c [] (.v (.tuple #[]))) ++ deadRow (zsArgs L args)⟩))
def stCall (P : Program) (L : St) (z : Nat) (o : Oper) (f : FuncId) (args : Array Operand) (k : Trc → Prop) : Prop := ob (argsOf L args.toList) fun y => callOk P f = true ∧ callAny P L z o f args.toList y.1 y.2 k
def stLen {P : Program} (T : Tab P) (L : St) (o : Oper) (t : TypeId) (x : Operand) (k : Trc → Prop) : Prop := ob (T.f t) fun ti => shls ti.sh
  (fun e => ob (T.f e) fun ei => ob (ops L ei.size x) fun y => k ⟨y.1, wr o.dst (.c [] (.v (.int .i64 y.2.2.length)))⟩)
  (ob (opr L x) fun y => vstr y.2 fun s => k ⟨y.1, wr o.dst (.c [] (.v (.int .i64 s.size)))⟩)
def stMin (L : St) (o : Oper) (x y : Operand) (k : Trc → Prop) : Prop := ob (opr L x) fun a => ob (opr L y) fun b => vi a.2 fun kk n => vi b.2 fun _ m => k ⟨a.1 ++ b.1, wr o.dst (.c [] (.v (.int kk (if m < n then m else n))))⟩
def stMax (L : St) (o : Oper) (x y : Operand) (k : Trc → Prop) : Prop := ob (opr L x) fun a => ob (opr L y) fun b => vi a.2 fun kk n => vi b.2 fun _ m => k ⟨a.1 ++ b.1, wr o.dst (.c [] (.v (.int kk (if m > n then m else n))))⟩
def stCalls {P : Program} (T : Tab P) (L : St) (z : Nat) (o : Oper) (c : Call) (k : Trc → Prop) : Prop := match c.callee with
  | .value (.func f) => stCall P L z o f c.args k
  | .builtin .len => match c.args.toList, c.argTypes.toList with
    | [x], [t] => stLen T L o t x k
    | _, _ => False
  | .builtin .min => match c.args.toList with
    | [x, y] => stMin L o x y k
    | _ => False
  | .builtin .max => match c.args.toList with
    | [x, y] => stMax L o x y k
    | _ => False
  | _ => False
def astep {P : Program} (T : Tab P) (L : St) (z : Nat) (o : Oper) (k : Trc → Prop) : Prop := match o.op with
  | .move x => stMove L o x k
  | .assign x => stMove L o x k
  | .pick c x y => stPick L o c x y k
  | .binOp op t x y _ => stBin T L o op t x y k
  | .unOp op _ x => stUn L o op x k
  | .convert s d x => stConv T L o s d x k
  | .load t x => stLoad T L o t x k
  | .fieldAddr s x f => stFaddr T L o s x f k
  | .field s x f => stField T L o s x f k
  | .extract x i => stExtract L o x i k
  | .indexAddr t x ix => stIaddr T L o t x ix k
  | .slice t x lo hi mx => stSlice T L o t x lo hi mx k
  | .alloc t => stAlloc T L z o t k
  | .box _ x => stBox L z o x k
  | .store t x v => stStore T L o t x v k
  | .build t ps => stBuild T L o t ps k
  | .buildSlice t n ps => stRows T L z o t n ps k
  | .call c => stCalls T L z o c k
  | _ => False
section
variable {P : Program} (T : Tab P) (L : St) (z : Nat) (d : Option Tmp) (ty : TypeId) (s : String) (e : Array Edge) (g : Option (Nat × Bool)) (k : Trc → Prop)
theorem as_move (x : Operand) : astep T L z ⟨d, .move x, ty, s, e, g⟩ k = stMove L ⟨d, .move x, ty, s, e, g⟩ x k := rfl
theorem as_assign (x : Operand) : astep T L z ⟨d, .assign x, ty, s, e, g⟩ k = stMove L ⟨d, .assign x, ty, s, e, g⟩ x k := rfl
theorem as_pick (c x y : Operand) : astep T L z ⟨d, .pick c x y, ty, s, e, g⟩ k = stPick L ⟨d, .pick c x y, ty, s, e, g⟩ c x y k := rfl
theorem as_bin (op : BinOp) (t u : TypeId) (x y : Operand) : astep T L z ⟨d, .binOp op t x y u, ty, s, e, g⟩ k = stBin T L ⟨d, .binOp op t x y u, ty, s, e, g⟩ op t x y k := rfl
theorem as_un (op : UnOp) (t : TypeId) (x : Operand) : astep T L z ⟨d, .unOp op t x, ty, s, e, g⟩ k = stUn L ⟨d, .unOp op t x, ty, s, e, g⟩ op x k := rfl
theorem as_conv (a b : TypeId) (x : Operand) : astep T L z ⟨d, .convert a b x, ty, s, e, g⟩ k = stConv T L ⟨d, .convert a b x, ty, s, e, g⟩ a b x k := rfl
theorem as_load (t : TypeId) (x : Operand) : astep T L z ⟨d, .load t x, ty, s, e, g⟩ k = stLoad T L ⟨d, .load t x, ty, s, e, g⟩ t x k := rfl
theorem as_faddr (t : TypeId) (x : Operand) (f : Nat) : astep T L z ⟨d, .fieldAddr t x f, ty, s, e, g⟩ k = stFaddr T L ⟨d, .fieldAddr t x f, ty, s, e, g⟩ t x f k := rfl
theorem as_field (t : TypeId) (x : Operand) (f : Nat) : astep T L z ⟨d, .field t x f, ty, s, e, g⟩ k = stField T L ⟨d, .field t x f, ty, s, e, g⟩ t x f k := rfl
theorem as_extract (x : Operand) (i : Nat) : astep T L z ⟨d, .extract x i, ty, s, e, g⟩ k = stExtract L ⟨d, .extract x i, ty, s, e, g⟩ x i k := rfl
theorem as_iaddr (t : TypeId) (x ix : Operand) : astep T L z ⟨d, .indexAddr t x ix, ty, s, e, g⟩ k = stIaddr T L ⟨d, .indexAddr t x ix, ty, s, e, g⟩ t x ix k := rfl
theorem as_slice (t : TypeId) (x : Operand) (lo hi mx : Option Operand) : astep T L z ⟨d, .slice t x lo hi mx, ty, s, e, g⟩ k = stSlice T L ⟨d, .slice t x lo hi mx, ty, s, e, g⟩ t x lo hi mx k := rfl
theorem as_alloc (t : TypeId) : astep T L z ⟨d, .alloc t, ty, s, e, g⟩ k = stAlloc T L z ⟨d, .alloc t, ty, s, e, g⟩ t k := rfl
theorem as_box (t : TypeId) (x : Operand) : astep T L z ⟨d, .box t x, ty, s, e, g⟩ k = stBox L z ⟨d, .box t x, ty, s, e, g⟩ x k := rfl
theorem as_store (t : TypeId) (x v : Operand) : astep T L z ⟨d, .store t x v, ty, s, e, g⟩ k = stStore T L ⟨d, .store t x v, ty, s, e, g⟩ t x v k := rfl
theorem as_build (t : TypeId) (ps : Array (Nat × Operand)) : astep T L z ⟨d, .build t ps, ty, s, e, g⟩ k = stBuild T L ⟨d, .build t ps, ty, s, e, g⟩ t ps k := rfl
theorem as_rows (t : TypeId) (n : Nat) (ps : Array (Nat × Operand)) : astep T L z ⟨d, .buildSlice t n ps, ty, s, e, g⟩ k = stRows T L z ⟨d, .buildSlice t n ps, ty, s, e, g⟩ t n ps k := rfl
theorem as_call (f : FuncId) (args : Array Operand) (ats : Array TypeId) : astep T L z ⟨d, .call ⟨.value (.func f), args, ats⟩, ty, s, e, g⟩ k = stCall P L z ⟨d, .call ⟨.value (.func f), args, ats⟩, ty, s, e, g⟩ f args k := rfl
theorem as_len (x : Operand) (t : TypeId) : astep T L z ⟨d, .call ⟨.builtin .len, #[x], #[t]⟩, ty, s, e, g⟩ k = stLen T L ⟨d, .call ⟨.builtin .len, #[x], #[t]⟩, ty, s, e, g⟩ t x k := rfl
theorem as_min (x y : Operand) (ats : Array TypeId) : astep T L z ⟨d, .call ⟨.builtin .min, #[x, y], ats⟩, ty, s, e, g⟩ k = stMin L ⟨d, .call ⟨.builtin .min, #[x, y], ats⟩, ty, s, e, g⟩ x y k := rfl
theorem as_max (x y : Operand) (ats : Array TypeId) : astep T L z ⟨d, .call ⟨.builtin .max, #[x, y], ats⟩, ty, s, e, g⟩ k = stMax L ⟨d, .call ⟨.builtin .max, #[x, y], ats⟩, ty, s, e, g⟩ x y k := rfl
end
theorem ob_ok {α : Type} {e : Option α} {k : α → Prop} (h : ob e k) : ∃ v, e = some v ∧ k v := by
  unfold ob at h
  split at h
  · exact ⟨_, rfl, h⟩
  · exact h.elim
theorem kva_ok {e : KV} {k : AV → Prop} (h : kva e k) : ∃ x, e = .av x ∧ k x := by
  unfold kva at h
  split at h
  · exact ⟨_, rfl, h⟩
  · exact h.elim
theorem kfree_ok {e : KV} {k : Prop} (h : kfree e k) : e = .zn .free ∧ k := by
  unfold kfree at h
  split at h
  · exact ⟨rfl, h⟩
  · exact h.elim
theorem knm_ok {e : KV} {k : Prop} (h : knm e k) : e = .nm false ∧ k := by
  unfold knm at h
  split at h
  · exact ⟨rfl, h⟩
  · exact h.elim
@[congr] theorem callAny_congr {L : St} {z : Nat} {f : FuncId} {args : List Operand} {r r' : Row} {ds ds' : List DV} {k : Trc → Prop} (h1 : r = r') (h2 : ds = ds') : callAny P L z o f args r ds k = callAny P L z o f args r' ds' k := by rw [h1, h2]
@[congr] theorem iaddrAny_congr {n n' : Int} {rows rows' : List (List D)} {k : List D → Prop} (h1 : n = n') (h2 : rows = rows') : iaddrAny n rows k = iaddrAny n' rows' k := by rw [h1, h2]
@[congr] theorem iaddrArr_congr {n n' : Int} {m m' : Nat} {k : Nat → Prop} (h1 : n = n') (h2 : m = m') : iaddrArr n m k = iaddrArr n' m' k := by rw [h1, h2]
@[congr] theorem sliceAny_congr {b1 b1' b2 b2' b3 b3' : Option (IntKind × Int)} {rows rows' : List (List D)} {k : List (List D) → Prop} (h1 : b1 = b1') (h2 : b2 = b2') (h3 : b3 = b3') (h4 : rows = rows') : sliceAny b1 b2 b3 rows k = sliceAny b1' b2' b3' rows' k := by rw [h1, h2, h3, h4]
@[congr] theorem stBinAny_congr {op : BinOp} {t : TypeId} {x y : Operand} {u u' v v' : Value} {k : Value → Prop} (h1 : u = u') (h2 : v = v') : stBinAny P op t x y u v k = stBinAny P op t x y u' v' k := by rw [h1, h2]
def Out (P : Program) (W0 : World) (N : Nat) (Q : Exit → Act → World → Prop) (L : St) (o : Oper) (k : Trc → Prop) : Prop := ∃ tr, k tr ∧ Rd L tr.reads ∧ OpOk P W0 N Q o tr
theorem stMove_ok {x : Operand} (ho : o.op = .move x ∨ o.op = .assign x) (hd : dok N o = true) (h : stMove L o x k) : Out P W0 N Q L o k := by
  obtain ⟨y, hx, h⟩ := ob_ok h
  exact ⟨_, h, opd_rd hx, op_move ho hx (dok_ok hd)⟩
theorem stPick_ok {c x y : Operand} (ho : o.op = .pick c x y) (hd : dok N o = true) (h : stPick L o c x y k) : Out P W0 N Q L o k := by
  obtain ⟨⟨r', t⟩, hc, h1⟩ := ob_ok h
  obtain ⟨b, e, h2⟩ := vb_ok h1
  simp only at e; subst e
  cases b with
  | true =>
    obtain ⟨v, hx, h3⟩ := ob_ok (h2.1 rfl)
    exact ⟨_, h3, Rd.app (opr_rd hc) (opd_rd hx), op_pick ho hc (by simpa using hx) (dok_ok hd)⟩
  | false =>
    obtain ⟨v, hx, h3⟩ := ob_ok (h2.2 (by simp))
    exact ⟨_, h3, Rd.app (opr_rd hc) (opd_rd hx), op_pick ho hc (by simpa using hx) (dok_ok hd)⟩
theorem binT_run {T : Tab P} {op : BinOp} {t : TypeId} {x y : Operand} {u v z : Value} (h : binT T op t u v = some z) (w : World) : (do eqGuard op t x y u v; binOp op t u v : Sem Value).run P w = .ok z w := by
  unfold binT at h
  split at h
  · rename_i a b
    split at h
    · rename_i ti ht
      split at h
      · rename_i hs
        obtain ⟨d, h1, h2⟩ := (T.ok t ti ht).und
        rw [hs] at h2
        have hd : d = .bool := by cases d <;> simp [shp] at h2 ⊢
        subst hd
        have := run_underlying h1 (w := w)
        have he : (Op.equal t (.bool a) (.bool b)).run P w = .ok (a == b) w := by
          show ((do match ← underlying t, Value.bool a, Value.bool b with | _, _, _ => _ : Sem Bool)).run P w = _
          rw [Sem.run_bind, this]
          rfl
        split at h <;> cases h
        · simp [eqGuard, binOp, he]
        · simp [eqGuard, binOp, he]
      · cases h
    · cases h
  · cases h
theorem stBin_ok {op : BinOp} {t t' : TypeId} {x y : Operand} (ho : o.op = .binOp op t x y t') (hd : dok N o = true) (h : stBin T L o op t x y k) : Out P W0 N Q L o k := by
  obtain ⟨a, hx, h1⟩ := ob_ok h
  obtain ⟨b, hy, h2⟩ := ob_ok h1
  rcases opc_ok h2 with ⟨z, hc, h3⟩ | ⟨_, h2⟩
  · exact ⟨_, h3.2, Rd.app (opr_rd hx) (opr_rd hy), op_bin ho hx hy (dok_ok hd) fun w => bin_run hc h3.1 w⟩
  · rcases opc_ok h2 with ⟨z, hc, h3⟩ | ⟨_, z, h3, h4⟩
    · exact ⟨_, h3, Rd.app (opr_rd hx) (opr_rd hy), op_bin ho hx hy (dok_ok hd) fun w => binT_run hc w⟩
    · exact ⟨_, h4, Rd.app (opr_rd hx) (opr_rd hy), op_bin ho hx hy (dok_ok hd) h3⟩
theorem stUn_ok {op : UnOp} {t : TypeId} {x : Operand} (ho : o.op = .unOp op t x) (hd : dok N o = true) (h : stUn L o op x k) : Out P W0 N Q L o k := by
  obtain ⟨⟨r, y⟩, hx, h1⟩ := ob_ok h
  rcases unc_ok h1 with ⟨rfl, h2⟩ | ⟨rfl, h2⟩
  · obtain ⟨b, e, h3⟩ := vb_ok h2
    simp only at e; subst e
    exact ⟨_, h3, opr_rd hx, op_not ho hx (dok_ok hd)⟩
  · obtain ⟨kk, n, e, h3⟩ := vi_ok h2
    simp only at e; subst e
    exact ⟨_, h3, opr_rd hx, op_neg ho hx (dok_ok hd)⟩
theorem stConv_ok {s d : TypeId} {x : Operand} (ho : o.op = .convert s d x) (hd : dok N o = true) (h : stConv T L o s d x k) : Out P W0 N Q L o k := by
  obtain ⟨⟨r, y⟩, hx, h1⟩ := ob_ok h
  obtain ⟨si, hs, h2⟩ := ob_ok h1
  obtain ⟨di, hdt, h3⟩ := ob_ok h2
  obtain ⟨kk, n, e, h4⟩ := vi_ok h3
  simp only at e; subst e
  obtain ⟨k', hk, h5⟩ := shi_ok h4
  exact ⟨_, h5, opr_rd hx, op_conv ho hx hs hdt hk (dok_ok hd)⟩
theorem stLoad_ok {t : TypeId} {x : Operand} (ho : o.op = .load t x) (hd : dok N o = true) (h : stLoad T L o t x k) : Out P W0 N Q L o k := by
  obtain ⟨ti, ht, h1⟩ := ob_ok h
  obtain ⟨⟨r, y⟩, hx, h2⟩ := ob_ok h1
  rcases avps_ok h2 with ⟨n, off, e, h3⟩ | ⟨zs, ds, e, h3⟩
  · simp only at e; subst e
    rcases bc_ok h3 with ⟨hg, h4⟩ | ⟨hg, h4⟩
    · obtain ⟨c, hc, h5⟩ := ob_ok h4
      exact ⟨_, h5, Rd.app (opd_rd hx) (cells_rd hc), op_load_box ho ht hg hx hc (dok_ok hd)⟩
    · obtain ⟨v, hc, h5⟩ := kva_ok h4
      exact ⟨_, h5, Rd.app (opd_rd hx) (Rd.cons hc Rd.nil), op_load_cell ho ht hg hx hc (dok_ok hd)⟩
  · simp only at e; subst e
    obtain ⟨r', hz, h4⟩ := ob_ok h3
    rcases bc_ok h4 with ⟨hg, h5⟩ | ⟨hg, h5⟩
    · exact ⟨_, h5.2, Rd.app (opd_rd hx) (zr_rd hz), op_load_row ho ht hg hx hz h5.1 (dok_ok hd)⟩
    · obtain ⟨d, ds', rfl, h6⟩ := hd1_ok h5
      exact ⟨_, h6, Rd.app (opd_rd hx) (zr_rd hz), op_load_seg ho ht hg hx hz (dok_ok hd)⟩
theorem stFaddr_ok {s : TypeId} {x : Operand} {f : Nat} (ho : o.op = .fieldAddr s x f) (hd : dok N o = true) (h : stFaddr T L o s x f k) : Out P W0 N Q L o k := by
  obtain ⟨si, hs, h1⟩ := ob_ok h
  obtain ⟨fs, hsh, h2⟩ := shs_ok h1
  obtain ⟨fo, hf, h3⟩ := ob_ok h2
  obtain ⟨fi, hft, hne, h4⟩ := ob_ok h3
  obtain ⟨⟨r, y⟩, hx, h5⟩ := ob_ok h4
  have hne := of_decide_eq_true hne
  rcases avps_ok h5 with ⟨n, off, e, h6⟩ | ⟨zs, ds, e, h6⟩
  · simp only at e; subst e
    exact ⟨_, h6, opd_rd hx, op_faddr ho hs hsh hf hft hne hx (dok_ok hd)⟩
  · simp only at e; subst e
    obtain ⟨r', hz, h7⟩ := ob_ok h6
    exact ⟨_, h7, Rd.app (opd_rd hx) (zr_rd hz), op_faddr_seg ho hs hsh hf hft hne hx hz (dok_ok hd)⟩
theorem stField_ok {s : TypeId} {x : Operand} {f : Nat} (ho : o.op = .field s x f) (hd : dok N o = true) (h : stField T L o s x f k) : Out P W0 N Q L o k := by
  obtain ⟨si, hs, h1⟩ := ob_ok h
  obtain ⟨fs, hsh, h2⟩ := shs_ok h1
  obtain ⟨fo, hf, h3⟩ := ob_ok h2
  obtain ⟨fi, hft, hg, h4⟩ := ob_ok h3
  obtain ⟨⟨r, y⟩, hx, h5⟩ := ob_ok h4
  obtain ⟨cs, e, h6⟩ := avagg_ok h5
  simp only at e; subst e
  obtain ⟨c, hy, h7⟩ := ob_ok h6
  exact ⟨_, h7, opd_rd hx, op_field ho hs hsh hf hft (by simpa using hg) hx hy (dok_ok hd)⟩
theorem stExtract_ok {x : Operand} {i : Nat} (ho : o.op = .extract x i) (hd : dok N o = true) (h : stExtract L o x i k) : Out P W0 N Q L o k := by
  obtain ⟨⟨r, y⟩, hx, h1⟩ := ob_ok h
  obtain ⟨zs, l, e, h2⟩ := avtup_ok h1
  simp only at e; subst e
  obtain ⟨r', hz, h3⟩ := ob_ok h2
  obtain ⟨d, hi, h4⟩ := ob_ok h3
  exact ⟨_, h4, Rd.app (opd_rd hx) (zr_rd hz), op_extract ho hx hz hi (dok_ok hd)⟩
theorem stIaddr_ok {t : TypeId} {x ix : Operand} (ho : o.op = .indexAddr t x ix) (hd : dok N o = true) (h : stIaddr T L o t x ix k) : Out P W0 N Q L o k := by
  obtain ⟨ti, ht, h1⟩ := ob_ok h
  rcases shla_ok h1 with ⟨e, hsh, h2⟩ | ⟨m, e, hsh, h2⟩
  · obtain ⟨ei, he, h3⟩ := ob_ok h2
    obtain ⟨y, hx, h4⟩ := ob_ok h3
    obtain ⟨⟨r', i⟩, hi, h5⟩ := ob_ok h4
    obtain ⟨kk, n, e1, h6⟩ := vi_ok h5
    simp only at e1; subst e1
    obtain ⟨j, row, h7, h8, h9⟩ := h6
    exact ⟨_, h9, Rd.app (ops_rd hx) (opr_rd hi), op_iaddr ho ht hsh he hx hi h7 h8 (dok_ok hd)⟩
  · obtain ⟨ei, he, h3⟩ := ob_ok h2
    obtain ⟨⟨r, y⟩, hx, h4⟩ := ob_ok h3
    obtain ⟨⟨r', i⟩, hi, h5⟩ := ob_ok h4
    obtain ⟨nn, off, e1, h6⟩ := avp_ok h5
    simp only at e1; subst e1
    obtain ⟨kk, n, e2, h7⟩ := vi_ok h6
    simp only at e2; subst e2
    obtain ⟨j, h8, h9, h10⟩ := h7
    exact ⟨_, h10, Rd.app (opd_rd hx) (opr_rd hi), op_iaddr_arr ho ht hsh he hx hi h8 h9 (dok_ok hd)⟩
theorem stSlice_ok {t : TypeId} {x : Operand} {lo hi mx : Option Operand} (ho : o.op = .slice t x lo hi mx) (hd : dok N o = true) (h : stSlice T L o t x lo hi mx k) : Out P W0 N Q L o k := by
  obtain ⟨ti, ht, g1⟩ := ob_ok h
  obtain ⟨e, hsh, g2⟩ := shl_ok g1
  obtain ⟨ei, he, g3⟩ := ob_ok g2
  obtain ⟨y, hx, g4⟩ := ob_ok g3
  obtain ⟨b1, h1, g5⟩ := ob_ok g4
  obtain ⟨b2, h2, g6⟩ := ob_ok g5
  obtain ⟨b3, h3, g7⟩ := ob_ok g6
  obtain ⟨c1, c2, c3, n1, n2, n3, hmx, k1, k2, k3, g8⟩ := g7
  exact ⟨_, g8, Rd.app (ops_rd hx) (Rd.app (opb_rd h1) (Rd.app (opb_rd h2) (opb_rd h3))), op_slice ho ht hsh he hx h1 h2 h3 n1 n2 n3 hmx k1 k2 k3 (dok_ok hd)⟩
theorem stAlloc_ok {t : TypeId} {z : Nat} (ho : o.op = .alloc t) (hd : dok N o = true) (h : stAlloc T L z o t k) : Out P W0 N Q L o k := by
  obtain ⟨ti, ht, h1⟩ := ob_ok h
  obtain ⟨hn, h2⟩ := knm_ok h1
  exact ⟨_, h2, Rd.cons hn Rd.nil, op_alloc ho ht hn (dok_ok hd)⟩
theorem stBox_ok {t : TypeId} {x : Operand} {z : Nat} (ho : o.op = .box t x) (hd : dok N o = true) (h : stBox L z o x k) : Out P W0 N Q L o k := by
  obtain ⟨y, hx, h1⟩ := ob_ok h
  obtain ⟨hn, h2⟩ := knm_ok h1
  obtain ⟨s, hs, h3⟩ := ob_ok h2
  exact ⟨_, h3, Rd.cons hn (Rd.app (opd_rd hx) (spread_rd hs)), op_box ho hx hs hn (dok_ok hd)⟩
theorem stStore_ok {t : TypeId} {x v : Operand} (ho : o.op = .store t x v) (h : stStore T L o t x v k) : Out P W0 N Q L o k := by
  obtain ⟨ti, ht, h1⟩ := ob_ok h
  obtain ⟨⟨r, y⟩, hx, h2⟩ := ob_ok h1
  obtain ⟨n, off, e, h3⟩ := avp_ok h2
  simp only at e; subst e
  obtain ⟨u, hv, h4⟩ := ob_ok h3
  obtain ⟨s, hs, h5⟩ := ob_ok h4
  obtain ⟨r3, he, h6, h7⟩ := ob_ok h5
  simp only [Bool.and_eq_true, decide_eq_true_eq, Option.isNone_iff_eq_none] at h6
  exact ⟨_, h7, Rd.app (opd_rd hx) (Rd.app (opd_rd hv) (Rd.app (spread_rd hs) (ex_rd he))), op_store ho ht hx hv hs h6.1 he h6.2⟩
theorem stBuild_ok {t : TypeId} {ps : Array (Nat × Operand)} (ho : o.op = .build t ps) (hd : dok N o = true) (h : stBuild T L o t ps k) : Out P W0 N Q L o k := by
  obtain ⟨ti, ht, h1⟩ := ob_ok h
  obtain ⟨fs, hsh, h2⟩ := shs_ok h1
  obtain ⟨pl, hp, h3⟩ := ob_ok h2
  obtain ⟨c, hf, h4⟩ := ob_ok h3
  exact ⟨_, h4, fillO_rd hf, op_build ho ht hsh hp hf (dok_ok hd)⟩
theorem stRows_ok {t : TypeId} {n : Nat} {ps : Array (Nat × Operand)} {z : Nat} (ho : o.op = .buildSlice t n ps) (hd : dok N o = true) (h : stRows T L z o t n ps k) : Out P W0 N Q L o k := by
  obtain ⟨ti, ht, g1⟩ := ob_ok h
  obtain ⟨e, hsh, g2⟩ := shl_ok g1
  obtain ⟨ei, he, h0, g3⟩ := ob_ok g2
  obtain ⟨c, hf, g4⟩ := ob_ok g3
  obtain ⟨r', hzr, g5⟩ := ob_ok g4
  obtain ⟨hz, g6⟩ := kfree_ok g5
  simp only [Bool.and_eq_true, decide_eq_true_eq] at h0
  obtain ⟨⟨h1, h2⟩, h3⟩ := h0
  have hn : n ≤ maxI := by
    have : n * 1 ≤ n * ei.size := Nat.mul_le_mul_left _ h3
    unfold maxI; omega
  exact ⟨_, g6, Rd.cons hz (Rd.app (fillO_rd hf) (zr_rd hzr)), op_rows ho ht hsh he h1 h2 h3 hn hf hzr hz (dok_ok hd)⟩
theorem stCall_ok {f : FuncId} {args : Array Operand} {ats : Array TypeId} {z : Nat} (ho : o.op = .call { callee := .value (.func f), args := args, argTypes := ats }) (hd : dok N o = true) (h : stCall P L z o f args k) : Out P W0 N Q L o k := by
  obtain ⟨y, hargs, hf, ⟨app, res, hc, h1⟩ | ⟨hc, h0, h1⟩⟩ := ob_ok h
  · rcases bc_ok h1 with ⟨hv, h2⟩ | ⟨hv, h2⟩
    · obtain ⟨rfl, h3⟩ := h2
      exact ⟨_, h3, argsOf_rd hargs, op_callv ho hf hargs hc hv (dok_ok hd)⟩
    · obtain ⟨hz, h3⟩ := kfree_ok h2
      exact ⟨_, h3, Rd.cons hz (argsOf_rd hargs), op_call ho hf hargs hc hz (dok_ok hd)⟩
  · exact ⟨_, h1, argsOf_rd hargs, op_kill ho hf hargs hc h0 (dok_ok hd)⟩
theorem stLen_ok {t : TypeId} {x : Operand} (ho : o.op = .call { callee := .builtin .len, args := #[x], argTypes := #[t] }) (hd : dok N o = true) (h : stLen T L o t x k) : Out P W0 N Q L o k := by
  obtain ⟨ti, ht, h1⟩ := ob_ok h
  rcases shls_ok h1 with ⟨e, hsh, h2⟩ | ⟨hsh, h2⟩
  · obtain ⟨ei, he, h3⟩ := ob_ok h2
    obtain ⟨y, hx, h4⟩ := ob_ok h3
    exact ⟨_, h4, ops_rd hx, op_len ho ht hsh he hx (dok_ok hd)⟩
  · obtain ⟨⟨r, y⟩, hx, h3⟩ := ob_ok h2
    obtain ⟨s, e, h4⟩ := vstr_ok h3
    simp only at e; subst e
    exact ⟨_, h4, opr_rd hx, op_lens ho ht hsh hx (dok_ok hd)⟩
theorem stMin_ok {x y : Operand} {ts : Array TypeId} (ho : o.op = .call { callee := .builtin .min, args := #[x, y], argTypes := ts }) (hd : dok N o = true) (h : stMin L o x y k) : Out P W0 N Q L o k := by
  obtain ⟨⟨r, a⟩, hx, h1⟩ := ob_ok h
  obtain ⟨⟨r', b⟩, hy, h2⟩ := ob_ok h1
  obtain ⟨kk, n, e, h3⟩ := vi_ok h2
  simp only at e; subst e
  obtain ⟨k2, m, e, h4⟩ := vi_ok h3
  simp only at e; subst e
  exact ⟨_, h4, Rd.app (opr_rd hx) (opr_rd hy), op_min ho hx hy (dok_ok hd)⟩
theorem stMax_ok {x y : Operand} {ts : Array TypeId} (ho : o.op = .call { callee := .builtin .max, args := #[x, y], argTypes := ts }) (hd : dok N o = true) (h : stMax L o x y k) : Out P W0 N Q L o k := by
  obtain ⟨⟨r, a⟩, hx, h1⟩ := ob_ok h
  obtain ⟨⟨r', b⟩, hy, h2⟩ := ob_ok h1
  obtain ⟨kk, n, e, h3⟩ := vi_ok h2
  simp only at e; subst e
  obtain ⟨k2, m, e, h4⟩ := vi_ok h3
  simp only at e; subst e
  exact ⟨_, h4, Rd.app (opr_rd hx) (opr_rd hy), op_max ho hx hy (dok_ok hd)⟩
theorem toList_eq {α : Type} {a : Array α} {l : List α} (h : a.toList = l) : a = l.toArray := by rw [← h]
theorem stCalls_ok {c : Call} {z : Nat} (ho : o.op = .call c) (hd : dok N o = true) (h : stCalls T L z o c k) : Out P W0 N Q L o k := by
  obtain ⟨callee, args, ats⟩ := c
  unfold stCalls at h
  simp only at h
  split at h
  · exact stCall_ok ho hd h
  · split at h
    · rename_i h1 h2
      rw [toList_eq h1, toList_eq h2] at ho
      exact stLen_ok ho hd h
    · exact h.elim
  · split at h
    · rename_i h1
      rw [toList_eq h1] at ho
      exact stMin_ok ho hd h
    · exact h.elim
  · split at h
    · rename_i h1
      rw [toList_eq h1] at ho
      exact stMax_ok ho hd h
    · exact h.elim
  · exact h.elim
theorem astep_ok {z : Nat} (hd : dok N o = true) (h : astep T L z o k) : Out P W0 N Q L o k := by
  unfold astep at h
  split at h
  · rename_i ho; exact stMove_ok (.inl ho) hd h
  · rename_i ho; exact stMove_ok (.inr ho) hd h
  · rename_i ho; exact stPick_ok ho hd h
  · rename_i ho; exact stBin_ok ho hd h
  · rename_i ho; exact stUn_ok ho hd h
  · rename_i ho; exact stConv_ok ho hd h
  · rename_i ho; exact stLoad_ok ho hd h
  · rename_i ho; exact stFaddr_ok ho hd h
  · rename_i ho; exact stField_ok ho hd h
  · rename_i ho; exact stExtract_ok ho hd h
  · rename_i ho; exact stIaddr_ok ho hd h
  · rename_i ho; exact stSlice_ok ho hd h
  · rename_i ho; exact stAlloc_ok ho hd h
  · rename_i ho; exact stBox_ok ho hd h
  · rename_i ho; exact stStore_ok ho h
  · rename_i ho; exact stBuild_ok ho hd h
  · rename_i ho; exact stRows_ok ho hd h
  · rename_i ho; exact stCalls_ok ho hd h
  · exact h.elim
end
end Go.Proofs.Ytlkdkhmdmgchbaa
namespace Go.Proofs.Ytlkdkhmdmgchbaa
set_option linter.unusedSimpArgs false
set_option linter.unusedVariables false
open Go.RowKit

section
variable {P : Program} {W0 : World} {N : Nat} {Q : Exit → Act → World → Prop} {T : Tab P}
/-- an operation's guard. -/
def gd (ops : Array Oper) (L : St) (o : Oper) (run skip : Row → Prop) : Prop := match o.guard with
  | none => run []
  | some (j, want) => ob ((ops[j]?).bind (·.dst)) fun d => kva (L (.tmp d)) fun x => avb x fun b => gsel b want (run [(.tmp d, .av (.c [] (.v (.bool b))))]) (skip [(.tmp d, .av (.c [] (.v (.bool b))))])
def arun (T : Tab P) (N : Nat) (ops : Array Oper) : Nat → List Oper → Row → List (List Key × List Key) → (List (List Key × List Key) → Row → Prop) → Prop
  | _, [], L, ks, k => k ks L
  | z, o :: todo, L, ks, k => chk (dok N o) (gd ops (lk L) o
      (fun gr => astep T (lk L) z o fun tr => arun T N ops (z + 1) todo (puts L tr.writes) (ks ++ [((gr ++ tr.reads).map (·.1), tr.writes.map (·.1))]) k)
      (fun gr => arun T N ops (z + 1) todo (puts L (wr o.dst (.c [] (.v undef)))) (ks ++ [(gr.map (·.1), (wr o.dst (.c [] (.v undef))).map (·.1))]) k))
theorem gd_ok {ops : Array Oper} {L : St} {o : Oper} {run skip : Row → Prop} (h : gd ops L o run skip) :
    (∃ gr, run gr ∧ Rd L gr ∧ ∀ σ a w, AS W0 N σ a w → (∀ kv ∈ gr, σ kv.1 = kv.2) → Region.wanted o (yielded ops a.tmps) = true) ∨
    (∃ gr, skip gr ∧ Rd L gr ∧ ∀ σ a w, AS W0 N σ a w → (∀ kv ∈ gr, σ kv.1 = kv.2) → Region.wanted o (yielded ops a.tmps) = false) := by
  unfold gd at h
  split at h
  · rename_i hg
    exact .inl ⟨[], h, Rd.nil, fun σ a w _ _ => by simp [Region.wanted, hg]⟩
  · rename_i j want hg
    obtain ⟨d, hd, h⟩ := ob_ok h
    obtain ⟨x, hL, h⟩ := kva_ok h
    obtain ⟨b, rfl, h⟩ := avb_ok h
    · have key : ∀ σ a w, AS W0 N σ a w → (∀ kv ∈ [((.tmp d : Key), KV.av (.c [] (.v (.bool b))))], σ kv.1 = kv.2) → yielded ops a.tmps j = some b := by
        intro σ a w ⟨G, hA⟩ hr
        obtain ⟨v, h1, h2⟩ := hA.tmp d _ (hr (.tmp d, .av (.c [] (.v (.bool b)))) (by simp))
        have := (h2.rep (fun z hz => absurd hz (by simp))).raw
        subst this
        unfold yielded
        rw [hd]
        simp [h1]
      by_cases e : b = want
      · exact .inl ⟨_, h.1 e, Rd.cons hL Rd.nil, fun σ a w hA hr => by simp [Region.wanted, hg, key σ a w hA hr, e]⟩
      · exact .inr ⟨_, h.2 e, Rd.cons hL Rd.nil, fun σ a w hA hr => by simp [Region.wanted, hg, key σ a w hA hr, e]⟩
theorem arun_nil (T : Tab P) (N : Nat) (ops : Array Oper) (z : Nat) (L : Row) (ks : List (List Key × List Key)) (k : List (List Key × List Key) → Row → Prop) : arun T N ops z [] L ks k = k ks L := rfl
theorem arun_cons (T : Tab P) (N : Nat) (ops : Array Oper) (z : Nat) (o : Oper) (todo : List Oper) (L : Row) (ks : List (List Key × List Key)) (k : List (List Key × List Key) → Row → Prop) : arun T N ops z (o :: todo) L ks k = chk (dok N o) (gd ops (lk L) o
      (fun gr => astep T (lk L) z o fun tr => arun T N ops (z + 1) todo (puts L tr.writes) (ks ++ [((gr ++ tr.reads).map (·.1), tr.writes.map (·.1))]) k)
      (fun gr => arun T N ops (z + 1) todo (puts L (wr o.dst (.c [] (.v undef)))) (ks ++ [(gr.map (·.1), (wr o.dst (.c [] (.v undef))).map (·.1))]) k)) := rfl
@[congr] theorem arun_congr {T : Tab P} {N : Nat} {ops : Array Oper} {z z' : Nat} {todo : List Oper} {L L' : Row} {ks ks' : List (List Key × List Key)} {k : List (List Key × List Key) → Row → Prop} (h1 : z = z') (h2 : L = L') (h3 : ks = ks') : arun T N ops z todo L ks k = arun T N ops z' todo L' ks' k := by rw [h1, h2, h3]
theorem valid_run {ops : Array Oper} {i : Nat} {o : Oper} {gr : Row} {tr : Trc} (ho : ops[i]? = some o) (hw : ∀ σ a w, AS W0 N σ a w → (∀ kv ∈ gr, σ kv.1 = kv.2) → Region.wanted o (yielded ops a.tmps) = true) (h : OpOk P W0 N Q o tr) : Valid P W0 N ops Q i ⟨gr ++ tr.reads, tr.writes⟩ := by
  intro σ a w K hA hr hK
  have h1 := hw σ a w hA fun kv hkv => hr kv (List.mem_append_left _ hkv)
  unfold wpOp
  simp only [ho, h1, if_true]
  exact .inl (h σ a w K hA (fun kv hkv => hr kv (List.mem_append_right _ hkv)) hK)
theorem valid_skip {ops : Array Oper} {i : Nat} {o : Oper} {gr : Row} (ho : ops[i]? = some o) (hd : dok N o = true) (hw : ∀ σ a w, AS W0 N σ a w → (∀ kv ∈ gr, σ kv.1 = kv.2) → Region.wanted o (yielded ops a.tmps) = false) : Valid P W0 N ops Q i ⟨gr, wr o.dst (.c [] (.v undef))⟩ := by
  intro σ a w K hA hr hK
  have h1 := hw σ a w hA hr
  unfold wpOp
  simp only [ho, h1, Bool.false_eq_true, if_false]
  obtain ⟨G, hA⟩ := hA
  exact hK _ _ ⟨G, hA.put (dok_ok hd) (rep_raw undef)⟩
def runs (σ : St) (trs : List Trc) : St := trs.foldl (fun σ t => ovr σ t.writes) σ
theorem runs_take (σ : St) (trs : List Trc) : ∀ i, i ≤ trs.length → stf σ (fun j => (trs.getD j ⟨[], []⟩).writes) (fun _ => true) i = runs σ (trs.take i)
  | 0, _ => rfl
  | i + 1, h => by
    unfold stf
    rw [if_pos rfl, runs_take σ trs i (by omega)]
    have e := List.take_succ_eq_append_getElem (show i < trs.length by omega)
    rw [e]
    simp only [runs, List.foldl_append, List.foldl_cons, List.foldl_nil, List.getD, List.getElem?_eq_getElem (show i < trs.length by omega), Option.getD_some]
theorem arun_ok {ops : Array Oper} : ∀ (todo done : List Oper) (z : Nat) (L : Row) (ks : List (List Key × List Key)) (k : List (List Key × List Key) → Row → Prop), ops.toList = done ++ todo → arun T N ops z todo L ks k →
    ∃ (trs : List Trc) (L' : Row), k (ks ++ trs.map fun t => (t.reads.map (·.1), t.writes.map (·.1))) L' ∧ trs.length = todo.length ∧ (∀ (i : Nat) (t : Trc), trs[i]? = some t → Valid P W0 N ops Q (done.length + i) t) ∧
      (∀ (i : Nat) (t : Trc), trs[i]? = some t → Rd (runs (lk L) (trs.take i)) t.reads) ∧ lk L' = runs (lk L) trs
  | [], done, z, L, ks, k, he, h => ⟨[], L, by simpa [arun] using h, rfl, fun i t ht => by simp at ht, fun i t ht => by simp at ht, rfl⟩
  | o :: todo, done, z, L, ks, k, he, h => by
    obtain ⟨hd, hg⟩ := h
    have ho : ops[done.length]? = some o := by
      rw [← Array.getElem?_toList, he]
      simp
    have he' : ops.toList = (done ++ [o]) ++ todo := by rw [he]; simp
    have fin : ∀ (t : Trc), Valid P W0 N ops Q done.length t → Rd (lk L) t.reads → arun T N ops (z + 1) todo (puts L t.writes) (ks ++ [(t.reads.map (·.1), t.writes.map (·.1))]) k →
        ∃ (trs : List Trc) (L' : Row), k (ks ++ trs.map fun t => (t.reads.map (·.1), t.writes.map (·.1))) L' ∧ trs.length = (o :: todo).length ∧ (∀ (i : Nat) (t : Trc), trs[i]? = some t → Valid P W0 N ops Q (done.length + i) t) ∧
          (∀ (i : Nat) (t : Trc), trs[i]? = some t → Rd (runs (lk L) (trs.take i)) t.reads) ∧ lk L' = runs (lk L) trs := by
      intro t hv hr h
      obtain ⟨trs, L', h1, h2, h3, h4, h5⟩ := arun_ok todo (done ++ [o]) (z + 1) _ _ k he' h
      refine ⟨t :: trs, L', by simpa using h1, by simp [h2], fun i t' ht => ?_, fun i t' ht => ?_, ?_⟩
      · cases i with
        | zero => simp only [List.getElem?_cons_zero, Option.some.injEq] at ht; subst ht; exact hv
        | succ i =>
          have := h3 i t' (by simpa using ht)
          rwa [show (done ++ [o]).length + i = done.length + (i + 1) by simp; omega] at this
      · cases i with
        | zero => simp only [List.getElem?_cons_zero, Option.some.injEq] at ht; subst ht; exact hr
        | succ i =>
          have := h4 i t' (by simpa using ht)
          rw [lk_puts] at this
          exact this
      · rw [h5, lk_puts]; rfl
    rcases gd_ok (W0 := W0) (N := N) hg with ⟨gr, h, hrd, hw⟩ | ⟨gr, h, hrd, hw⟩
    · obtain ⟨tr, h, hrd2, hok⟩ := astep_ok (W0 := W0) (Q := Q) hd h
      exact fin ⟨gr ++ tr.reads, tr.writes⟩ (valid_run ho hw hok) (Rd.app hrd hrd2) h
    · exact fin ⟨gr, wr o.dst (.c [] (.v undef))⟩ (valid_skip ho hd hw) hrd h
/-- a region. -/
theorem region_rule {id : Nat} {ops : Array Oper} {draw : Bool} {L : Row} {a : Act} {w : World} (hm : P.follows .mixedOrders = true) (base : Nat) (h : AS W0 N (lk L) a w)
    (hrun : arun T N ops base ops.toList L [] fun ks L' => (draw = true → edgesOk ops = true ∧ ordOk ops ks = true) ∧ ∀ a' w', AS W0 N (lk L') a' w' → Q .normal a' w') : (Code.region id ops draw).wp P Q a w := by
  obtain ⟨trs, L', ⟨hc, hk⟩, h2, h3, h4, h5⟩ := arun_ok (W0 := W0) (Q := Q) ops.toList [] base L [] _ rfl hrun
  have hn : trs.length = ops.size := by simpa using h2
  have hv : ∀ i, i < ops.size → Valid P W0 N ops Q i (trs.getD i ⟨[], []⟩) := fun i hi => by
    have := h3 i (trs.getD i ⟨[], []⟩) (by simp [List.getD, List.getElem?_eq_getElem (show i < trs.length by omega)])
    simpa using this
  have hr : ∀ i, i < ops.size → ∀ kv ∈ (trs.getD i ⟨[], []⟩).reads, stf (lk L) (fun j => (trs.getD j ⟨[], []⟩).writes) (fun _ => true) i kv.1 = kv.2 := fun i hi => by
    rw [runs_take _ _ _ (by omega)]
    exact h4 i (trs.getD i ⟨[], []⟩) (by simp [List.getD, List.getElem?_eq_getElem (show i < trs.length by omega)])
  have hend : stf (lk L) (fun j => (trs.getD j ⟨[], []⟩).writes) (fun _ => true) ops.size = lk L' := by
    rw [runs_take _ _ _ (by omega), ← hn, List.take_length, h5]
  cases draw with
  | false => exact region_text (tr := fun j => trs.getD j ⟨[], []⟩) hv hr h (fun a' w' h' => hk a' w' (by rw [← hend]; exact h'))
  | true =>
    obtain ⟨e1, e2⟩ := hc rfl
    refine region_drawn (tr := fun j => trs.getD j ⟨[], []⟩) hm e1 _ ?_ e2 hv hr h (fun a' w' h' => hk a' w' (by rw [← hend]; exact h'))
    apply List.ext_getElem?
    intro i
    by_cases hi : i < ops.size
    · simp [hi, hn, List.getD, List.getElem?_eq_getElem (show i < trs.length by omega)]
    · simp [List.getElem?_eq_none (show trs.length ≤ i by omega), hi]
end
end Go.Proofs.Ytlkdkhmdmgchbaa
namespace Go.Proofs.Ytlkdkhmdmgchbaa
set_option linter.unusedSimpArgs false
set_option linter.unusedVariables false
open Go.RowKit

section
variable {P : Program} {W0 : World} {N : Nat} {Q : Exit → Act → World → Prop} {T : Tab P} {L : Row} {c x y : Code}
def AW (P : Program) (W0 : World) (N : Nat) (c : Code) (Q : Exit → Act → World → Prop) (L : Row) : Prop := ∀ a w, AS W0 N (lk L) a w → c.wp P Q a w
def NX (W0 : World) (N : Nat) (Q : Exit → Act → World → Prop) (e : Exit) (L : Row) : Prop := ∀ a w, AS W0 N (lk L) a w → Q e a w
theorem AW.region {id : Nat} {ops : Array Oper} {draw : Bool} (hm : P.follows .mixedOrders = true) (base : Nat) (h : arun T N ops base ops.toList L [] fun ks L' => (draw = true → edgesOk ops = true ∧ ordOk ops ks = true) ∧ NX W0 N Q .normal L') : AW P W0 N (.region id ops draw) Q L :=
  fun _ _ hA => region_rule hm base hA h
theorem AW.seq (h : AW P W0 N x (Exit.then (y.wp P Q) Q) L) : AW P W0 N (.seq x y) Q L := fun a w hA => wp_seq (h a w hA)
theorem NX.then (h : AW P W0 N y Q L) : NX W0 N (Exit.then (y.wp P Q) Q) .normal L := h
theorem NX.ret {K : Act → World → Prop} (h : NX W0 N Q .ret L) : NX W0 N (Exit.then K Q) .ret L := h
theorem NX.exit {K : Act → World → Prop} {i : Nat} (h : NX W0 N Q (.exit i) L) : NX W0 N (Exit.then K Q) (.exit i) L := h
theorem NX.inRet {i : Nat} (h : NX W0 N Q .ret L) : NX W0 N (Exit.inBlock i Q) .ret L := h
theorem NX.inNormal {i : Nat} (h : NX W0 N Q .normal L) : NX W0 N (Exit.inBlock i Q) .normal L := h
theorem NX.inExit {i : Nat} (h : NX W0 N Q .normal L) : NX W0 N (Exit.inBlock i Q) (.exit i) L := fun a w hA => by simp only [Exit.inBlock, if_pos]; exact h a w hA
theorem NX.outExit {i j : Nat} (e : j ≠ i) (h : NX W0 N Q (.exit j) L) : NX W0 N (Exit.inBlock i Q) (.exit j) L := fun a w hA => by simp only [Exit.inBlock, if_neg e]; exact h a w hA
theorem AW.skip (h : NX W0 N Q .normal L) : AW P W0 N .skip Q L := fun a w hA => wp_skip (h a w hA)
theorem AW.label {l : Nat} (h : NX W0 N Q .normal L) : AW P W0 N (.label l) Q L := fun a w hA => wp_label (h a w hA)
theorem AW.exit {i : Nat} (h : NX W0 N Q (.exit i) L) : AW P W0 N (.exit i) Q L := fun a w hA => wp_exit (h a w hA)
theorem AW.ret (h : NX W0 N Q .ret L) : AW P W0 N .ret Q L := fun a w hA => wp_ret (h a w hA)
theorem AW.block {i : Nat} (h : AW P W0 N c (Exit.inBlock i Q) L) : AW P W0 N (.block i c) Q L := fun a w hA => wp_block (h a w hA)
theorem AW.cond {o : Operand} {r : Row} {t : Bool} (ho : opr (lk L) o = some (r, .bool t)) (h1 : t = true → AW P W0 N x Q L) (h2 : t = false → AW P W0 N y Q L) : AW P W0 N (.cond o x y) Q L := fun a w hA => by
  obtain ⟨G, hG⟩ := hA
  have e := opr_ok ho hG (opr_rd ho)
  exact wp_cond_split e (fun ht => h1 ht a w ⟨G, hG⟩) (fun ht => h2 ht a w ⟨G, hG⟩)
/-- a loop: what the state is at a round's head, by an index; a number that goes down. -/
theorem AW.loop {X : Type} (Lx : X → Row) (m : X → Nat) (x0 : X) (h0 : ∀ a w, AS W0 N (lk L) a w → AS W0 N (lk (Lx x0)) a w)
    (round : ∀ x, AW P W0 N c (Exit.then (fun a w => ∃ x', m x' < m x ∧ AS W0 N (lk (Lx x')) a w) Q) (Lx x)) : AW P W0 N (.loop c) Q L := fun a w hA => by
  refine wp_loop_ghost (fun n a w => ∃ x, m x = n ∧ AS W0 N (lk (Lx x)) a w) (m x0) ⟨x0, rfl, h0 a w hA⟩ ?_
  rintro n a w ⟨x, rfl, hx⟩
  refine wp_mono (round x a w hx) ?_
  intro e a' w' hq
  cases e with
  | normal => obtain ⟨x', h1, h2⟩ := hq; exact ⟨m x', h1, x', rfl, h2⟩
  | _ => exact hq
theorem NX.round {X : Type} {Lx : X → Row} {m : X → Nat} {x : X} (x' : X) (hm : m x' < m x) (h : ∀ a w, AS W0 N (lk L) a w → AS W0 N (lk (Lx x')) a w) : NX W0 N (Exit.then (fun a w => ∃ x', m x' < m x ∧ AS W0 N (lk (Lx x')) a w) Q) .normal L :=
  fun a w hA => ⟨x', hm, h a w hA⟩

/-- what a contract says of the end. -/
def CtR (W0 : World) (app : Option TypeId) (res : Res) : Ending → World → Prop := fun e w' => ∃ v Zn, e = .returned v ∧ Below W0.heap.size W0 w' ∧ (∀ g o, Zn g o → W0.heap.size ≤ g ∧ Soft w' g) ∧ RepR Zn w' v res ∧
      ∀ E, app = some E → ∃ sz rows vals, res = .one (.c (.s sz rows)) ∧ w'.ownsRow W0.heap.size E sz v rows.length vals ∧ ∀ k, v.ownBlock = some k → ∀ o, Zn k o → o < rows.length * sz
def argRows : Nat → List DV → Row
  | _, [] => []
  | i, d :: ds => (.tmp i, .av (atz [0] d)) :: argRows (i + 1) ds
theorem lk_args : ∀ (ds : List DV) (i t : Nat) (r : Row), lk (argRows i ds ++ r) (.tmp t) = if i ≤ t ∧ t < i + ds.length then (match ds[t - i]? with | some d => .av (atz [0] d) | none => .unk) else lk r (.tmp t)
  | [], i, t, r => by rw [if_neg (by simp)]; rfl
  | d :: ds, i, t, r => by
    simp only [argRows, List.cons_append, lk, Key.tmp.injEq]
    by_cases h : i = t
    · subst h; simp
    · rw [if_neg h, lk_args ds (i + 1) t r]
      by_cases h2 : i + 1 ≤ t ∧ t < i + 1 + ds.length
      · rw [if_pos h2, if_pos (by simp; omega), show t - i = (t - (i + 1)) + 1 by omega]
        simp
      · rw [if_neg h2, if_neg (by simp; omega)]
theorem lk_args_ne : ∀ (ds : List DV) (i : Nat) (r : Row) {k : Key}, (∀ t, k ≠ .tmp t) → lk (argRows i ds ++ r) k = lk r k
  | [], i, r, k, h => rfl
  | d :: ds, i, r, k, h => by
    simp only [argRows, List.cons_append, lk]
    rw [if_neg (fun e => h i e.symm)]
    exact lk_args_ne ds (i + 1) r h
/-- a function meets its contract, if its text does. -/
theorem ct_intro {f : FuncId} {fn : Func} {args : List DV} {app : Option TypeId} {res : Res} (hf : P.funcs[f]? = some fn) (hb : fn.body = some c) (hn : fn.ntmps = N) (hargs : args.length ≤ N)
    (h : ∀ W0, AW P W0 N c (bodyPost P fn (CtR W0 app res)) (argRows 0 args ++ [(.zn 0, .zn .live)])) : Ct P f args app res := by
  intro Z w vs hs hv
  refine calls_of_wp hf hb (h w _ w ⟨⟨fun _ => 0, fun z g o => z = 0 ∧ Z g o ∧ g < w.heap.size, fun _ => undef⟩, Below.refl _ _, rfl, ?_, fun t x e => ?_, fun n k x e => ?_, fun n e => ?_, fun n m e => ?_, fun z g o hl hz => ?_, fun z E sz rows e => ?_, fun z g o h0 hl hz => absurd hz.1 h0, fun y z g o o' hne hy hz h1 h2 => hne (h1.1.trans h2.1.symm)⟩)
  · simp [hn]; omega
  · rw [lk_args] at e
    simp only [Nat.zero_le, true_and, Nat.zero_add, Nat.sub_zero] at e
    split at e
    · rename_i ht
      rw [List.getElem?_eq_getElem ht] at e
      simp only [KV.av.injEq] at e
      subst e
      have hlt : t < vs.size := by omega
      refine ⟨vs.getD t undef, ?_, atz_rep (fun z hz => ?_) ((hv t _ (List.getElem?_eq_getElem ht)).evo fun g o u hz hc => ⟨⟨0, by simp, rfl, hz, World.block_lt_of_cell? _ _ hc⟩, hc⟩)⟩
      · simp only [Array.getElem?_append, hlt, if_true, Array.getD_eq_getD_getElem?]
        simp [hlt]
      · simp at hz; subst hz
        unfold Uz; rw [lk_args_ne _ _ _ (by simp)]; simp [lk]
    · simp [lk, dflt] at e
  · rw [lk_args_ne _ _ _ (by simp)] at e; simp [lk, dflt] at e
  · unfold Nm at e; rw [lk_args_ne _ _ _ (by simp)] at e; simp [lk, dflt] at e
  · unfold Nm at e; rw [lk_args_ne _ _ _ (by simp)] at e; simp [lk, dflt] at e
  · refine ⟨hz.2.2, fun n e => ?_⟩
    unfold Nm at e; rw [lk_args_ne _ _ _ (by simp)] at e; simp [lk, dflt] at e
  · rw [lk_args_ne _ _ _ (by simp)] at e
    simp only [lk] at e
    split at e
    · cases e
    · simp [dflt] at e
/-- what a result's slot holds. -/
def dvz : AV → Option (List Nat × DV)
  | .c zs x => some (zs, .c x)
  | .own z sz rows => some ([z], .c (.s sz rows))
  | .agg cs => some (zsAll cs, .agg (cs.map (·.2)))
  | _ => none
theorem zu_mono {G : Gh} {zs zs' : List Nat} {w : World} {v : Value} {x : D} (hs : ∀ z ∈ zs, z ∈ zs') (h : RepD (G.zu zs) w v x) : RepD (G.zu zs') w v x := h.evo fun g o u ⟨z, hz, hg⟩ hc => ⟨⟨z, hs z hz, hg⟩, hc⟩
theorem dvz_ok {G : Gh} {σ : St} {w : World} {v : Value} {x : AV} {zs : List Nat} {d : DV} (h : dvz x = some (zs, d)) (hl : ∀ z ∈ zs, Lv σ z) (hx : Rep G σ w v x) : RepDV (G.zu zs) w v d := by
  cases x with
  | c zs x => simp only [dvz, Option.some.injEq, Prod.mk.injEq] at h; obtain ⟨rfl, rfl⟩ := h; exact hx.rep hl
  | own z sz rows => simp only [dvz, Option.some.injEq, Prod.mk.injEq] at h; obtain ⟨rfl, rfl⟩ := h; exact zu_one (hx.rep (hl z (by simp))).2
  | agg cs =>
    simp only [dvz, Option.some.injEq, Prod.mk.injEq] at h
    obtain ⟨rfl, rfl⟩ := h
    obtain ⟨vs, e, e2, k⟩ := hx.rep
    refine ⟨vs, e, by simp [e2], fun i x hi => ?_⟩
    rw [List.getElem?_map, Option.map_eq_some_iff] at hi
    obtain ⟨⟨zs, y⟩, hi, rfl⟩ := hi
    have hs : ∀ z ∈ zs, z ∈ zsAll cs := fun z hz => List.mem_flatMap.2 ⟨(zs, y), List.mem_of_getElem? hi, hz⟩
    exact zu_mono hs (k i zs y hi fun z hz => hl z (hs z hz))
  | _ => simp [dvz] at h
def resOf (T : Tab P) (L : St) : ResultVar → Option (List Nat × DV)
  | .tmp t => match L (.tmp t) with
    | .av x => dvz x
    | _ => none
  | .cell a t => match L (.tmp a), T.f t with
    | .av (.ptr n off), some ti => if ti.sh.agg then (match cells L n off ti.size with
        | some (_, ys) => some (zsAll ys, .agg (ys.map (·.2)))
        | none => none)
      else (match L (.cell n off) with
        | .av x => dvz x
        | _ => none)
    | _, _ => none
def resL (T : Tab P) (L : St) : List ResultVar → Option (List Nat × List DV)
  | [] => some ([], [])
  | r :: rs => match resOf T L r, resL T L rs with
    | some (zs, d), some (zs', ds) => some (zs ++ zs', d :: ds)
    | _, _ => none
def resRun (a : Act) : ResultVar → Sem Value := fun r => match r with
  | .tmp t => pure (a.tmps.getD t undef)
  | .cell p t => do loadVar t (← asAddr (a.tmps.getD p undef))
theorem resOf_ok {G : Gh} {σ : St} {a : Act} {w : World} {r : ResultVar} {zs : List Nat} {d : DV} (h : resOf T σ r = some (zs, d)) (hl : ∀ z ∈ zs, Lv σ z) (hA : ASG W0 N G σ a w) : ∃ v, (resRun a r).run P w = .ok v w ∧ RepDV (G.zu zs) w v d := by
  cases r with
  | tmp t =>
    simp only [resOf] at h
    split at h
    · rename_i x hx
      obtain ⟨v, h1, h2⟩ := hA.tmp t x hx
      refine ⟨v, ?_, dvz_ok h hl h2⟩
      simp [resRun, Array.getD_eq_getD_getElem?, h1]
    · cases h
  | cell p t =>
    simp only [resOf] at h
    split at h
    · rename_i n off ti hp ht
      obtain ⟨v, h1, h2⟩ := hA.tmp p _ hp
      have e : a.tmps.getD p undef = .pointer (some ⟨G.ρ n, off, none⟩) := by simp [Array.getD_eq_getD_getElem?, h1]; exact h2.rep
      split at h
      · rename_i hg
        split at h
        · rename_i r' ys hc
          simp only [Option.some.injEq, Prod.mk.injEq] at h
          obtain ⟨rfl, rfl⟩ := h
          obtain ⟨k1, k2⟩ := cells_ok hc hA (cells_rd hc)
          have hf : ∀ j, j < ti.size → ∃ v, w.cell? ⟨G.ρ n, off + j, none⟩ = some v ∧ ∀ zs x, ys[j]? = some (zs, x) → RepD (G.zu (zsAll ys)) w v x := by
            intro j hj
            obtain ⟨⟨zs, x⟩, hy⟩ : ∃ y, ys[j]? = some y := ⟨_, List.getElem?_eq_getElem (by omega)⟩
            obtain ⟨j1, v, j2, j3⟩ := k2 j zs x hy
            have hs : ∀ z ∈ zs, z ∈ zsAll ys := fun z hz => List.mem_flatMap.2 ⟨(zs, x), List.mem_of_getElem? hy, hz⟩
            refine ⟨v, j2, fun zs' x' h' => ?_⟩
            rw [hy] at h'
            cases h'
            exact zu_mono hs (j3 fun z hz => hl z (hs z hz))
          let f : Nat → Value := fun j => if h : j < ti.size then (hf j h).choose else undef
          have hf1 : ∀ j (h : j < ti.size), f j = (hf j h).choose := fun j h => dif_pos h
          have hrun := run_load_agg (w := w) ht hg (G.ρ n) off f (fun j hj => by rw [hf1 j hj]; exact (hf j hj).choose_spec.1)
          refine ⟨.agg ((List.range ti.size).map f).toArray, ?_, ((List.range ti.size).map f).toArray, rfl, by simp [k1], fun i x hi => ?_⟩
          · simp only [resRun, e, Sem.run_bind, asAddr, Sem.run_pure, Result.andThen_ok]
            simpa [Instr.loadAt, Instr.sureAddr] using hrun
          · rw [List.getElem?_map, Option.map_eq_some_iff] at hi
            obtain ⟨⟨zs, y⟩, hi, rfl⟩ := hi
            have hi' : i < ti.size := by rw [← k1]; exact (List.getElem?_eq_some_iff.1 hi).1
            have e2 : ((List.range ti.size).map f).toArray.getD i undef = f i := by simp [Array.getD_eq_getD_getElem?, hi']
            rw [e2, hf1 i hi']
            exact (hf i hi').choose_spec.2 zs y hi
        · cases h
      · rename_i hg
        split at h
        · rename_i x hx
          obtain ⟨_, u, c1, _, c3⟩ := hA.cell n off x hx
          have hrun := run_load_word (w := w) ht (by simpa using hg) (G.ρ n) off u c1
          refine ⟨u, ?_, dvz_ok h hl c3⟩
          simp only [resRun, e, Sem.run_bind, asAddr, Sem.run_pure, Result.andThen_ok]
          simpa [Instr.loadAt, Instr.sureAddr] using hrun
        · cases h
    · cases h
theorem resL_ok {G : Gh} {σ : St} {a : Act} {w : World} (hA : ASG W0 N G σ a w) : ∀ {rs : List ResultVar} {zs : List Nat} {ds : List DV}, resL T σ rs = some (zs, ds) → (∀ z ∈ zs, Lv σ z) →
    ∃ vs : List Value, (rs.mapM (resRun a)).run P w = .ok vs w ∧ vs.length = ds.length ∧ ∀ (i : Nat) (d : DV), ds[i]? = some d → RepDV (G.zu zs) w (vs.getD i undef) d
  | [], zs, ds, h, _ => by simp only [resL, Option.some.injEq, Prod.mk.injEq] at h; obtain ⟨_, rfl⟩ := h; exact ⟨[], by simp, rfl, fun i d hi => by simp at hi⟩
  | r :: rs, zs, ds, h, hl => by
    unfold resL at h
    split at h
    · rename_i z1 d z2 ds' h1 h2
      simp only [Option.some.injEq, Prod.mk.injEq] at h
      obtain ⟨rfl, rfl⟩ := h
      obtain ⟨v, k1, k2⟩ := resOf_ok h1 (fun z hz => hl z (List.mem_append_left _ hz)) hA
      obtain ⟨vs, k3, k4, k5⟩ := resL_ok hA h2 fun z hz => hl z (List.mem_append_right _ hz)
      have mono : ∀ {zs zs' : List Nat} {v : Value} {d : DV}, (∀ z ∈ zs, z ∈ zs') → RepDV (G.zu zs) w v d → RepDV (G.zu zs') w v d := fun hs h => h.evo fun g o u ⟨z, hz, hg⟩ hc => ⟨⟨z, hs z hz, hg⟩, hc⟩
      refine ⟨v :: vs, by simp [List.mapM_cons, k1, k3], by simp [k4], fun i d' hi => ?_⟩
      cases i with
      | zero => simp only [List.getElem?_cons_zero, Option.some.injEq] at hi; subst hi; exact mono (fun z hz => List.mem_append_left _ hz) k2
      | succ i => exact mono (fun z hz => List.mem_append_right _ hz) (by simpa using k5 i d' (by simpa using hi))
    · cases h
def resMk : List DV → Res
  | [d] => .one d
  | ds => .tup ds
theorem results_run {fn : Func} {a : Act} {w : World} {vs : List Value} (h : (fn.results.toList.mapM (resRun a)).run P w = .ok vs w) : (results fn a.tmps).run P w = .ok (if h : vs.toArray.size = 1 then vs.toArray[0] else .tuple vs.toArray) w := by
  have e : (fn.results.mapM (resRun a)).run P w = .ok vs.toArray w := by
    rw [Array.mapM_eq_mapM_toList]
    simp [h]
  have e2 : results fn a.tmps = (fn.results.mapM (resRun a) >>= fun vs => pure (if h : vs.size = 1 then vs[0] else .tuple vs)) := by
    unfold results
    congr 1
  rw [e2, Sem.run_bind, e]
  rfl
theorem nx_ret {fn : Func} {res : Res} {e : Exit} {rs : List ResultVar} {zs : List Nat} {ds : List DV} {r : Row} (he : e = .normal ∨ e = .ret) (hrs : fn.results = rs.toArray) (hres : resL T (lk L) rs = some (zs, ds)) (hz : zr (lk L) zs = some r) (h0 : ∀ z ∈ zs, z ≠ 0) (hd : resMk ds = res) : NX W0 N (bodyPost P fn (CtR W0 none res)) e L := by
  intro a w ⟨G, hA⟩
  have hl := zr_ok hz (zr_rd hz)
  obtain ⟨vs, k1, k2, k3⟩ := resL_ok hA hres hl
  have hrun := results_run (fn := fn) (by rw [hrs]; exact k1)
  have : a.defers = [] ∧ ∃ v, (results fn a.tmps).run P w = .ok v w ∧ CtR W0 none res (.returned v) w := by
    refine ⟨hA.df, _, hrun, _, G.zu zs, rfl, hA.fr, fun g o ⟨z, hz, hg⟩ => hA.new z g o (h0 z hz) (hl z hz) hg, ?_, fun E hE => by cases hE⟩
    subst hd
    by_cases h1 : ds.length = 1
    · obtain ⟨d, rfl⟩ := List.length_eq_one_iff.1 h1
      obtain ⟨v, rfl⟩ := List.length_eq_one_iff.1 (k2.trans h1)
      exact k3 0 d rfl
    · have e1 : resMk ds = .tup ds := by
        cases ds with
        | nil => rfl
        | cons d ds => cases ds with
          | nil => exact absurd rfl h1
          | cons => rfl
      rw [e1, dif_neg (by simpa [k2] using h1)]
      refine ⟨vs.toArray, rfl, by simpa using k2, fun i d hi => ?_⟩
      have := k3 i d hi
      simpa [List.getD, Array.getD_eq_getD_getElem?] using this
  rcases he with rfl | rfl <;> exact this
theorem nx_ret_own {fn : Func} {e : Exit} {t z E sz : Nat} {rows : List (List D)} (he : e = .normal ∨ e = .ret) (hrs : fn.results = #[.tmp t]) (ht : lk L (.tmp t) = .av (.own z sz rows)) (hz : lk L (.zn z) = .zn (.app E sz rows)) (h0 : z ≠ 0) : NX W0 N (bodyPost P fn (CtR W0 (some E) (.one (.c (.s sz rows))))) e L := by
  intro a w ⟨G, hA⟩
  have hl : Lv (lk L) z := .inr ⟨_, _, _, hz⟩
  obtain ⟨v, h1, h2⟩ := hA.tmp t _ ht
  obtain ⟨h3, h4⟩ := h2.rep hl
  obtain ⟨vals, o1⟩ := (hA.app z E sz rows hz).own
  have o2 := (hA.app z E sz rows hz).zz
  rw [← h3] at o1 o2
  have hrun := results_run (P := P) (fn := fn) (a := a) (w := w) (vs := [v]) (by rw [hrs]; simp [resRun, Array.getD_eq_getD_getElem?, h1])
  have : a.defers = [] ∧ ∃ v, (results fn a.tmps).run P w = .ok v w ∧ CtR W0 (some E) (.one (.c (.s sz rows))) (.returned v) w :=
    ⟨hA.df, _, hrun, _, G.ζ z, rfl, hA.fr, fun g o hg => hA.new z g o h0 hl hg, h4, fun E' hE => by
      cases hE
      exact ⟨sz, rows, vals, rfl, o1, fun k hk o hg => (o2 k hk z o hl hg).2⟩⟩
  rcases he with rfl | rfl <;> exact this
end
end Go.Proofs.Ytlkdkhmdmgchbaa
