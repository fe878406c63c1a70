/- texts on which the statement stands, part 1. -/
import Derived.Test.YtlkdkhmdmgchbaaB0
import Derived.Laws.AppendOwn
import Derived.Orders
import Derived.OrdersIn
import Derived.Sort.LoopGhostIn
import Derived.RangeFuncCalls
import Derived.Laws.Slices
import Derived.Laws.Small
import Derived.Laws.Cells
import Derived.Laws.Tables
import Derived.Maps.AppendAt
import Derived.Laws.AppendOwnNone
namespace Go.Proofs.Ytlkdkhmdmgchbaa
set_option linter.unusedSimpArgs false
set_option linter.unusedVariables false
open Go.RowKit
set_option maxRecDepth 100000

abbrev Zone := Nat → Prop
def maxI : Nat := 9223372036854775807
def KeptZ (Z Z' : Zone) (w w' : World) : Prop := ∀ g, Z g → g < w.heap.size → Z' g ∧ w'.heap[g]? = w.heap[g]?
structure SP where
  p : Zone → World → Value → Prop
  evo : ∀ (Z Z' : Zone) (w w' : World) (v : Value), p Z w v → KeptZ Z Z' w w' → p Z' w' v
  one : ∀ (Z : Zone) (w : World) (v : Value), p Z w v → v.oneCell' = true
inductive D where
  | v (x : Value)
  | n (sz : Nat)
  | s (sz : Nat) (rows : List (List D))
  | p (ds : List D)
  | f (g : FuncId) (caps : List D)
  | st (φ : SP)
inductive RepD (Z : Zone) (w : World) : Value → D → Prop where
  | v (x : Value) : RepD Z w x (.v x)
  | n (sz : Nat) : RepD Z w (.slice none 0 0) (.n sz)
  | nil (sz : Nat) : RepD Z w (.slice none 0 0) (.s sz [])
  | emp (a : Addr) (cap sz : Nat) (h : cap ≤ maxI) : RepD Z w (.slice (some a) 0 cap) (.s sz [])
  | row (g o n cap sz : Nat) (rows : List (List D)) (vals : Nat → Nat → Value) (hn : n = rows.length) (h1 : n ≤ cap) (h2 : cap ≤ maxI)
      (hl : ∀ (i : Nat) (r : List D), rows[i]? = some r → r.length = sz)
      (hc : ∀ (i : Nat) (r : List D) (j : Nat) (x : D), rows[i]? = some r → r[j]? = some x → Z g ∧ w.cell? ⟨g, o + i * sz + j, none⟩ = some (vals i j))
      (hr : ∀ (i : Nat) (r : List D) (j : Nat) (x : D), rows[i]? = some r → r[j]? = some x → RepD Z w (vals i j) x) : RepD Z w (.slice (some ⟨g, o, none⟩) n cap) (.s sz rows)
  | p (g o : Nat) (ds : List D) (vals : Nat → Value) (hc : ∀ (j : Nat) (x : D), ds[j]? = some x → Z g ∧ w.cell? ⟨g, o + j, none⟩ = some (vals j)) (hr : ∀ (j : Nat) (x : D), ds[j]? = some x → RepD Z w (vals j) x) : RepD Z w (.pointer (some ⟨g, o, none⟩)) (.p ds)
  | f (g : FuncId) (caps : List D) (us : Array Value) (hs : us.size = caps.length) (hr : ∀ (i : Nat) (x : D), caps[i]? = some x → RepD Z w (us.getD i undef) x) : RepD Z w (.func (.func g) #[] us) (.f g caps)
  | st (φ : SP) (v : Value) (h : φ.p Z w v) : RepD Z w v (.st φ)
theorem keptz_cell {Z Z' : Zone} {w w' : World} {g o : Nat} {u : Value} (hz : KeptZ Z Z' w w') (h : Z g) (hc : w.cell? ⟨g, o, none⟩ = some u) : Z' g ∧ w'.cell? ⟨g, o, none⟩ = some u := by
  obtain ⟨a, b⟩ := hz g h (World.lt_of_cell hc)
  exact ⟨a, (World.cell?_of_block (w := w) (a := ⟨g, o, none⟩) b).trans hc⟩
theorem RepD.evo {Z Z' : Zone} {w w' : World} {v : Value} {x : D} (h : RepD Z w v x) (hz : KeptZ Z Z' w w') : RepD Z' w' v x := by
  induction h with
  | v x => exact .v x
  | n sz => exact .n sz
  | nil sz => exact .nil sz
  | emp a cap sz h => exact .emp a cap sz h
  | row g o n cap sz rows vals hn h1 h2 hl hc hr ih =>
    refine .row g o n cap sz rows vals hn h1 h2 hl (fun i r j x hi hj => ?_) (fun i r j x hi hj => ih i r j x hi hj)
    obtain ⟨a, b⟩ := hc i r j x hi hj
    exact keptz_cell hz a b
  | p g o ds vals hc hr ih =>
    refine .p g o ds vals (fun j x hj => ?_) ih
    obtain ⟨a, b⟩ := hc j x hj
    exact keptz_cell hz a b
  | f g caps us hs hr ih => exact .f g caps us hs ih
  | st φ v h => exact .st φ v (φ.evo _ _ _ _ _ h hz)
theorem RepD.mono {Z Z' : Zone} {w : World} {v : Value} {x : D} (h : RepD Z w v x) (hz : ∀ g, Z g → Z' g) : RepD Z' w v x := h.evo fun g hg _ => ⟨hz g hg, rfl⟩
theorem RepD.form {Z : Zone} {w : World} {v : Value} {sz : Nat} {rows : List (List D)} (h : RepD Z w v (.s sz rows)) : ∃ p cap, v = .slice p rows.length cap ∧ rows.length ≤ cap ∧ cap ≤ maxI ∧ (p = none → cap = 0) := by
  cases h with
  | nil => exact ⟨none, 0, rfl, Nat.le_refl _, by simp [maxI], fun _ => rfl⟩
  | emp a cap sz h => exact ⟨some a, cap, rfl, Nat.zero_le _, h, fun e => by cases e⟩
  | row g o n cap sz rows vals hn h1 h2 hl hc hr => subst hn; exact ⟨_, cap, rfl, h1, h2, fun e => by cases e⟩
theorem RepD.at {Z : Zone} {w : World} {v : Value} {sz : Nat} {rows : List (List D)} (h : RepD Z w v (.s sz rows)) (hr : 0 < rows.length) :
    ∃ g o cap, ∃ vals : Nat → Nat → Value, v = .slice (some ⟨g, o, none⟩) rows.length cap ∧ rows.length ≤ cap ∧ cap ≤ maxI ∧ (∀ (i : Nat) (r : List D), rows[i]? = some r → r.length = sz) ∧
      (∀ (i : Nat) (r : List D) (j : Nat) (x : D), rows[i]? = some r → r[j]? = some x → Z g ∧ w.cell? ⟨g, o + i * sz + j, none⟩ = some (vals i j) ∧ RepD Z w (vals i j) x) := by
  cases h with
  | nil => simp at hr
  | emp => simp at hr
  | row g o n cap sz rows vals hn h1 h2 hl hc hr =>
    subst hn
    exact ⟨g, o, cap, vals, rfl, h1, h2, hl, fun i r j x hi hj => ⟨(hc i r j x hi hj).1, (hc i r j x hi hj).2, hr i r j x hi hj⟩⟩
theorem RepD.raw {Z : Zone} {w : World} {v x : Value} (h : RepD Z w v (.v x)) : v = x := by cases h; rfl
def D.nrm : D → D
  | .n sz => .s sz []
  | x => x
theorem RepD.nrm {Z : Zone} {w : World} {v : Value} {x : D} (h : RepD Z w v x) : RepD Z w v x.nrm := by
  cases x with
  | n sz => cases h; exact .nil sz
  | _ => exact h

inductive DV where
  | c (x : D)
  | agg (cs : List D)
def RepDV (Z : Zone) (w : World) (v : Value) : DV → Prop
  | .c x => RepD Z w v x
  | .agg cs => ∃ vs : Array Value, v = .agg vs ∧ vs.size = cs.length ∧ ∀ (i : Nat) (x : D), cs[i]? = some x → RepD Z w (vs.getD i undef) x
inductive Res where
  | one (x : DV)
  | tup (l : List DV)
def RepR (Z : Zone) (w : World) (v : Value) : Res → Prop
  | .one x => RepDV Z w v x
  | .tup l => ∃ vs : Array Value, v = .tuple vs ∧ vs.size = l.length ∧ ∀ (i : Nat) (x : DV), l[i]? = some x → RepDV Z w (vs.getD i undef) x
theorem RepDV.evo {Z Z' : Zone} {w w' : World} {v : Value} {x : DV} (h : RepDV Z w v x) (hz : KeptZ Z Z' w w') : RepDV Z' w' v x := by
  cases x with
  | c x => exact RepD.evo h hz
  | agg cs => obtain ⟨vs, e, n, h⟩ := h; exact ⟨vs, e, n, fun i x hx => (h i x hx).evo hz⟩
theorem RepR.evo {Z Z' : Zone} {w w' : World} {v : Value} {x : Res} (h : RepR Z w v x) (hz : KeptZ Z Z' w w') : RepR Z' w' v x := by
  cases x with
  | one x => exact RepDV.evo h hz
  | tup l => obtain ⟨vs, e, n, h⟩ := h; exact ⟨vs, e, n, fun i x hx => (h i x hx).evo hz⟩
theorem RepDV.mono {Z Z' : Zone} {w : World} {v : Value} {x : DV} (h : RepDV Z w v x) (hz : ∀ g, Z g → Z' g) : RepDV Z' w v x := h.evo fun g hg _ => ⟨hz g hg, rfl⟩
theorem RepR.mono {Z Z' : Zone} {w : World} {v : Value} {x : Res} (h : RepR Z w v x) (hz : ∀ g, Z g → Z' g) : RepR Z' w v x := h.evo fun g hg _ => ⟨hz g hg, rfl⟩

inductive VK where
  | ptr (off : Nat)
  | ifc (t : TypeId)
  | fn (f : FuncId)
  | tup (us : List Value)
def VK.val : VK → Nat → Value
  | .ptr off, g => .pointer (some ⟨g, off, none⟩)
  | .ifc t, g => .iface t (.pointer (some ⟨g, 0, none⟩))
  | .fn f, g => .func (.func f) #[.pointer (some ⟨g, 0, none⟩)] #[]
  | .tup us, g => .tuple (.pointer (some ⟨g, 0, none⟩) :: us).toArray
inductive AV where
  | c (zs : List Nat) (x : D)
  | agg (cs : List (List Nat × D))
  | ptr (n off : Nat)
  | seg (zs : List Nat) (ds : List D)
  | tup (zs : List Nat) (l : List DV)
  | own (h : Nat)
  | fn (g : FuncId) (caps : List Nat)
  | wp (κ : VK) (n : Nat)
  | optr (h sz i j : Nat)
inductive ZS where
  | free
  | dead
  | live
inductive HS where
  | free
  | dead
  | own (E : TypeId) (sz y : Nat) (zs : List Nat) (rows : List (List D))
inductive Key where
  | tmp (t : Nat)
  | vt (i t : Nat)
  | cell (n k : Nat)
  | zn (z : Nat)
  | nm (n : Nat)
  | hd (h : Nat)
  | sz (n : Nat)
  | df
  deriving DecidableEq
inductive KV where
  | unk
  | av (x : AV)
  | zn (s : ZS)
  | nm (used : Bool)
  | hd (s : HS)
  | sz (c : Nat)
  | df (k : Nat)
abbrev St := Key → KV
def Lv (σ : St) (z : Nat) : Prop := σ (.zn z) = .zn .live
def Uz (σ : St) (z : Nat) : Prop := σ (.zn z) ≠ .zn .free
def Nm (σ : St) (n : Nat) : Prop := σ (.nm n) = .nm true
def Uh (σ : St) (h : Nat) : Prop := σ (.hd h) ≠ .hd .free
def Lh (σ : St) (h : Nat) : Prop := ∃ E sz y zs rows, σ (.hd h) = .hd (.own E sz y zs rows)
theorem Lv.used {σ : St} {z : Nat} (h : Lv σ z) : Uz σ z := by unfold Uz; rw [h]; simp
theorem Lh.used {σ : St} {h : Nat} (hh : Lh σ h) : Uh σ h := by obtain ⟨E, sz, y, zs, rows, e⟩ := hh; unfold Uh; rw [e]; simp
structure Gh where
  ρ : Nat → Nat
  ζ : Nat → Zone
  τ : Nat → Value
  δ : Nat → Nat
def Gh.zu (G : Gh) (zs : List Nat) : Zone := fun g => ∃ z ∈ zs, G.ζ z g
def AV.ok (σ : St) : AV → Prop
  | .c zs _ => ∀ z ∈ zs, Uz σ z
  | .agg cs => ∀ c ∈ cs, ∀ z ∈ c.1, Uz σ z
  | .ptr n _ => Nm σ n
  | .seg zs _ => ∀ z ∈ zs, Uz σ z
  | .tup zs _ => ∀ z ∈ zs, Uz σ z
  | .own h => Uh σ h
  | .fn _ caps => ∀ n ∈ caps, Nm σ n
  | .wp _ n => Nm σ n
  | .optr h _ _ _ => Uh σ h
def AV.rep (G : Gh) (σ : St) (w : World) (v : Value) : AV → Prop
  | .c zs x => (∀ z ∈ zs, Lv σ z) → RepD (G.zu zs) w v x
  | .agg cs => ∃ vs : Array Value, v = .agg vs ∧ vs.size = cs.length ∧ ∀ (i : Nat) (zs : List Nat) (x : D), cs[i]? = some (zs, x) → (∀ z ∈ zs, Lv σ z) → RepD (G.zu zs) w (vs.getD i undef) x
  | .ptr n off => v = .pointer (some ⟨G.ρ n, off, none⟩)
  | .seg zs ds => (∀ z ∈ zs, Lv σ z) → ∃ g o, v = .pointer (some ⟨g, o, none⟩) ∧ ∀ (j : Nat) (x : D), ds[j]? = some x → G.zu zs g ∧ ∃ u, w.cell? ⟨g, o + j, none⟩ = some u ∧ RepD (G.zu zs) w u x
  | .tup zs l => (∀ z ∈ zs, Lv σ z) → RepR (G.zu zs) w v (.tup l)
  | .own h => Lh σ h → v = G.τ h
  | .fn g caps => v = .func (.func g) #[] (caps.map fun n => Value.pointer (some ⟨G.ρ n, 0, none⟩)).toArray
  | .wp κ n => v = κ.val (G.ρ n)
  | .optr h sz i j => Lh σ h → ∃ g, (G.τ h).ownBlock = some g ∧ v = .pointer (some ⟨g, i * sz + j, none⟩)
structure Rep (G : Gh) (σ : St) (w : World) (v : Value) (x : AV) : Prop where
  ok : x.ok σ
  rep : x.rep G σ w v
structure Evo (G G' : Gh) (σ σ' : St) (w w' : World) : Prop where
  uz : ∀ z, Uz σ z → Uz σ' z
  uh : ∀ h, Uh σ h → Uh σ' h
  nm : ∀ n, Nm σ n → Nm σ' n ∧ G'.ρ n = G.ρ n
  lv : ∀ z, Uz σ z → Lv σ' z → Lv σ z ∧ G'.ζ z = G.ζ z ∧ ∀ g, G.ζ z g → w'.heap[g]? = w.heap[g]?
  lh : ∀ h, Uh σ h → Lh σ' h → Lh σ h ∧ G'.τ h = G.τ h
theorem Evo.zu {G G' : Gh} {σ σ' : St} {w w' : World} (h : Evo G G' σ σ' w w') {zs : List Nat} (hu : ∀ z ∈ zs, Uz σ z) (hl : ∀ z ∈ zs, Lv σ' z) :
    (∀ z ∈ zs, Lv σ z) ∧ KeptZ (G.zu zs) (G'.zu zs) w w' := by
  refine ⟨fun z hz => (h.lv z (hu z hz) (hl z hz)).1, fun g ⟨z, hz, hg⟩ _ => ?_⟩
  obtain ⟨_, e, k⟩ := h.lv z (hu z hz) (hl z hz)
  exact ⟨⟨z, hz, by rw [e]; exact hg⟩, k g hg⟩
theorem Evo.refl (G : Gh) (σ : St) (w : World) : Evo G G σ σ w w := ⟨fun _ h => h, fun _ h => h, fun _ h => ⟨h, rfl⟩, fun _ _ h => ⟨h, rfl, fun _ _ => rfl⟩, fun _ _ h => ⟨h, rfl⟩⟩
theorem Evo.trans {G1 G2 G3 : Gh} {σ1 σ2 σ3 : St} {w1 w2 w3 : World} (h : Evo G1 G2 σ1 σ2 w1 w2) (k : Evo G2 G3 σ2 σ3 w2 w3) : Evo G1 G3 σ1 σ3 w1 w3 := by
  refine ⟨fun z hz => k.uz z (h.uz z hz), fun z hz => k.uh z (h.uh z hz), fun n hn => ?_, fun z hz hl => ?_, fun z hz hl => ?_⟩
  · obtain ⟨a, b⟩ := h.nm n hn
    obtain ⟨c, d⟩ := k.nm n a
    exact ⟨c, d.trans b⟩
  · obtain ⟨a, b, c⟩ := k.lv z (h.uz z hz) hl
    obtain ⟨d, e, f⟩ := h.lv z hz a
    exact ⟨d, b.trans e, fun g hg => (c g (by rw [e]; exact hg)).trans (f g hg)⟩
  · obtain ⟨a, b⟩ := k.lh z (h.uh z hz) hl
    obtain ⟨d, e⟩ := h.lh z hz a
    exact ⟨d, b.trans e⟩
theorem Rep.evo {G G' : Gh} {σ σ' : St} {w w' : World} {v : Value} {x : AV} (h : Rep G σ w v x) (e : Evo G G' σ σ' w w') : Rep G' σ' w' v x := by
  obtain ⟨ok, rep⟩ := h
  cases x with
  | c zs x =>
    refine ⟨fun z hz => e.uz z (ok z hz), fun hl => ?_⟩
    obtain ⟨a, b⟩ := e.zu ok hl
    exact (rep a).evo b
  | agg cs =>
    refine ⟨fun c hc z hz => e.uz z (ok c hc z hz), ?_⟩
    obtain ⟨vs, e1, e2, k⟩ := rep
    refine ⟨vs, e1, e2, fun i zs x hi hl => ?_⟩
    obtain ⟨a, b⟩ := e.zu (fun z hz => ok (zs, x) (List.mem_of_getElem? hi) z hz) hl
    exact (k i zs x hi a).evo b
  | ptr n off =>
    obtain ⟨a, b⟩ := e.nm n ok
    exact ⟨a, by show v = _; rw [b]; exact rep⟩
  | seg zs ds =>
    refine ⟨fun z hz => e.uz z (ok z hz), fun hl => ?_⟩
    obtain ⟨a, b⟩ := e.zu ok hl
    obtain ⟨g, o, e1, k⟩ := rep a
    refine ⟨g, o, e1, fun j x hj => ?_⟩
    obtain ⟨k1, u, k2, k3⟩ := k j x hj
    obtain ⟨b1, b2⟩ := keptz_cell b k1 k2
    exact ⟨b1, u, b2, k3.evo b⟩
  | tup zs l =>
    refine ⟨fun z hz => e.uz z (ok z hz), fun hl => ?_⟩
    obtain ⟨a, b⟩ := e.zu ok hl
    exact (rep a).evo b
  | own h =>
    refine ⟨e.uh h ok, fun hl => ?_⟩
    obtain ⟨a, b⟩ := e.lh h ok hl
    rw [b]; exact rep a
  | fn g caps =>
    refine ⟨fun n hn => (e.nm n (ok n hn)).1, ?_⟩
    have : caps.map (fun n => Value.pointer (some ⟨G'.ρ n, 0, none⟩)) = caps.map (fun n => Value.pointer (some ⟨G.ρ n, 0, none⟩)) := List.map_congr_left fun n hn => by rw [(e.nm n (ok n hn)).2]
    show v = _
    rw [this]; exact rep
  | wp κ n =>
    obtain ⟨a, b⟩ := e.nm n ok
    exact ⟨a, by show v = _; rw [b]; exact rep⟩
  | optr h sz i j =>
    refine ⟨e.uh h ok, fun hl => ?_⟩
    obtain ⟨a, b⟩ := e.lh h ok hl
    rw [b]; exact rep a

structure Cx where
  W0 : World
  B : Nat → Prop
  N : Nat
  pv : Nat → Nat → Value
  Zp : Nat → Nat → Prop
  pz : List Nat
  ob : List (Nat × Obj)
  hB : ∀ k, B k → k < W0.heap.size
def SoftO : Obj → Prop
  | .cells _ _ fz => fz = (0, 0)
  | .map .. => True
  | .mapIter .. => True
  | _ => False
def Soft (w : World) (g : Nat) : Prop := ∃ ob, w.heap[g]? = some ob ∧ SoftO ob
theorem Soft.mk {w : World} {g : Nat} {cur : Array Value} {t : TypeId} (h : w.heap[g]? = some (.cells cur t (0, 0))) : Soft w g := ⟨_, h, rfl⟩
theorem Soft.cells {w : World} {g o : Nat} {u : Value} (h : Soft w g) (hc : w.cell? ⟨g, o, none⟩ = some u) : ∃ cur t, w.heap[g]? = some (.cells cur t (0, 0)) := by
  obtain ⟨ob, e, k⟩ := h
  cases ob with
  | cells cur t fz => cases (show fz = (0, 0) from k); exact ⟨cur, t, e⟩
  | _ => simp [World.cell?, e] at hc
theorem Soft.lt {w : World} {g : Nat} (h : Soft w g) : g < w.heap.size := by
  obtain ⟨_, h, _⟩ := h
  exact (Array.getElem?_eq_some_iff.1 h).1
theorem Soft.of_eq {w w' : World} {g : Nat} (h : Soft w g) (e : w'.heap[g]? = w.heap[g]?) : Soft w' g := by
  obtain ⟨ob, h, k⟩ := h
  exact ⟨ob, e.trans h, k⟩
theorem set_heap_same {w : World} {b o : Nat} {c : Array Value} {t : TypeId} {fz : Nat × Nat} {u : Value} (h : w.heap[b]? = some (.cells c t fz)) :
    (w.setCell ⟨b, o, none⟩ u).heap[b]? = some (.cells (c.setIfInBounds o u) t fz) := by
  have hlt := (Array.getElem?_eq_some_iff.1 h).1
  show (w.heap.modify b _)[b]? = _
  rw [Array.getElem?_eq_getElem (by simpa using hlt), Array.getElem_modify_self, (Array.getElem?_eq_some_iff.1 h).2]
  rfl
def RowAt (Z : Zone) (w : World) (v : Value) (E sz : Nat) (rows : List (List D)) (lean : Prop) : Prop :=
  ∃ vals, w.ownsRow 0 E sz v rows.length vals ∧ (∀ u ∈ vals, u.oneCell' = true) ∧ (∀ (i : Nat) (r : List D), rows[i]? = some r → r.length = sz) ∧
    (lean → ∀ (i : Nat) (r : List D) (j : Nat) (x : D), rows[i]? = some r → r[j]? = some x → RepD Z w (vals.getD (i * sz + j) undef) x)
theorem ownsRow_eq {w w' : World} {B E sz : Nat} {v : Value} {n : Nat} {vals : List Value} (h : w.ownsRow B E sz v n vals) (hk : ∀ g, v.ownBlock = some g → w'.heap[g]? = w.heap[g]?) : w'.ownsRow B E sz v n vals := by
  refine ⟨h.1, ?_⟩
  rcases h.2 with h | ⟨g, cap, cur, rfl, hb, hg, rest⟩
  · exact .inl h
  · exact .inr ⟨g, cap, cur, rfl, hb, (hk g rfl).trans hg, rest⟩
structure HdOk (G : Gh) (σ : St) (w : World) (h E sz y : Nat) (zs : List Nat) (rows : List (List D)) : Prop where
  uy : Uz σ y
  uz : ∀ z ∈ zs, Uz σ z
  own : Lv σ y → (∀ g, G.ζ y g ↔ (G.τ h).ownBlock = some g) ∧ RowAt (G.zu zs) w (G.τ h) E sz rows (∀ z ∈ zs, Lv σ z)
theorem HdOk.evo {G G' : Gh} {σ σ' : St} {w w' : World} {h E sz y : Nat} {zs : List Nat} {rows : List (List D)} (k : HdOk G σ w h E sz y zs rows) (e : Evo G G' σ σ' w w') (hτ : G'.τ h = G.τ h) : HdOk G' σ' w' h E sz y zs rows := by
  refine ⟨e.uz y k.uy, fun z hz => e.uz z (k.uz z hz), fun hl => ?_⟩
  obtain ⟨a, b, c⟩ := e.lv y k.uy hl
  obtain ⟨k1, vals, k2, k3, k4, k5⟩ := k.own a
  rw [b, hτ]
  refine ⟨k1, vals, ownsRow_eq k2 fun g hg => c g ((k1 g).2 hg), k3, k4, fun hl' i r j x hi hj => ?_⟩
  obtain ⟨d1, d2⟩ := e.zu k.uz hl'
  exact (k5 d1 i r j x hi hj).evo d2
def marks (G : Gh) : Nat → List Deferred
  | 0 => []
  | k + 1 => { target := .collected (G.δ k), args := #[] } :: marks G k
structure ObOk (C : Cx) (G : Gh) (σ : St) (w : World) (b : Nat) (o : Obj) : Prop where
  obj : w.heap[b]? = some o
  nb : ¬ C.B b
  nn : ∀ n, Nm σ n → G.ρ n ≠ b
  nz : ∀ z, Lv σ z → ¬ G.ζ z b
structure DfOk (C : Cx) (G : Gh) (σ : St) (a : Act) (w : World) (k : Nat) : Prop where
  eq : a.defers = marks G k
  ok : ∀ i, i < k → ObOk C G σ w (G.δ i) (.deferred (some []))
  inj : ∀ i j, i < k → j < k → G.δ i = G.δ j → i = j
structure SoftN (σ : St) (w : World) (n b : Nat) : Prop where
  s : Soft w b
  z : ∀ c, σ (.sz n) = .sz c → ∃ cur E, w.heap[b]? = some (.cells cur E (0, 0)) ∧ cur.size = c
theorem SoftN.of_eq {σ : St} {w w' : World} {n b : Nat} (h : SoftN σ w n b) (e : w'.heap[b]? = w.heap[b]?) : SoftN σ w' n b := ⟨h.s.of_eq e, fun c hc => by rw [e]; exact h.z c hc⟩
theorem SoftN.of_sz {σ σ' : St} {w : World} {n m b : Nat} (h : SoftN σ w n b) (e : ∀ c, σ' (.sz m) = .sz c → σ (.sz n) = .sz c) : SoftN σ' w m b := ⟨h.s, fun c hc => h.z c (e c hc)⟩
theorem SoftN.of_ko {σ σ' : St} {w : World} {n b : Nat} (h : SoftN σ w n b) (e : σ' (.sz n) = σ (.sz n)) : SoftN σ' w n b := h.of_sz fun c hc => by rw [← e]; exact hc
structure ASG (C : Cx) (G : Gh) (σ : St) (a : Act) (w : World) : Prop where
  fr : Keeps C.B C.W0 w
  df : ∃ k, σ .df = .df k ∧ DfOk C G σ a w k
  sz : a.tmps.size = C.N
  tmp : ∀ t x, σ (.tmp t) = .av x → ∃ v, a.tmps[t]? = some v ∧ Rep G σ w v x
  vt : ∀ i t x, σ (.vt i t) = .av x → Rep G σ w (C.pv i t) x
  cell : ∀ n k x, σ (.cell n k) = .av x → Nm σ n ∧ ∃ v, w.cell? ⟨G.ρ n, k, none⟩ = some v ∧ w.frozen? ⟨G.ρ n, k, none⟩ = false ∧ Rep G σ w v x
  nm : ∀ n, Nm σ n → ¬ C.B (G.ρ n) ∧ G.ρ n < w.heap.size
  inj : ∀ n m, Nm σ n → Nm σ m → G.ρ n = G.ρ m → n = m
  sep : ∀ z g, Lv σ z → G.ζ z g → g < w.heap.size ∧ ∀ n, Nm σ n → G.ρ n ≠ g
  new : ∀ z g, z ∉ C.pz → Lv σ z → G.ζ z g → ¬ C.B g ∧ Soft w g
  disj : ∀ y z g, y ≠ z → Lv σ y → Lv σ z → G.ζ y g → ¬ G.ζ z g
  hd : ∀ h E sz y zs rows, σ (.hd h) = .hd (.own E sz y zs rows) → HdOk G σ w h E sz y zs rows
  zz : ∀ z ∈ C.pz, Lv σ z → ∀ g, G.ζ z g ↔ C.Zp z g
  ob : ∀ p ∈ C.ob, ObOk C G σ w p.1 p.2
  sf : ∀ n, Nm σ n → SoftN σ w n (G.ρ n)
def AS (C : Cx) (σ : St) (a : Act) (w : World) : Prop := ∃ G, ASG C G σ a w

abbrev Row := List (Key × KV)
def fnd : Row → Key → Option KV
  | [], _ => none
  | (k', v) :: r, k => if k' = k then some v else fnd r k
def ovr (σ : St) (ws : Row) : St := fun k => (fnd ws k).getD (σ k)
theorem fnd_app : ∀ (a b : Row) (k : Key), fnd (a ++ b) k = (fnd a k).or (fnd b k)
  | [], b, k => by simp [fnd]
  | (k', v) :: a, b, k => by
    simp only [List.cons_append, fnd]
    split
    · rfl
    · exact fnd_app a b k
theorem ovr_ovr (σ : St) (a b : Row) : ovr (ovr σ a) b = ovr σ (b ++ a) := by
  funext k
  simp only [ovr, fnd_app]
  cases fnd b k <;> simp
theorem ovr_nil (σ : St) : ovr σ [] = σ := by funext k; simp [ovr, fnd]
theorem ovr_one_ne (σ : St) (k : Key) (v : KV) {k' : Key} (h : k' ≠ k) : ovr σ [(k, v)] k' = σ k' := by simp only [ovr, fnd]; rw [if_neg (fun e => h e.symm)]; rfl
theorem ovr_one (σ : St) (k : Key) (v : KV) : ovr σ [(k, v)] k = v := by simp [ovr, fnd]

section
variable {C : Cx} {G : Gh} {σ σ' : St} {a : Act} {w w' : World}
theorem ASG.step (h : ASG C G σ a w) {K : Nat → Prop} (hk : Keeps K w w') (hB : ∀ k, C.B k → K k) (hN : ∀ n, Nm σ n → K (G.ρ n)) (hZ : ∀ z g, Lv σ z → G.ζ z g → K g) (hD : ∀ k i, σ .df = .df k → i < k → K (G.δ i)) (hO : ∀ p ∈ C.ob, K p.1) :
    ASG C G σ a w' ∧ Evo G G σ σ w w' := by
  have ev : Evo G G σ σ w w' := ⟨fun _ h => h, fun _ h => h, fun _ h => ⟨h, rfl⟩, fun z _ hl => ⟨hl, rfl, fun g hg => hk.block g (h.sep z g hl hg).1 (hZ z g hl hg)⟩, fun _ _ h => ⟨h, rfl⟩⟩
  obtain ⟨k, d1, d2⟩ := h.df
  refine ⟨⟨h.fr.trans ⟨hk.os, hk.tape, hk.output, hk.size, fun i hi hb => hk.block i hi (hB i hb)⟩, ⟨k, d1, d2.eq, fun i hi => ?_, d2.inj⟩, h.sz, fun t x e => ?_, fun i t x e => (h.vt i t x e).evo ev, fun n j x e => ?_, fun n hn => ⟨(h.nm n hn).1, by have := (h.nm n hn).2; have := hk.size; omega⟩, h.inj, fun z g hl hg => ?_, fun z g h0 hl hg => ?_, h.disj, fun h' E sz y zs rows e => (h.hd h' E sz y zs rows e).evo ev rfl, h.zz, fun p hp => ?_, fun n hn => (h.sf n hn).of_eq (hk.block _ (h.nm n hn).2 (hN n hn))⟩, ev⟩
  · have m := d2.ok i hi
    exact ⟨(hk.block _ (Array.getElem?_eq_some_iff.1 m.obj).1 (hD k i d1 hi)).trans m.obj, m.nb, m.nn, m.nz⟩
  · obtain ⟨v, a, b⟩ := h.tmp t x e; exact ⟨v, a, b.evo ev⟩
  · obtain ⟨a, v, b, c, d⟩ := h.cell n j x e
    have hlt := (h.nm n a).2
    exact ⟨a, v, (hk.cell hlt (hN n a)).trans b, (hk.frozen hlt (hN n a)).trans c, d.evo ev⟩
  · obtain ⟨a, b⟩ := h.sep z g hl hg; have := hk.size; exact ⟨by omega, b⟩
  · obtain ⟨a, b⟩ := h.new z g h0 hl hg
    exact ⟨a, b.of_eq (hk.block g (h.sep z g hl hg).1 (hZ z g hl hg))⟩
  · have m := h.ob p hp
    exact ⟨(hk.block _ (Array.getElem?_eq_some_iff.1 m.obj).1 (hO p hp)).trans m.obj, m.nb, m.nn, m.nz⟩
theorem ASG.below (h : ASG C G σ a w) (B : Below w.heap.size w w') : ASG C G σ a w' ∧ Evo G G σ σ w w' :=
  h.step (K := fun _ => True) (Keeps.of_below B) (fun _ _ => trivial) (fun _ _ => trivial) (fun _ _ _ _ => trivial) (fun _ _ _ _ => trivial) (fun _ _ => trivial)
theorem AS.drew (h : AS C σ a w) (k : Nat) : AS C σ a { w with drawn := k } := by
  obtain ⟨G, h⟩ := h
  exact ⟨G, (h.below (w' := { w with drawn := k }) ⟨rfl, rfl, rfl, Nat.le_refl _, fun _ _ => rfl⟩).1⟩
def Lesser (σ σ' : St) : Prop := ∀ k, σ' k = σ k ∨ (((∃ t, k = .tmp t) ∨ (∃ i t, k = .vt i t) ∨ ∃ n j, k = .cell n j) ∧ σ' k = .unk) ∨ (∃ z, k = .zn z ∧ σ' k = .zn .dead) ∨ ∃ h, k = .hd h ∧ σ' k = .hd .dead
theorem Lesser.zn (h : Lesser σ σ') (z : Nat) : σ' (.zn z) = σ (.zn z) ∨ σ' (.zn z) = .zn .dead := by
  rcases h (.zn z) with h | ⟨⟨t, h⟩ | ⟨i, t, h⟩ | ⟨n, j, h⟩, _⟩ | ⟨_, _, h⟩ | ⟨_, h, _⟩
  · exact .inl h
  · cases h
  · cases h
  · cases h
  · exact .inr h
  · cases h
theorem Lesser.nm (h : Lesser σ σ') (z : Nat) : σ' (.nm z) = σ (.nm z) := by
  rcases h (.nm z) with h | ⟨⟨t, h⟩ | ⟨i, t, h⟩ | ⟨n, j, h⟩, _⟩ | ⟨_, h, _⟩ | ⟨_, h, _⟩
  · exact h
  all_goals cases h
theorem Lesser.sz (h : Lesser σ σ') (z : Nat) : σ' (.sz z) = σ (.sz z) := by
  rcases h (.sz z) with h | ⟨⟨t, h⟩ | ⟨i, t, h⟩ | ⟨n, j, h⟩, _⟩ | ⟨_, h, _⟩ | ⟨_, h, _⟩
  · exact h
  all_goals cases h
theorem Lesser.df (h : Lesser σ σ') : σ' .df = σ .df := by
  rcases h .df with h | ⟨⟨t, h⟩ | ⟨i, t, h⟩ | ⟨n, j, h⟩, _⟩ | ⟨_, h, _⟩ | ⟨_, h, _⟩
  · exact h
  all_goals cases h
theorem Lesser.hd (h : Lesser σ σ') (z : Nat) : σ' (.hd z) = σ (.hd z) ∨ σ' (.hd z) = .hd .dead := by
  rcases h (.hd z) with h | ⟨⟨t, h⟩ | ⟨i, t, h⟩ | ⟨n, j, h⟩, _⟩ | ⟨_, h, _⟩ | ⟨_, _, h⟩
  · exact .inl h
  · cases h
  · cases h
  · cases h
  · cases h
  · exact .inr h
theorem Lesser.av (h : Lesser σ σ') {k : Key} {x : AV} (e : σ' k = .av x) : σ k = .av x := by
  rcases h k with h | ⟨_, h⟩ | ⟨_, _, h⟩ | ⟨_, _, h⟩
  · rw [← h]; exact e
  all_goals rw [h] at e; cases e
theorem Lesser.lv (h : Lesser σ σ') {z : Nat} (e : Lv σ' z) : Lv σ z := by
  rcases h.zn z with h | h
  · unfold Lv; rw [← h]; exact e
  · unfold Lv at e; rw [h] at e; cases e
theorem Lesser.evo (h : Lesser σ σ') : Evo G G σ σ' w w := by
  refine ⟨fun z hz => ?_, fun z hz => ?_, fun n hn => ⟨by unfold Nm; rw [h.nm]; exact hn, rfl⟩, fun z _ hl => ⟨h.lv hl, rfl, fun _ _ => rfl⟩, fun z _ hl => ⟨?_, rfl⟩⟩
  · unfold Uz; rcases h.zn z with e | e <;> rw [e]
    · exact hz
    · simp
  · unfold Uh; rcases h.hd z with e | e <;> rw [e]
    · exact hz
    · simp
  · obtain ⟨E, sz, y, zs, rows, hl⟩ := hl
    rcases h.hd z with e | e
    · exact ⟨E, sz, y, zs, rows, by rw [← e]; exact hl⟩
    · rw [e] at hl; cases hl
theorem ASG.less (h : ASG C G σ a w) (k : Lesser σ σ') : ASG C G σ' a w := by
  have ev : Evo G G σ σ' w w := k.evo
  have nm : ∀ n, Nm σ' n → Nm σ n := fun n hn => by unfold Nm at hn ⊢; rw [← k.nm]; exact hn
  obtain ⟨c, d1, d2⟩ := h.df
  refine ⟨h.fr, ⟨c, k.df.trans d1, d2.eq, fun i hi => ⟨(d2.ok i hi).obj, (d2.ok i hi).nb, fun n hn => (d2.ok i hi).nn n (nm n hn), fun z hz => (d2.ok i hi).nz z (k.lv hz)⟩, d2.inj⟩, h.sz, fun t x e => ?_, fun i t x e => (h.vt i t x (k.av e)).evo ev, fun n j x e => ?_,
    fun n hn => h.nm n (nm n hn), fun n m hn hm => h.inj n m (nm n hn) (nm m hm), fun z g hl hg => ?_, fun z g h0 hl => h.new z g h0 (k.lv hl), fun y z g hne hy hz => h.disj y z g hne (k.lv hy) (k.lv hz), fun h' E sz y zs rows e => ?_, fun z hz hl => h.zz z hz (k.lv hl), fun p hp => ⟨(h.ob p hp).obj, (h.ob p hp).nb, fun n hn => (h.ob p hp).nn n (nm n hn), fun z hz => (h.ob p hp).nz z (k.lv hz)⟩, fun n hn => (h.sf n (nm n hn)).of_ko (k.sz n)⟩
  · obtain ⟨v, a, b⟩ := h.tmp t x (k.av e); exact ⟨v, a, b.evo ev⟩
  · obtain ⟨a, v, b, c, d⟩ := h.cell n j x (k.av e)
    exact ⟨(ev.nm n a).1, v, b, c, d.evo ev⟩
  · obtain ⟨a, b⟩ := h.sep z g (k.lv hl) hg
    exact ⟨a, fun n hn => b n (nm n hn)⟩
  · rcases k.hd h' with e' | e'
    · exact (h.hd h' E sz y zs rows (by rw [← e']; exact e)).evo ev rfl
    · rw [e'] at e; cases e
theorem AS.less (h : AS C σ a w) (k : Lesser σ σ') : AS C σ' a w := let ⟨G, h⟩ := h; ⟨G, h.less k⟩
structure Mine (C : Cx) (G : Gh) (σ : St) (w : World) (b : Nat) : Prop where
  lt : b < w.heap.size
  nb : ¬ C.B b
  nn : ∀ n, Nm σ n → G.ρ n ≠ b
  nz : ∀ z, Lv σ z → ¬ G.ζ z b
  nd : ∀ k i, σ .df = .df k → i < k → G.δ i ≠ b
  no : ∀ p ∈ C.ob, p.1 ≠ b
theorem ASG.fresh (h : ASG C G σ a w) {b : Nat} {w' : World} (hb : w.heap.size ≤ b) (hl : b < w'.heap.size) : Mine C G σ w' b := by
  have hs := h.fr.size
  refine ⟨hl, fun e => ?_, fun n hn e => ?_, fun z hz hg => ?_, fun k i e hi e' => ?_, fun p hp e => ?_⟩
  · have := C.hB b e; omega
  · have := (h.nm n hn).2; omega
  · have := (h.sep z b hz hg).1; omega
  · obtain ⟨k', d1, d2⟩ := h.df
    rw [e] at d1; cases d1
    have := (Array.getElem?_eq_some_iff.1 (d2.ok i hi).obj).1
    omega
  · have := (Array.getElem?_eq_some_iff.1 (h.ob p hp).obj).1
    omega
theorem ASG.addzone (h : ASG C G σ a w) {z : Nat} (z0 : z ∉ C.pz) (hz : σ (.zn z) = .zn .free) (Zn : Zone) (hZ : ∀ g, Zn g → Mine C G σ w g ∧ Soft w g) :
    ASG C { G with ζ := fun y => if y = z then Zn else G.ζ y } (ovr σ [(.zn z, .zn .live)]) a w ∧ Evo G { G with ζ := fun y => if y = z then Zn else G.ζ y } σ (ovr σ [(.zn z, .zn .live)]) w w := by
  obtain ⟨G', hG⟩ : ∃ G', G' = ({ G with ζ := fun y => if y = z then Zn else G.ζ y } : Gh) := ⟨_, rfl⟩
  obtain ⟨σ', hσ⟩ : ∃ σ', σ' = ovr σ [(.zn z, .zn .live)] := ⟨_, rfl⟩
  rw [← hG, ← hσ]
  have ko : ∀ kk, kk ≠ .zn z → σ' kk = σ kk := fun kk e => by rw [hσ]; exact ovr_one_ne _ _ _ e
  have nuz : ¬ Uz σ z := fun h => h hz
  have lv : ∀ y, y ≠ z → (Lv σ' y ↔ Lv σ y) := fun y e => by unfold Lv; rw [ko _ (by simpa using e)]
  have nm : ∀ m, Nm σ' m ↔ Nm σ m := fun m => by unfold Nm; rw [ko _ (by simp)]
  have eρ : G'.ρ = G.ρ := by rw [hG]
  have eτ : G'.τ = G.τ := by rw [hG]
  have eδ : G'.δ = G.δ := by rw [hG]
  have eζs : G'.ζ z = Zn := by rw [hG]; simp
  have eζ : ∀ y, y ≠ z → G'.ζ y = G.ζ y := fun y e => by rw [hG]; simp [e]
  have ev : Evo G G' σ σ' w w := by
    refine ⟨fun y hy => ?_, fun y hy => ?_, fun m hm => ⟨(nm m).2 hm, by rw [eρ]⟩, fun y hy hl => ?_, fun y hy hl => ⟨?_, by rw [eτ]⟩⟩
    · have e : y ≠ z := by rintro rfl; exact nuz hy
      unfold Uz; rw [ko _ (by simpa using e)]; exact hy
    · unfold Uh; rw [ko _ (by simp)]; exact hy
    · have e : y ≠ z := by rintro rfl; exact nuz hy
      exact ⟨(lv y e).1 hl, eζ y e, fun _ _ => rfl⟩
    · unfold Lh at hl ⊢; rw [ko _ (by simp)] at hl; exact hl
  obtain ⟨c, d1, d2⟩ := h.df
  refine ⟨⟨h.fr, ⟨c, by rw [ko _ (by simp)]; exact d1, ?_, fun i hi => ?_, by rw [eδ]; exact d2.inj⟩, h.sz, fun t x e => ?_, fun i t x e => ?_, fun n j x e => ?_, fun m hm => by rw [eρ]; exact h.nm m ((nm m).1 hm), fun n m hn hm e => by rw [eρ] at e; exact h.inj n m ((nm n).1 hn) ((nm m).1 hm) e,
    fun y g hl hg => ?_, fun y g h0 hl hg => ?_, fun y1 y2 g hne hy1 hy2 h1 h2 => ?_, fun h' E sz y zs rows e => ?_, fun y hy hl g => by
      have e : y ≠ z := fun e => z0 (e ▸ hy)
      rw [eζ y e]; exact h.zz y hy ((lv y e).1 hl) g, fun p hp => ?_, fun n hn => by rw [eρ]; exact (h.sf n ((nm n).1 hn)).of_ko (ko _ (by simp))⟩, ev⟩
  · have : ∀ k, marks G' k = marks G k := fun k => by induction k with
      | zero => rfl
      | succ k ih => simp only [marks, ih, eδ]
    rw [this]; exact d2.eq
  · have m := d2.ok i hi
    rw [eδ]
    refine ⟨m.obj, m.nb, fun n hn => by rw [eρ]; exact m.nn n ((nm n).1 hn), fun y hy hg => ?_⟩
    by_cases e : y = z
    · subst e; rw [eζs] at hg; exact (hZ _ hg).1.nd c i d1 hi rfl
    · rw [eζ y e] at hg; exact m.nz y ((lv y e).1 hy) hg
  · rw [ko _ (by simp)] at e
    obtain ⟨v, a, b⟩ := h.tmp t x e; exact ⟨v, a, b.evo ev⟩
  · rw [ko _ (by simp)] at e
    exact (h.vt i t x e).evo ev
  · rw [ko _ (by simp)] at e
    obtain ⟨a, v, b, c, d⟩ := h.cell n j x e
    rw [eρ]
    exact ⟨(nm n).2 a, v, b, c, d.evo ev⟩
  · by_cases e : y = z
    · subst e; rw [eζs] at hg
      obtain ⟨m, _⟩ := hZ g hg
      exact ⟨m.lt, fun n hn => by rw [eρ]; exact m.nn n ((nm n).1 hn)⟩
    · rw [eζ y e] at hg
      obtain ⟨a, b⟩ := h.sep y g ((lv y e).1 hl) hg
      exact ⟨a, fun n hn => by rw [eρ]; exact b n ((nm n).1 hn)⟩
  · by_cases e : y = z
    · subst e; rw [eζs] at hg
      obtain ⟨m, s⟩ := hZ g hg
      exact ⟨m.nb, s⟩
    · rw [eζ y e] at hg
      exact h.new y g h0 ((lv y e).1 hl) hg
  · by_cases e1 : y1 = z
    · subst e1
      have e2 : y2 ≠ y1 := fun e => hne e.symm
      rw [eζs] at h1; rw [eζ y2 e2] at h2
      exact (hZ g h1).1.nz y2 ((lv y2 e2).1 hy2) h2
    · rw [eζ y1 e1] at h1
      by_cases e2 : y2 = z
      · subst e2; rw [eζs] at h2
        exact (hZ g h2).1.nz y1 ((lv y1 e1).1 hy1) h1
      · rw [eζ y2 e2] at h2
        exact h.disj y1 y2 g hne ((lv y1 e1).1 hy1) ((lv y2 e2).1 hy2) h1 h2
  · rw [ko _ (by simp)] at e
    exact (h.hd h' E sz y zs rows e).evo ev (by rw [eτ])
  · have m := h.ob p hp
    refine ⟨m.obj, m.nb, fun n hn => by rw [eρ]; exact m.nn n ((nm n).1 hn), fun y hy hg => ?_⟩
    by_cases e : y = z
    · subst e; rw [eζs] at hg; exact (hZ _ hg).1.no p hp rfl
    · rw [eζ y e] at hg; exact m.nz y ((lv y e).1 hy) hg
theorem ASG.addhd (h : ASG C G σ a w) {n E sz y : Nat} {zs : List Nat} {rows : List (List D)} (hn : σ (.hd n) = .hd .free) (tv : Value) (uy : Uz σ y) (uz : ∀ z ∈ zs, Uz σ z)
    (own : Lv σ y → (∀ g, G.ζ y g ↔ tv.ownBlock = some g) ∧ RowAt (G.zu zs) w tv E sz rows (∀ z ∈ zs, Lv σ z)) :
    ASG C { G with τ := fun k => if k = n then tv else G.τ k } (ovr σ [(.hd n, .hd (.own E sz y zs rows))]) a w ∧ Evo G { G with τ := fun k => if k = n then tv else G.τ k } σ (ovr σ [(.hd n, .hd (.own E sz y zs rows))]) w w := by
  obtain ⟨G', hG⟩ : ∃ G', G' = ({ G with τ := fun k => if k = n then tv else G.τ k } : Gh) := ⟨_, rfl⟩
  obtain ⟨σ', hσ⟩ : ∃ σ', σ' = ovr σ [(.hd n, .hd (.own E sz y zs rows))] := ⟨_, rfl⟩
  rw [← hG, ← hσ]
  have ko : ∀ kk, kk ≠ .hd n → σ' kk = σ kk := fun kk e => by rw [hσ]; exact ovr_one_ne _ _ _ e
  have ks : σ' (.hd n) = .hd (.own E sz y zs rows) := by rw [hσ]; exact ovr_one _ _ _
  have lv : ∀ y, Lv σ' y ↔ Lv σ y := fun y => by unfold Lv; rw [ko _ (by simp)]
  have uzz : ∀ y, Uz σ' y ↔ Uz σ y := fun y => by unfold Uz; rw [ko _ (by simp)]
  have nm : ∀ m, Nm σ' m ↔ Nm σ m := fun m => by unfold Nm; rw [ko _ (by simp)]
  have eρ : G'.ρ = G.ρ := by rw [hG]
  have eζ : G'.ζ = G.ζ := by rw [hG]
  have eδ : G'.δ = G.δ := by rw [hG]
  have eτs : G'.τ n = tv := by rw [hG]; simp
  have eτ : ∀ k, k ≠ n → G'.τ k = G.τ k := fun k e => by rw [hG]; simp [e]
  have ezu : ∀ zs, G'.zu zs = G.zu zs := fun zs => by unfold Gh.zu; rw [eζ]
  have ev : Evo G G' σ σ' w w := by
    refine ⟨fun y hy => (uzz y).2 hy, fun k hk => ?_, fun m hm => ⟨(nm m).2 hm, by rw [eρ]⟩, fun y _ hl => ⟨(lv y).1 hl, by rw [eζ], fun _ _ => rfl⟩, fun k hk hl => ?_⟩
    · have e : k ≠ n := by rintro rfl; exact hk hn
      unfold Uh; rw [ko _ (by simpa using e)]; exact hk
    · have e : k ≠ n := by rintro rfl; exact hk hn
      unfold Lh at hl ⊢; rw [ko _ (by simpa using e)] at hl
      exact ⟨hl, eτ k e⟩
  obtain ⟨c, d1, d2⟩ := h.df
  refine ⟨⟨h.fr, ⟨c, by rw [ko _ (by simp)]; exact d1, ?_, fun i hi => ?_, by rw [eδ]; exact d2.inj⟩, h.sz, fun t x e => ?_, fun i t x e => ?_, fun n j x e => ?_, fun m hm => by rw [eρ]; exact h.nm m ((nm m).1 hm), fun n m hn hm e => by rw [eρ] at e; exact h.inj n m ((nm n).1 hn) ((nm m).1 hm) e,
    fun y g hl hg => ?_, fun y g h0 hl hg => h.new y g h0 ((lv y).1 hl) (by rw [eζ] at hg; exact hg), fun y1 y2 g hne hy1 hy2 h1 h2 => h.disj y1 y2 g hne ((lv y1).1 hy1) ((lv y2).1 hy2) (by rw [eζ] at h1; exact h1) (by rw [eζ] at h2; exact h2), fun h' E' sz' y' zs' rows' e => ?_, fun y hy hl g => by rw [eζ]; exact h.zz y hy ((lv y).1 hl) g, fun p hp => ⟨(h.ob p hp).obj, (h.ob p hp).nb, fun n hn => by rw [eρ]; exact (h.ob p hp).nn n ((nm n).1 hn), fun y hy hg => (h.ob p hp).nz y ((lv y).1 hy) (by rw [eζ] at hg; exact hg)⟩, fun n hn => by rw [eρ]; exact (h.sf n ((nm n).1 hn)).of_ko (ko _ (by simp))⟩, ev⟩
  · have : ∀ k, marks G' k = marks G k := fun k => by induction k with
      | zero => rfl
      | succ k ih => simp only [marks, ih, eδ]
    rw [this]; exact d2.eq
  · have m := d2.ok i hi
    rw [eδ]
    exact ⟨m.obj, m.nb, fun n hn => by rw [eρ]; exact m.nn n ((nm n).1 hn), fun y hy hg => m.nz y ((lv y).1 hy) (by rw [eζ] at hg; exact hg)⟩
  · rw [ko _ (by simp)] at e
    obtain ⟨v, a, b⟩ := h.tmp t x e; exact ⟨v, a, b.evo ev⟩
  · rw [ko _ (by simp)] at e
    exact (h.vt i t x e).evo ev
  · rw [ko _ (by simp)] at e
    obtain ⟨a, v, b, c, d⟩ := h.cell n j x e
    rw [eρ]
    exact ⟨(nm n).2 a, v, b, c, d.evo ev⟩
  · rw [eζ] at hg
    obtain ⟨a, b⟩ := h.sep y g ((lv y).1 hl) hg
    exact ⟨a, fun n hn => by rw [eρ]; exact b n ((nm n).1 hn)⟩
  · by_cases e1 : h' = n
    · subst e1
      rw [ks] at e
      simp only [KV.hd.injEq, HS.own.injEq] at e
      obtain ⟨rfl, rfl, rfl, rfl, rfl⟩ := e
      refine ⟨(uzz _).2 uy, fun z hz => (uzz _).2 (uz z hz), fun hl => ?_⟩
      obtain ⟨k1, vals, k2, k3, k4, k5⟩ := own ((lv _).1 hl)
      rw [eτs, eζ]
      refine ⟨k1, vals, k2, k3, k4, fun hl' i r j x hi hj => ?_⟩
      rw [ezu]
      exact k5 (fun z hz => (lv z).1 (hl' z hz)) i r j x hi hj
    · rw [ko _ (by simpa using e1)] at e
      exact (h.hd h' _ _ _ _ _ e).evo ev (eτ h' e1)
def crow (n : Nat) : Nat → List AV → Row
  | _, [] => []
  | k, y :: ys => (.cell n k, .av y) :: crow n (k + 1) ys
theorem fnd_crow (n : Nat) : ∀ (ys : List AV) (k m j : Nat), fnd (crow n k ys) (.cell m j) = if m = n ∧ k ≤ j then (ys[j - k]?).map .av else none
  | [], k, m, j => by simp [crow, fnd]
  | y :: ys, k, m, j => by
    simp only [crow, fnd, Key.cell.injEq]
    by_cases h : n = m ∧ k = j
    · obtain ⟨rfl, rfl⟩ := h
      simp
    · rw [if_neg h, fnd_crow n ys (k + 1) m j]
      by_cases h2 : m = n ∧ k + 1 ≤ j
      · rw [if_pos h2, if_pos ⟨h2.1, by omega⟩, show j - k = (j - (k + 1)) + 1 by omega]
        simp
      · rw [if_neg h2, if_neg]
        rintro ⟨rfl, hk⟩
        exact h2 ⟨rfl, by have : k ≠ j := fun e => h ⟨rfl, e⟩; omega⟩
theorem fnd_crow_ne (n : Nat) : ∀ (ys : List AV) (k : Nat) {kk : Key}, (∀ j, kk ≠ .cell n j) → fnd (crow n k ys) kk = none
  | [], k, kk, h => rfl
  | y :: ys, k, kk, h => by
    simp only [crow, fnd]
    rw [if_neg (fun e => h k e.symm)]
    exact fnd_crow_ne n ys (k + 1) h
theorem ASG.addname (h : ASG C G σ a w) {n b : Nat} (hn : σ (.nm n) = .nm false) (hb : Mine C G σ w b) (hs : Soft w b) (ys : List AV) (hsz : ∃ cur E, w.heap[b]? = some (.cells cur E (0, 0)) ∧ cur.size = ys.length) (hy : ∀ (i : Nat) (y : AV), ys[i]? = some y → ∃ v, w.cell? ⟨b, i, none⟩ = some v ∧ w.frozen? ⟨b, i, none⟩ = false ∧ Rep G σ w v y) :
    ASG C { G with ρ := fun m => if m = n then b else G.ρ m } (ovr σ ((.nm n, .nm true) :: (.sz n, .sz ys.length) :: crow n 0 ys)) a w ∧ Evo G { G with ρ := fun m => if m = n then b else G.ρ m } σ (ovr σ ((.nm n, .nm true) :: (.sz n, .sz ys.length) :: crow n 0 ys)) w w := by
  obtain ⟨G', hG⟩ : ∃ G', G' = ({ G with ρ := fun m => if m = n then b else G.ρ m } : Gh) := ⟨_, rfl⟩
  obtain ⟨σ', hσ⟩ : ∃ σ', σ' = ovr σ ((.nm n, .nm true) :: (.sz n, .sz ys.length) :: crow n 0 ys) := ⟨_, rfl⟩
  rw [← hG, ← hσ]
  have nn : ¬ Nm σ n := by unfold Nm; rw [hn]; simp
  have ko0 : ∀ kk, kk ≠ .nm n → kk ≠ .sz n → (∀ j, kk ≠ .cell n j) → σ' kk = σ kk := fun kk e e2 e' => by
    rw [hσ]; simp only [ovr, fnd]
    rw [if_neg (fun q => e q.symm), if_neg (fun q => e2 q.symm), fnd_crow_ne n ys 0 e']
    rfl
  have kz : σ' (.sz n) = .sz ys.length := by rw [hσ]; simp [ovr, fnd]
  have ks : ∀ m, m ≠ n → σ' (.sz m) = σ (.sz m) := fun m e => ko0 _ (by simp) (by simpa using e) (by simp)
  have ko : ∀ kk, kk ≠ .nm n → (∀ j, kk ≠ .cell n j) → (∀ m, kk ≠ .sz m) → σ' kk = σ kk := fun kk e e' e2 => ko0 kk e (e2 n) e'
  have kn : ∀ m, Nm σ' m ↔ Nm σ m ∨ m = n := fun m => by
    rw [hσ]; unfold Nm; simp only [ovr, fnd, Key.nm.injEq]
    by_cases e : n = m
    · subst e; simp
    · rw [if_neg e, if_neg (by simp), fnd_crow_ne n ys 0 (fun j => by simp)]
      simp only [Option.getD_none]
      exact ⟨Or.inl, fun h => h.resolve_right (fun e' => e e'.symm)⟩
  have kc : ∀ m k, σ' (.cell m k) = if m = n ∧ k < ys.length then (match ys[k]? with | some y => .av y | none => .unk) else σ (.cell m k) := fun m k => by
    rw [hσ]; simp only [ovr, fnd]
    rw [if_neg (by simp), if_neg (by simp), fnd_crow]
    simp only [Nat.zero_le, and_true, Nat.sub_zero]
    by_cases e : m = n
    · subst e
      by_cases hk : k < ys.length
      · simp [hk]
      · simp [hk]
    · simp [e]
  have lv : ∀ z, Lv σ' z ↔ Lv σ z := fun z => by unfold Lv; rw [ko _ (by simp) (by simp) (by simp)]
  have ρn : G'.ρ n = b := by rw [hG]; simp
  have ρo : ∀ m, m ≠ n → G'.ρ m = G.ρ m := fun m e => by rw [hG]; simp [e]
  have eζ : G'.ζ = G.ζ := by rw [hG]
  have eτ : G'.τ = G.τ := by rw [hG]
  have eδ : G'.δ = G.δ := by rw [hG]
  have ne : ∀ m, Nm σ m → m ≠ n := fun m hm e => nn (e ▸ hm)
  have ev : Evo G G' σ σ' w w := by
    refine ⟨fun z h => ?_, fun z h => ?_, fun m hm => ⟨(kn m).2 (.inl hm), ρo m (ne m hm)⟩, fun z _ hl => ⟨(lv z).1 hl, by rw [eζ], fun _ _ => rfl⟩, fun z _ hl => ⟨?_, by rw [eτ]⟩⟩
    · unfold Uz; rw [ko _ (by simp) (by simp) (by simp)]; exact h
    · unfold Uh; rw [ko _ (by simp) (by simp) (by simp)]; exact h
    · unfold Lh at hl ⊢; rw [ko _ (by simp) (by simp) (by simp)] at hl; exact hl
  obtain ⟨c, d1, d2⟩ := h.df
  refine ⟨⟨h.fr, ⟨c, by rw [ko _ (by simp) (by simp) (by simp)]; exact d1, ?_, fun i hi => ?_, by rw [eδ]; exact d2.inj⟩, h.sz, fun t x e => ?_, fun i t x e => ?_, fun m k x e => ?_, fun m hm => ?_, fun m m' hm hm' e => ?_, fun z g hl hz => ?_, fun z g h0 hl hz => h.new z g h0 ((lv z).1 hl) (by rw [eζ] at hz; exact hz),
    fun y z g hne hy hz h1 h2 => h.disj y z g hne ((lv y).1 hy) ((lv z).1 hz) (by rw [eζ] at h1; exact h1) (by rw [eζ] at h2; exact h2), fun h' E sz y zs rows e => ?_, fun y hy hl g => by rw [eζ]; exact h.zz y hy ((lv y).1 hl) g, fun p hp => ?_, fun m hm => ?_⟩, ev⟩
  · have : ∀ k, marks G' k = marks G k := fun k => by induction k with
      | zero => rfl
      | succ k ih => simp only [marks, ih, eδ]
    rw [this]; exact d2.eq
  · have m := d2.ok i hi
    rw [eδ]
    refine ⟨m.obj, m.nb, fun q hq => ?_, fun y hy hg => m.nz y ((lv y).1 hy) (by rw [eζ] at hg; exact hg)⟩
    rcases (kn q).1 hq with hq | rfl
    · rw [ρo q (ne q hq)]; exact m.nn q hq
    · rw [ρn]; exact fun e => hb.nd c i d1 hi e.symm
  · rw [ko _ (by simp) (by simp) (by simp)] at e
    obtain ⟨v, h1, h2⟩ := h.tmp t x e
    exact ⟨v, h1, h2.evo ev⟩
  · rw [ko _ (by simp) (by simp) (by simp)] at e
    exact (h.vt i t x e).evo ev
  · rw [kc] at e
    by_cases hm : m = n ∧ k < ys.length
    · rw [if_pos hm] at e
      obtain ⟨rfl, hk⟩ := hm
      rw [List.getElem?_eq_getElem hk] at e
      simp only [KV.av.injEq] at e
      subst e
      obtain ⟨v, c1, c2, c3⟩ := hy k _ (List.getElem?_eq_getElem hk)
      rw [ρn]
      exact ⟨(kn m).2 (.inr rfl), v, c1, c2, c3.evo ev⟩
    · rw [if_neg hm] at e
      obtain ⟨h1, v, h2, h3, h4⟩ := h.cell m k x e
      rw [ρo m (ne m h1)]
      exact ⟨(kn m).2 (.inl h1), v, h2, h3, h4.evo ev⟩
  · rcases (kn m).1 hm with hm | rfl
    · rw [ρo m (ne m hm)]; exact h.nm m hm
    · rw [ρn]; exact ⟨hb.nb, hb.lt⟩
  · rcases (kn m).1 hm with h1 | rfl
    · rcases (kn m').1 hm' with h2 | rfl
      · rw [ρo m (ne m h1), ρo m' (ne m' h2)] at e; exact h.inj m m' h1 h2 e
      · rw [ρo m (ne m h1), ρn] at e; exact absurd e (hb.nn m h1)
    · rcases (kn m').1 hm' with h2 | rfl
      · rw [ρo m' (ne m' h2), ρn] at e; exact absurd e.symm (hb.nn m' h2)
      · rfl
  · rw [eζ] at hz
    obtain ⟨h1, h2⟩ := h.sep z g ((lv z).1 hl) hz
    refine ⟨h1, fun m hm => ?_⟩
    rcases (kn m).1 hm with hm | rfl
    · rw [ρo m (ne m hm)]; exact h2 m hm
    · rw [ρn]; rintro rfl; exact hb.nz z ((lv z).1 hl) hz
  · rw [ko _ (by simp) (by simp) (by simp)] at e
    exact (h.hd h' E sz y zs rows e).evo ev (by rw [eτ])
  · have m := h.ob p hp
    refine ⟨m.obj, m.nb, fun q hq => ?_, fun y hy hg => m.nz y ((lv y).1 hy) (by rw [eζ] at hg; exact hg)⟩
    rcases (kn q).1 hq with hq | rfl
    · rw [ρo q (ne q hq)]; exact m.nn q hq
    · rw [ρn]; exact fun e => hb.no p hp e.symm
  · rcases (kn m).1 hm with hm | rfl
    · rw [ρo m (ne m hm)]; exact (h.sf m hm).of_ko (ks m (ne m hm))
    · rw [ρn]; exact ⟨hs, fun c hc => by rw [kz] at hc; cases hc; exact hsz⟩
theorem ASG.set1 (h : ASG C G σ a w) {n k : Nat} {y0 y : AV} {v : Value} (hc : σ (.cell n k) = .av y0) (hr : Rep G σ w v y) :
    ASG C G (ovr σ [(.cell n k, .av y)]) a (w.setCell ⟨G.ρ n, k, none⟩ v) ∧ Evo G G σ (ovr σ [(.cell n k, .av y)]) w (w.setCell ⟨G.ρ n, k, none⟩ v) := by
  obtain ⟨σ', hσ⟩ : ∃ σ', σ' = ovr σ [(.cell n k, .av y)] := ⟨_, rfl⟩
  rw [← hσ]
  have ko : ∀ kk, kk ≠ .cell n k → σ' kk = σ kk := fun kk e => by rw [hσ]; exact ovr_one_ne _ _ _ e
  have ks : σ' (.cell n k) = .av y := by rw [hσ]; exact ovr_one _ _ _
  have lv : ∀ z, Lv σ' z ↔ Lv σ z := fun z => by unfold Lv; rw [ko _ (by simp)]
  have nm : ∀ m, Nm σ' m ↔ Nm σ m := fun m => by unfold Nm; rw [ko _ (by simp)]
  obtain ⟨hn, u0, c1, c2, _⟩ := h.cell n k y0 hc
  have hz0 : ∀ z g, Lv σ z → G.ζ z g → g ≠ G.ρ n := fun z g hl hg e => (h.sep z g hl hg).2 n hn e.symm
  have blk : ∀ g, g ≠ G.ρ n → (w.setCell ⟨G.ρ n, k, none⟩ v).heap[g]? = w.heap[g]? := fun g e => Below.heap_setCell _ _ _ _ e
  have ev : Evo G G σ σ' w (w.setCell ⟨G.ρ n, k, none⟩ v) := by
    refine ⟨fun z h => ?_, fun z h => ?_, fun m hm => ⟨(nm m).2 hm, rfl⟩, fun z _ hl => ⟨(lv z).1 hl, rfl, fun g hg => blk g (hz0 z g ((lv z).1 hl) hg)⟩, fun z _ hl => ⟨?_, rfl⟩⟩
    · unfold Uz; rw [ko _ (by simp)]; exact h
    · unfold Uh; rw [ko _ (by simp)]; exact h
    · unfold Lh at hl ⊢; rw [ko _ (by simp)] at hl; exact hl
  obtain ⟨c, d1, d2⟩ := h.df
  refine ⟨⟨h.fr.trans ⟨rfl, rfl, rfl, by simp [World.setCell], fun i hi hb => blk i (by rintro rfl; exact (h.nm n hn).1 hb)⟩, ⟨c, by rw [ko _ (by simp)]; exact d1, d2.eq, fun i hi => ?_, d2.inj⟩, h.sz, fun t x e => ?_, fun i t x e => ?_, fun m j x e => ?_, fun m hm => ?_,
    fun m m' hm hm' e => h.inj m m' ((nm m).1 hm) ((nm m').1 hm') e, fun z g hl hz => ?_, fun z g h0 hl hz => ?_, fun y z g hne hy hz => h.disj y z g hne ((lv y).1 hy) ((lv z).1 hz), fun h' E sz y zs rows e => ?_, fun y hy hl => h.zz y hy ((lv y).1 hl), fun p hp => ?_, fun m hm => ?_⟩, ev⟩
  · have m := d2.ok i hi
    exact ⟨(blk _ (fun e => m.nn n hn e.symm)).trans m.obj, m.nb, fun q hq => m.nn q ((nm q).1 hq), fun z hz => m.nz z ((lv z).1 hz)⟩
  · rw [ko _ (by simp)] at e
    obtain ⟨u, h1, h2⟩ := h.tmp t x e
    exact ⟨u, h1, h2.evo ev⟩
  · rw [ko _ (by simp)] at e
    exact (h.vt i t x e).evo ev
  · by_cases he : m = n ∧ j = k
    · obtain ⟨rfl, rfl⟩ := he
      rw [ks] at e
      simp only [KV.av.injEq] at e
      subst e
      refine ⟨(nm m).2 hn, v, World.cell?_setCell_same w _ v c1, ?_, hr.evo ev⟩
      rw [World.frozen?_setCell]; exact c2
    · rw [ko _ (by simp; exact fun a b => he ⟨a, b⟩)] at e
      obtain ⟨h1, u, h2, h3, h4⟩ := h.cell m j x e
      refine ⟨(nm m).2 h1, u, ?_, ?_, h4.evo ev⟩
      · rw [World.cell?_setCell_other]
        · exact h2
        · intro e'
          simp only [Addr.mk.injEq, and_true] at e'
          exact he ⟨(h.inj n m hn h1 e'.1).symm, e'.2.symm⟩
      · rw [World.frozen?_setCell]; exact h3
  · have := h.nm m ((nm m).1 hm); simpa [World.setCell] using this
  · obtain ⟨h1, h2⟩ := h.sep z g ((lv z).1 hl) hz
    exact ⟨by simpa [World.setCell] using h1, fun m hm => h2 m ((nm m).1 hm)⟩
  · obtain ⟨a1, a2⟩ := h.new z g h0 ((lv z).1 hl) hz
    exact ⟨a1, a2.of_eq (blk g (hz0 z g ((lv z).1 hl) hz))⟩
  · rw [ko _ (by simp)] at e
    exact (h.hd h' E sz y zs rows e).evo ev rfl
  · have m := h.ob p hp
    exact ⟨(blk _ (fun e => m.nn n hn e.symm)).trans m.obj, m.nb, fun q hq => m.nn q ((nm q).1 hq), fun z hz => m.nz z ((lv z).1 hz)⟩
  · have hm' := (nm m).1 hm
    by_cases e : G.ρ m = G.ρ n
    · have hq := h.sf m hm'
      rw [e] at hq ⊢
      obtain ⟨cur, t, hs⟩ := hq.s.cells c1
      refine ⟨.mk (set_heap_same hs), fun c hc => ?_⟩
      rw [ko _ (by simp)] at hc
      obtain ⟨cur', E', h1, h2⟩ := hq.z c hc
      rw [hs] at h1
      cases h1
      exact ⟨_, _, set_heap_same hs, by simpa using h2⟩
    · exact ((h.sf m hm').of_eq (blk _ e)).of_ko (ko _ (by simp))
def wr (dst : Option Tmp) (x : AV) : Row := match dst with | some d => [(.tmp d, .av x)] | none => []
theorem ovr_wr_ne (dst : Option Tmp) (x : AV) {k : Key} (h : ∀ t, k ≠ .tmp t) : ovr σ (wr dst x) k = σ k := by
  cases dst with
  | none => rfl
  | some d => simp only [ovr, wr, fnd]; rw [if_neg (fun e => h d e.symm)]; rfl
theorem Act.put_get (a : Act) (d t : Nat) (v : Value) : (a.put (some d) v).tmps[t]? = if t = d then (if d < a.tmps.size then some v else none) else a.tmps[t]? := by
  simp only [Act.put, Array.getElem?_setIfInBounds]
  split <;> rename_i h
  · subst h; simp
  · rw [if_neg (fun e => h e.symm)]
theorem ASG.put (h : ASG C G σ a w) {dst : Option Tmp} {v : Value} {x : AV} (hd : ∀ d, dst = some d → d < C.N) (hr : Rep G σ w v x) : ASG C G (ovr σ (wr dst x)) (a.put dst v) w := by
  obtain ⟨σ', hσ⟩ : ∃ σ', σ' = ovr σ (Proofs.Ytlkdkhmdmgchbaa.wr dst x) := ⟨_, rfl⟩
  rw [← hσ]
  have ko : ∀ kk, (∀ t, kk ≠ .tmp t) → σ' kk = σ kk := fun kk e => by rw [hσ]; exact ovr_wr_ne dst x e
  have lv : ∀ z, Lv σ' z ↔ Lv σ z := fun z => by unfold Lv; rw [ko _ (by simp)]
  have nm : ∀ m, Nm σ' m ↔ Nm σ m := fun m => by unfold Nm; rw [ko _ (by simp)]
  have E : Evo G G σ σ' w w := by
    refine ⟨fun z h => ?_, fun z h => ?_, fun m hm => ⟨(nm m).2 hm, rfl⟩, fun z _ hl => ⟨(lv z).1 hl, rfl, fun _ _ => rfl⟩, fun z _ hl => ⟨?_, rfl⟩⟩
    · unfold Uz; rw [ko _ (by simp)]; exact h
    · unfold Uh; rw [ko _ (by simp)]; exact h
    · unfold Lh at hl ⊢; rw [ko _ (by simp)] at hl; exact hl
  obtain ⟨c, d1, d2⟩ := h.df
  refine ⟨h.fr, ⟨c, by rw [ko _ (by simp)]; exact d1, ?_, fun i hi => ⟨(d2.ok i hi).obj, (d2.ok i hi).nb, fun q hq => (d2.ok i hi).nn q ((nm q).1 hq), fun z hz => (d2.ok i hi).nz z ((lv z).1 hz)⟩, d2.inj⟩, ?_, fun t y e => ?_, fun i t x e => ?_, fun n k y e => ?_, fun n hn => h.nm n ((nm n).1 hn), fun n m hn hm => h.inj n m ((nm n).1 hn) ((nm m).1 hm),
    fun z g hl hz => ?_, fun z g h0 hl hz => h.new z g h0 ((lv z).1 hl) hz, fun y z g hne hy hz => h.disj y z g hne ((lv y).1 hy) ((lv z).1 hz), fun h' E' sz y zs rows e => ?_, fun y hy hl => h.zz y hy ((lv y).1 hl), fun p hp => ⟨(h.ob p hp).obj, (h.ob p hp).nb, fun n hn => (h.ob p hp).nn n ((nm n).1 hn), fun z hz => (h.ob p hp).nz z ((lv z).1 hz)⟩, fun n hn => (h.sf n ((nm n).1 hn)).of_ko (ko _ (by simp))⟩
  · cases dst <;> exact d2.eq
  · cases dst with
    | none => exact h.sz
    | some d => simp [Act.put, h.sz]
  · cases dst with
    | none =>
      rw [hσ] at e
      obtain ⟨u, h1, h2⟩ := h.tmp t y e
      exact ⟨u, h1, h2.evo E⟩
    | some d =>
      by_cases ht : t = d
      · subst ht
        rw [hσ] at e
        simp only [ovr, Proofs.Ytlkdkhmdmgchbaa.wr, fnd, if_pos, Option.getD_some, KV.av.injEq] at e
        subst e
        exact ⟨v, by rw [Act.put_get, if_pos rfl, if_pos (by rw [h.sz]; exact hd t rfl)], hr.evo E⟩
      · rw [hσ] at e
        simp only [ovr, Proofs.Ytlkdkhmdmgchbaa.wr, fnd] at e
        rw [if_neg (fun e => ht (by cases e; rfl))] at e
        obtain ⟨u, h1, h2⟩ := h.tmp t y e
        exact ⟨u, by rw [Act.put_get, if_neg ht]; exact h1, h2.evo E⟩
  · rw [ko _ (by simp)] at e
    exact (h.vt i t x e).evo E
  · rw [ko _ (by simp)] at e
    obtain ⟨h1, u, h2, h3, h4⟩ := h.cell n k y e
    exact ⟨(nm n).2 h1, u, h2, h3, h4.evo E⟩
  · obtain ⟨h1, h2⟩ := h.sep z g ((lv z).1 hl) hz
    exact ⟨h1, fun n hn => h2 n ((nm n).1 hn)⟩
  · rw [ko _ (by simp)] at e
    exact (h.hd h' E' sz y zs rows e).evo E rfl
end

structure Trc where
  reads : Row
  writes : Row
abbrev Fr (r : Option Nat) : Fence := { Fence.wide with round := r }
def Valid (P : Program) (C : Cx) (r : Option Nat) (ops : Array Oper) (Q : Exit → Act → World → Prop) (i : Nat) (tr : Trc) : Prop :=
  ∀ σ a w K, AS C σ a w → (∀ kv ∈ tr.reads, σ kv.1 = kv.2) → (∀ a' w', AS C (ovr σ tr.writes) a' w' → K a' w') → wpOpIn (Fr r) 10 P ops Q i K a w

def stf (σ : St) (ws : Nat → Row) (S : Nat → Bool) : Nat → St
  | 0 => σ
  | n + 1 => if S n then ovr (stf σ ws S n) (ws n) else stf σ ws S n
theorem stf_congr {σ : St} {ws : Nat → Row} {S S' : Nat → Bool} {k : Key} : ∀ n, (∀ j, j < n → fnd (ws j) k ≠ none → S j = S' j) → stf σ ws S n k = stf σ ws S' n k
  | 0, _ => rfl
  | n + 1, h => by
    have ih := stf_congr (σ := σ) n (fun j hj hk => h j (by omega) hk)
    unfold stf
    cases hf : fnd (ws n) k with
    | some v =>
      have e := h n (by omega) (by rw [hf]; simp)
      rw [e]
      split
      · simp [ovr, hf]
      · exact ih
    | none =>
      have e1 : ∀ T : St, ovr T (ws n) k = T k := fun T => by simp [ovr, hf]
      split <;> split <;> simp only [e1, ih]
theorem stf_lt {σ : St} {ws : Nat → Row} (i : Nat) : ∀ n, i ≤ n → stf σ ws (fun j => decide (j < i)) n = stf σ ws (fun _ => true) i
  | 0, h => by
    obtain rfl : i = 0 := (by omega)
    rfl
  | n + 1, h => by
    by_cases e : i = n + 1
    · subst e
      exact funext fun k => stf_congr _ fun j hj _ => by simp [hj]
    · have ih := stf_lt (σ := σ) (ws := ws) i n (by omega)
      rw [← ih]
      show (if decide (n < i) = true then _ else _) = _
      rw [if_neg (by simp; omega)]
theorem stf_last {σ : St} {ws : Nat → Row} {S : Nat → Bool} {i : Nat} {k : Key} {v : KV} (hS : S i = true) (hf : fnd (ws i) k = some v) : ∀ n, i < n → (∀ j, i < j → j < n → fnd (ws j) k ≠ none → S j = false) → stf σ ws S n k = v
  | 0, h, _ => by omega
  | n + 1, h, hl => by
    unfold stf
    by_cases e : i = n
    · subst e
      rw [if_pos hS]
      simp [ovr, hf]
    · have ih := stf_last (σ := σ) hS hf n (by omega) (fun j a b c => hl j a (by omega) c)
      cases hfn : fnd (ws n) k with
      | none =>
        split
        · simp [ovr, hfn, ih]
        · exact ih
      | some u =>
        rw [if_neg (by rw [hl n (by omega) (by omega) (by rw [hfn]; simp)]; simp)]
        exact ih

theorem after_bits (acc : Array Nat) (i : Nat) : ∀ (l : List Edge) (s : Nat), (l.foldl (fun s e => if Region.binds .any e then s ||| 2 ^ e.on ||| acc.getD e.on 0 else s) s).testBit i = true →
    s.testBit i = true ∨ ∃ e ∈ l, Region.binds .any e = true ∧ (i = e.on ∨ (acc.getD e.on 0).testBit i = true)
  | [], s, h => .inl h
  | e :: l, s, h => by
    rw [List.foldl_cons] at h
    rcases after_bits acc i l _ h with h | ⟨e', h1, h2⟩
    · split at h
      · rename_i hb
        rw [Nat.testBit_or, Nat.testBit_or, Bool.or_eq_true, Bool.or_eq_true, Nat.testBit_two_pow] at h
        rcases h with (h | h) | h
        · exact .inl h
        · exact .inr ⟨e, List.mem_cons_self, hb, .inl (by simp at h; exact h.symm)⟩
        · exact .inr ⟨e, List.mem_cons_self, hb, .inr h⟩
      · exact .inl h
    · exact .inr ⟨e', List.mem_cons_of_mem _ h1, h2⟩
def Down (ops : Array Oper) (L : Nat → Prop) : Prop := ∀ j o, L j → ops[j]? = some o → ∀ e ∈ o.after, Region.binds .any e = true → L e.on
theorem before_go (ops : Array Oper) (L : Nat → Prop) (hL : Down ops L) : ∀ (l : List Oper) (acc : Array Nat), (∀ j o, l[j]? = some o → ops[acc.size + j]? = some o) →
    (∀ j i, (acc.getD j 0).testBit i = true → L j → L i) →
    ∀ j i, ((l.foldl (fun acc o => acc.push (o.after.foldl (fun s e => if Region.binds .any e then s ||| 2 ^ e.on ||| acc.getD e.on 0 else s) 0)) acc).getD j 0).testBit i = true → L j → L i
  | [], acc, _, h2 => h2
  | o :: l, acc, h1, h2 => by
    rw [List.foldl_cons]
    refine before_go ops L hL l _ (fun j o' hj => ?_) ?_
    · rw [Array.size_push]
      have := h1 (j + 1) o' (by simpa using hj)
      rwa [show acc.size + 1 + j = acc.size + (j + 1) by omega]
    · intro j i hb hj
      by_cases e : j = acc.size
      · subst e
        rw [Array.getD_eq_getD_getElem?, Array.getElem?_push_size, Option.getD_some, ← Array.foldl_toList] at hb
        rcases after_bits acc i _ _ hb with h | ⟨e, k1, k2, k3⟩
        · simp at h
        · have hon : L e.on := hL _ o hj (by simpa using h1 0 o rfl) e (by simpa using k1) k2
          rcases k3 with rfl | k3
          · exact hon
          · exact h2 _ _ k3 hon
      · refine h2 j i ?_ hj
        rw [Array.getD_eq_getD_getElem?] at hb ⊢
        rwa [Array.getElem?_push, if_neg e] at hb
theorem before_spec {ops : Array Oper} {L : Nat → Prop} (hL : Down ops L) {j i : Nat} (h : ((Region.before ops).getD j 0).testBit i = true) (hj : L j) : L i := by
  unfold Region.before at h
  rw [← Array.foldl_toList] at h
  exact before_go ops L hL ops.toList #[] (fun j o hj => by simpa using hj) (fun j i hb _ => by simp at hb) j i h hj

def apart (a b : List Key) : Bool := a.all fun k => !b.contains k
theorem apart_spec {a b : List Key} (h : apart a b = true) {k : Key} (ha : k ∈ a) (hb : k ∈ b) : False := by
  unfold apart at h
  rw [List.all_eq_true] at h
  have := h k ha
  simp [hb] at this
def ordOk (ops : Array Oper) (ks : List (List Key × List Key)) : Bool :=
  let b := Region.before ops
  ks.zipIdx.all fun (x, j) => ks.zipIdx.all fun (y, i) => j ≤ i || (b.getD j 0).testBit i || (apart y.2 x.1 && apart y.2 x.2 && apart x.2 y.1)
def edgesOk (ops : Array Oper) : Bool := ops.toList.zipIdx.all fun (o, i) => o.after.toList.all fun e => !Region.binds .any e || decide (e.on < i)
theorem fnd_keys : ∀ {r : Row} {k : Key}, fnd r k ≠ none → k ∈ r.map (·.1)
  | [], k, h => absurd rfl h
  | (k', v) :: r, k, h => by
    unfold fnd at h
    split at h
    · rename_i e; subst e; simp
    · exact List.mem_cons_of_mem _ (fnd_keys h)
theorem edges_spec {ops : Array Oper} (h : edgesOk ops = true) {i : Nat} {o : Oper} (ho : ops[i]? = some o) {e : Edge} (he : e ∈ o.after) (hb : Region.binds .any e = true) : e.on < i := by
  unfold edgesOk at h
  rw [List.all_eq_true] at h
  have h1 := h (o, i) (by rw [List.mem_zipIdx_iff_getElem?]; simpa using ho)
  simp only [List.all_eq_true] at h1
  have h2 := h1 e (by simpa using he)
  rw [hb] at h2
  simpa using h2
theorem ord_spec {ops : Array Oper} {ks : List (List Key × List Key)} (h : ordOk ops ks = true) {i j : Nat} (hij : i < j) {x y : List Key × List Key} (hj : ks[j]? = some x) (hi : ks[i]? = some y) :
    ((Region.before ops).getD j 0).testBit i = true ∨ ∀ k, (k ∈ y.2 → k ∉ x.1 ∧ k ∉ x.2) ∧ (k ∈ x.2 → k ∉ y.1) := by
  unfold ordOk at h
  rw [List.all_eq_true] at h
  have h1 := h (x, j) (by rw [List.mem_zipIdx_iff_getElem?]; exact hj)
  rw [List.all_eq_true] at h1
  have h2 := h1 (y, i) (by rw [List.mem_zipIdx_iff_getElem?]; exact hi)
  simp only [Bool.or_eq_true, decide_eq_true_eq, Bool.and_eq_true] at h2
  rcases h2 with (h2 | h2) | ⟨⟨h2, h3⟩, h4⟩
  · omega
  · exact .inl h2
  · exact .inr fun k => ⟨fun hk => ⟨fun hx => apart_spec h2 hk hx, fun hx => apart_spec h3 hk hx⟩, fun hx hy => apart_spec h4 hx hy⟩

section
variable {P : Program} {C : Cx} {r : Option Nat} {ops : Array Oper} {Q : Exit → Act → World → Prop} {σ : St} {tr : Nat → Trc}
theorem region_text {id : Nat} {a : Act} {w : World} (hv : ∀ i, i < ops.size → Valid P C r ops Q i (tr i))
    (hr : ∀ i, i < ops.size → ∀ kv ∈ (tr i).reads, stf σ (fun j => (tr j).writes) (fun _ => true) i kv.1 = kv.2)
    (h : AS C σ a w) (hk : ∀ a' w', AS C (stf σ (fun j => (tr j).writes) (fun _ => true) ops.size) a' w' → Q .normal a' w') : (Code.region id ops false).wpIn (Fr r) 10 P Q a w := by
  refine wpIn_region ?_
  suffices H : ∀ m i a w, i + m = ops.size → AS C (stf σ (fun j => (tr j).writes) (fun _ => true) i) a w → wpOpsIn (Fr r) 10 P ops Q (List.range' i m) a w by
    have := H ops.size 0 a w (by omega) h
    rwa [List.range_eq_range']
  intro m
  induction m with
  | zero =>
    intro i a w hi h
    obtain rfl : i = ops.size := (by omega)
    exact hk a w h
  | succ m ih =>
    intro i a w hi h
    rw [List.range'_succ, wpOpsIn_cons]
    refine hv i (by omega) _ a w _ h (hr i (by omega)) fun a' w' h' => ih (i + 1) a' w' (by omega) ?_
    unfold stf
    rw [if_pos rfl]
    exact h'
theorem region_drawn {id : Nat} {a : Act} {w : World} (hm : P.follows .mixedOrders = true) (he : edgesOk ops = true)
    (ks : List (List Key × List Key)) (hks : ks = (List.range ops.size).map fun i => ((tr i).reads.map (·.1), (tr i).writes.map (·.1))) (ho : ordOk ops ks = true)
    (hv : ∀ i, i < ops.size → Valid P C r ops Q i (tr i))
    (hr : ∀ i, i < ops.size → ∀ kv ∈ (tr i).reads, stf σ (fun j => (tr j).writes) (fun _ => true) i kv.1 = kv.2)
    (h : AS C σ a w) (hk : ∀ a' w', AS C (stf σ (fun j => (tr j).writes) (fun _ => true) ops.size) a' w' → Q .normal a' w') : (Code.region id ops true).wpIn (Fr r) 10 P Q a w := by
  have hget : ∀ i, i < ops.size → ks[i]? = some ((tr i).reads.map (·.1), (tr i).writes.map (·.1)) := fun i hi => by rw [hks]; simp [hi]
  refine wpIn_region_any hm ?_
  suffices H : ∀ fuel (listed : Array Bool) a w, listed.size = ops.size → ((List.range ops.size).filter fun i => !listed.getD i true).length ≤ fuel →
      Down ops (fun i => listed.getD i false = true) → AS C (stf σ (fun j => (tr j).writes) (fun i => listed.getD i false) ops.size) a w → wpAnyIn (Fr r) 10 P .any ops Q fuel listed a w by
    refine H _ _ a _ (by simp) (by refine Nat.le_trans (List.length_filter_le _ _) (by simp)) (fun j o hj => ?_) ?_
    · simp only [Array.getD_eq_getD_getElem?, Array.getElem?_replicate] at hj
      split at hj <;> simp at hj
    · have e : stf σ (fun j => (tr j).writes) (fun i => (Array.replicate ops.size false).getD i false) ops.size = σ := by
        have : (fun i => (Array.replicate ops.size false).getD i false) = fun j => decide (j < 0) := funext fun i => by
          simp only [Array.getD_eq_getD_getElem?, Array.getElem?_replicate]
          split <;> simp
        rw [this, stf_lt 0 _ (by omega)]
        rfl
      rw [e]
      exact h.drew _
  intro fuel
  have last : ∀ (listed : Array Bool) a w, listed.size = ops.size → Region.ready .any ops listed = [] → AS C (stf σ (fun j => (tr j).writes) (fun i => listed.getD i false) ops.size) a w → Q .normal a w := by
    intro listed a w hs hn h
    have all : ∀ i, i < ops.size → listed.getD i false = true := by
      intro i
      induction i using Nat.strongRecOn with
      | _ i ih =>
        intro hi
        cases hl : listed.getD i false with
        | true => rfl
        | false =>
          exfalso
          have hmem : i ∈ Region.ready .any ops listed := by
            rw [mem_ready]
            refine ⟨?_, ops[i], Array.getElem?_eq_getElem hi, fun e he' hb => ?_⟩
            · have : i < listed.size := by omega
              simp only [Array.getD_eq_getD_getElem?, Array.getElem?_eq_getElem this, Option.getD_some] at hl ⊢
              exact hl
            · have := edges_spec he (Array.getElem?_eq_getElem hi) he' hb
              exact ih _ this (by omega)
          rw [hn] at hmem
          cases hmem
    refine hk a w ?_
    have e : stf σ (fun j => (tr j).writes) (fun i => listed.getD i false) ops.size = stf σ (fun j => (tr j).writes) (fun _ => true) ops.size := funext fun k => stf_congr _ fun j hj _ => all j hj
    rwa [e] at h
  have len0 : ∀ (listed : Array Bool), listed.size = ops.size → ((List.range ops.size).filter fun i => !listed.getD i true).length = 0 → Region.ready .any ops listed = [] := by
    intro listed hs hl
    have hl' := List.eq_nil_of_length_eq_zero hl
    cases hr : Region.ready .any ops listed with
    | nil => rfl
    | cons i t =>
      have hmem : i ∈ Region.ready .any ops listed := by rw [hr]; simp
      obtain ⟨h0, o, ho', _⟩ := mem_ready.1 hmem
      have hi : i < ops.size := (Array.getElem?_eq_some_iff.1 ho').1
      have : i ∈ (List.range ops.size).filter fun i => !listed.getD i true := by
        rw [List.mem_filter]
        exact ⟨by simpa using hi, by rw [h0]; rfl⟩
      rw [hl'] at this
      cases this
  induction fuel with
  | zero =>
    intro listed a w hs hl hd h
    have hn := len0 listed hs (by omega)
    exact ⟨hn, last listed a w hs hn h⟩
  | succ fuel ih =>
    intro listed a w hs hl hd h
    refine ⟨fun hn => last listed a w hs hn h, fun i hmem => ?_⟩
    obtain ⟨h0, o, ho', hedge⟩ := mem_ready.1 hmem
    have hi : i < ops.size := (Array.getElem?_eq_some_iff.1 ho').1
    have hil : i < listed.size := by omega
    have h0' : listed.getD i false = false := by
      simp only [Array.getD_eq_getD_getElem?, Array.getElem?_eq_getElem hil, Option.getD_some] at h0 ⊢
      exact h0
    have hLi : Down ops (fun j => listed.getD j false = true ∨ j = i) := by
      intro j o'' hj hoj e he' hb
      rcases hj with hj | rfl
      · exact .inl (hd j o'' hj hoj e he' hb)
      · rw [ho'] at hoj
        cases hoj
        exact .inl (hedge e he' hb)
    -- what stands ahead of it by the text, and meets it, is done; what stands behind and meets it, is not
    have pre : ∀ j, j < i → ((Region.before ops).getD i 0).testBit j = true → listed.getD j false = true := by
      intro j hj hb
      rcases before_spec hLi hb (.inr rfl) with h | h
      · exact h
      · omega
    have post : ∀ j, i < j → ((Region.before ops).getD j 0).testBit i = true → listed.getD j false = false := by
      intro j hj hb
      cases hl : listed.getD j false with
      | false => rfl
      | true => have := before_spec hd hb hl; rw [h0'] at this; cases this
    have readsOk : ∀ kv ∈ (tr i).reads, stf σ (fun j => (tr j).writes) (fun i => listed.getD i false) ops.size kv.1 = kv.2 := by
      intro kv hkv
      rw [← hr i hi kv hkv, ← stf_lt i ops.size (by omega)]
      refine stf_congr _ fun j hj hw => ?_
      have hwk := fnd_keys hw
      have hrk : kv.1 ∈ (tr i).reads.map (·.1) := List.mem_map_of_mem hkv
      by_cases hji : j < i
      · rcases ord_spec ho hji (hget i hi) (hget j hj) with hb | hc
        · rw [pre j hji hb]; simp [hji]
        · exact absurd hrk (((hc kv.1).1 hwk).1)
      · by_cases hij : i < j
        · rcases ord_spec ho hij (hget j hj) (hget i hi) with hb | hc
          · rw [post j hij hb]; simp [hji]
          · exact absurd hrk ((hc kv.1).2 hwk)
        · obtain rfl : j = i := by omega
          rw [h0']; simp
    refine hv i hi _ a w _ h readsOk fun a' w' h' => ih _ a' w' (by simpa using hs) ?_ ?_ ?_
    · have e : (List.range ops.size).filter (fun j => !(listed.setIfInBounds i true).getD j true) = ((List.range ops.size).filter fun j => !listed.getD j true).filter (fun j => decide (j ≠ i)) := by
        rw [List.filter_filter]
        refine List.filter_congr fun j hj => ?_
        by_cases e : j = i
        · subst e; simp [hil]
        · rw [getD_set_ne true (fun h => e h.symm)]; simp [e]
      rw [e]
      have : (((List.range ops.size).filter fun j => !listed.getD j true).filter (fun j => decide (j ≠ i))).length < ((List.range ops.size).filter fun j => !listed.getD j true).length := by
        refine List.length_filter_lt_length_iff_exists.2 ⟨i, ?_, by simp⟩
        rw [List.mem_filter]
        exact ⟨by simpa using hi, by rw [h0]; rfl⟩
      omega
    · intro j o'' hj hoj e he' hb
      by_cases e1 : e.on = i
      · rw [e1]; simp [hil]
      · rw [getD_set_ne false (fun h => e1 h.symm)]
        by_cases e2 : j = i
        · subst e2
          rw [ho'] at hoj
          cases hoj
          exact hedge e he' hb
        · rw [getD_set_ne false (fun h => e2 h.symm)] at hj
          exact hd j o'' hj hoj e he' hb
    · have e : stf σ (fun j => (tr j).writes) (fun j => (listed.setIfInBounds i true).getD j false) ops.size = ovr (stf σ (fun j => (tr j).writes) (fun j => listed.getD j false) ops.size) (tr i).writes := by
        funext k
        have hset : ∀ j, j ≠ i → (listed.setIfInBounds i true).getD j false = listed.getD j false := fun j hj => getD_set_ne false (fun h => hj h.symm)
        have hsi : (listed.setIfInBounds i true).getD i false = true := by simp [hil]
        cases hf : fnd (tr i).writes k with
        | none =>
          rw [show ovr (stf σ (fun j => (tr j).writes) (fun j => listed.getD j false) ops.size) (tr i).writes k = stf σ (fun j => (tr j).writes) (fun j => listed.getD j false) ops.size k by simp [ovr, hf]]
          exact stf_congr _ fun j hj hw => hset j (fun e => by subst e; exact hw hf)
        | some v =>
          rw [show ovr (stf σ (fun j => (tr j).writes) (fun j => listed.getD j false) ops.size) (tr i).writes k = v by simp [ovr, hf]]
          refine stf_last hsi hf _ hi fun j hij hj hw => ?_
          rw [hset j (by omega)]
          rcases ord_spec ho hij (hget j hj) (hget i hi) with hb | hc
          · exact post j hij hb
          · exact absurd (fnd_keys hw) (((hc k).1 (fnd_keys (by rw [hf]; simp))).2)
      rw [e]
      exact h'
end

def Does (P : Program) (o : Oper) (a : Act) (w : World) (K : Act → World → Prop) : Prop := (∀ c, o.op ≠ .defer c) ∧
  ((∃ v w', (execOp a.eval o).run P w = .ok (.value v) w' ∧ K (a.put o.dst v) w') ∨ (∃ w', (execOp a.eval o).run P w = .ok .skip w' ∧ K (a.put o.dst undef) w') ∨
    ∃ f args w', (execOp a.eval o).run P w = .ok (.enter f args) w' ∧ Calls P f args w' fun e w'' => ∃ v, e = .returned v ∧ K (a.put o.dst v) w'')
theorem Does.wpIn {P : Program} {o : Oper} {a : Act} {w : World} {K : Act → World → Prop} {Q : Exit → Act → World → Prop} {r : Option Nat} (h : Does P o a w K) : o.wpIn (Fr r) 10 P a w K Q := by
  obtain ⟨hd, h⟩ := h
  refine ⟨fun f _ => trivial, ?_⟩
  rw [Oper.semAt_eq _ _ _ hd]
  rcases h with ⟨v, w', e, h⟩ | ⟨w', e, h⟩ | ⟨f, args, w', e, h⟩
  · rw [e]; exact h
  · rw [e]; exact h
  · rw [e]
    refine ⟨(fun hh => by cases hh), ?_⟩
    have h2 : CallsIn Fence.wide (10 - 1) P f args w' (fun e w'' => ∃ v, e = .returned v ∧ K (a.put o.dst v) w'') := callsIn_wide.2 h
    have h3 : CallsIn (Fr r) (10 - 1) P f args w' (fun e w'' => ∃ v, e = .returned v ∧ K (a.put o.dst v) w'') := by
      cases r with
      | none => exact h2
      | some l => exact CallsIn.inRound l h2
    refine h3.mono ?_
    rintro e w'' ⟨v, rfl, h⟩
    exact h
section
variable {L : St}
def Rd (L : St) (r : Row) : Prop := ∀ kv ∈ r, L kv.1 = kv.2
theorem Rd.nil : Rd L [] := fun kv h => by cases h
theorem Rd.cons {k : Key} {v : KV} {r : Row} (h : L k = v) (hr : Rd L r) : Rd L ((k, v) :: r) := fun kv hkv => by
  rcases List.mem_cons.1 hkv with rfl | hkv
  · exact h
  · exact hr kv hkv
theorem Rd.app {a b : Row} (ha : Rd L a) (hb : Rd L b) : Rd L (a ++ b) := fun kv hkv => by
  rcases List.mem_append.1 hkv with h | h
  · exact ha kv h
  · exact hb kv h
theorem Rd.left {a b : Row} (h : Rd L (a ++ b)) : Rd L a := fun kv hkv => h kv (List.mem_append_left _ hkv)
theorem Rd.right {a b : Row} (h : Rd L (a ++ b)) : Rd L b := fun kv hkv => h kv (List.mem_append_right _ hkv)
theorem Rd.tail {kv : Key × KV} {b : Row} (h : Rd L (kv :: b)) : Rd L b := fun kv hkv => h kv (List.mem_cons_of_mem _ hkv)
theorem Rd.head {k : Key} {v : KV} {b : Row} (h : Rd L ((k, v) :: b)) : L k = v := h (k, v) List.mem_cons_self
end
def OpOk (P : Program) (C : Cx) (o : Oper) (tr : Trc) : Prop :=
  ∀ σ a w K, AS C σ a w → Rd σ tr.reads → (∀ a' w', AS C (ovr σ tr.writes) a' w' → K a' w') → Does P o a w K
section
variable {P : Program} {C : Cx} {G : Gh} {σ : St} {a : Act} {w : World}
theorem OpOk.pure {o : Oper} {reads : Row} {x : AV} (hnd : ∀ c, o.op ≠ .defer c) (hd : ∀ d, o.dst = some d → d < C.N)
    (h : ∀ G σ a w, ASG C G σ a w → Rd σ reads → ∃ v, (execOp a.eval o).run P w = .ok (.value v) w ∧ Rep G σ w v x) : OpOk P C o ⟨reads, wr o.dst x⟩ := by
  intro σ a w K ⟨G, hA⟩ hr hK
  obtain ⟨v, h1, h2⟩ := h G σ a w hA hr
  exact ⟨hnd, .inl ⟨v, w, h1, hK _ _ ⟨G, hA.put hd h2⟩⟩⟩
end

inductive Sh where
  | word
  | int (k : IntKind)
  | str
  | bool
  | struct (fs : List (Nat × TypeId))
  | slice (e : TypeId)
  | arr (n : Nat) (e : TypeId)
  deriving DecidableEq
def shp : TypeDesc → Sh
  | .struct fs => .struct (fs.toList.map fun f => (f.offset, f.type))
  | .slice e => .slice e
  | .array n e => .arr n e
  | .int k => .int k
  | .string => .str
  | .bool => .bool
  | _ => .word
structure TI where
  size : Nat
  zero : Value
  bytes : Nat
  sh : Sh
  hint : List (Option Nat)
def dz : Option Nat → Value → D
  | some sz, .slice none 0 0 => .n sz
  | _, v => .v v
def zds : List Value → List (Option Nat) → List D
  | [], _ => []
  | v :: vs, [] => .v v :: zds vs []
  | v :: vs, h :: hs => dz h v :: zds vs hs
theorem dz_rep (h : Option Nat) (v : Value) (Z : Zone) (w : World) : RepD Z w v (dz h v) := by
  unfold dz
  split
  · exact .n _
  · exact .v v
theorem zds_len : ∀ (vs : List Value) (hs : List (Option Nat)), (zds vs hs).length = vs.length
  | [], _ => rfl
  | v :: vs, [] => by simp [zds, zds_len vs]
  | v :: vs, h :: hs => by simp [zds, zds_len vs]
theorem zds_get : ∀ (vs : List Value) (hs : List (Option Nat)) (i : Nat) (d : D), (zds vs hs)[i]? = some d → ∃ v, vs[i]? = some v ∧ ∀ Z w, RepD Z w v d
  | [], _, i, d, h => by simp [zds] at h
  | v :: vs, [], i, d, h => by
    cases i with
    | zero => simp [zds] at h; subst h; exact ⟨v, rfl, fun _ _ => .v v⟩
    | succ i => exact zds_get vs [] i d (by simpa [zds] using h)
  | v :: vs, h0 :: hs, i, d, h => by
    cases i with
    | zero => simp [zds] at h; subst h; exact ⟨v, rfl, fun Z w => dz_rep h0 v Z w⟩
    | succ i => exact zds_get vs hs i d (by simpa [zds] using h)
def Sh.agg : Sh → Bool
  | .struct _ | .arr .. => true
  | _ => false
structure TOk (P : Program) (t : TypeId) (i : TI) : Prop where
  info : (P.info? t).map (fun x => (x.zero, x.size, x.bytes)) = some (some i.zero, i.size, i.bytes)
  sh : (P.underlying t).map shp = some i.sh
structure Tab (P : Program) where
  f : TypeId → Option TI
  ok : ∀ t i, f t = some i → TOk P t i
section
variable {P : Program} {t : TypeId} {i : TI}
theorem TOk.get (h : TOk P t i) : ∃ x, P.info? t = some x ∧ x.zero = some i.zero ∧ x.size = i.size ∧ x.bytes = i.bytes := by
  have := h.info
  cases hx : P.info? t with
  | none => rw [hx] at this; cases this
  | some x => rw [hx] at this; simp at this; exact ⟨x, rfl, this⟩
theorem TOk.und (h : TOk P t i) : ∃ d, P.underlying t = some d ∧ shp d = i.sh := by
  have := h.sh
  cases hx : P.underlying t with
  | none => rw [hx] at this; cases this
  | some x => rw [hx] at this; simp at this; exact ⟨x, rfl, this⟩
theorem TOk.slice (h : TOk P t i) {e : TypeId} (hs : i.sh = .slice e) : P.underlying t = some (.slice e) := by
  obtain ⟨d, h1, h2⟩ := h.und
  rw [h1, hs] at *
  cases d <;> simp [shp] at h2
  subst h2; rfl
theorem TOk.struct (h : TOk P t i) {fs : List (Nat × TypeId)} (hs : i.sh = .struct fs) : ∃ a : Array Field, P.underlying t = some (.struct a) ∧ a.toList.map (fun f => (f.offset, f.type)) = fs := by
  obtain ⟨d, h1, h2⟩ := h.und
  rw [h1, hs] at *
  cases d <;> simp [shp] at h2
  exact ⟨_, rfl, by simpa using h2⟩
theorem TOk.run_size (h : TOk P t i) (w : World) : (sizeOf t).run P w = .ok i.size w := by
  obtain ⟨x, h1, h2, h3, h4⟩ := h.get
  simp [sizeOf, typeInfo, h1, h3]
theorem TOk.run_zero (h : TOk P t i) (w : World) : (zeroValue t).run P w = .ok i.zero w := by
  obtain ⟨x, h1, h2, h3, h4⟩ := h.get
  simp [zeroValue, typeInfo, h1, h2]
theorem TOk.run_agg (h : TOk P t i) (w : World) : (isAgg t).run P w = .ok i.sh.agg w := by
  obtain ⟨d, h1, h2⟩ := h.und
  simp only [isAgg, Sem.run_bind, run_underlying h1, Result.andThen_ok]
  rw [← h2]
  cases d <;> simp [shp, Sh.agg]
end


section
variable {P : Program} {C : Cx} {G : Gh} {σ : St} {a : Act} {w : World} {o : Oper} {L : St} {T : Tab P}
def cst : Value → AV
  | .agg vs => .agg (vs.toList.map fun v => ([], .v v))
  | v => .c [] (.v v)
def opd (L : St) : Operand → Option (Row × AV)
  | .tmp t => match L (.tmp t) with
    | .av x => some ([(.tmp t, .av x)], x)
    | _ => none
  | .const v => some ([], cst v)
  | .func f => some ([], .c [] (.v (.func (.func f) #[] #[])))
  | .global _ => none
theorem cst_rep (v : Value) : Rep G σ w v (cst v) := by
  cases v
  case agg vs =>
    refine ⟨fun c hc z hz => ?_, vs, rfl, by simp, fun i zs x hi _ => ?_⟩
    · simp at hc
      obtain ⟨v, _, rfl⟩ := hc
      cases hz
    · simp only [List.getElem?_map, Option.map_eq_some_iff] at hi
      obtain ⟨v, h1, h2⟩ := hi
      cases h2
      have : vs.getD i undef = v := by
        rw [Array.getElem?_toList] at h1
        simp [Array.getD_eq_getD_getElem?, h1]
      rw [this]
      exact .v v
  all_goals exact ⟨fun z hz => absurd hz (by simp), fun _ => .v _⟩
theorem opd_ok {o : Operand} {r : Row} {x : AV} (h : opd L o = some (r, x)) (hA : ASG C G σ a w) (hr : Rd σ r) : Rep G σ w (a.eval o) x := by
  cases o with
  | tmp t =>
    simp only [opd] at h
    split at h
    · simp only [Option.some.injEq, Prod.mk.injEq] at h
      obtain ⟨rfl, rfl⟩ := h
      rename_i y hy
      obtain ⟨v, h1, h2⟩ := hA.tmp t y hr.head
      have : a.eval (.tmp t) = v := by simp [Act.eval, Array.getD_eq_getD_getElem?, h1]
      rw [this]
      exact h2
    · cases h
  | const v =>
    simp only [opd, Option.some.injEq, Prod.mk.injEq] at h
    obtain ⟨rfl, rfl⟩ := h
    exact cst_rep v
  | func f =>
    simp only [opd, Option.some.injEq, Prod.mk.injEq] at h
    obtain ⟨rfl, rfl⟩ := h
    exact ⟨fun z hz => absurd hz (by simp), fun _ => .v _⟩
  | global g => cases h
theorem opd_rd {x : Operand} {r : Row} {v : AV} (h : opd L x = some (r, v)) : Rd L r := by
  cases x with
  | tmp t =>
    simp only [opd] at h
    split at h
    · rename_i y hy
      simp only [Option.some.injEq, Prod.mk.injEq] at h
      rw [← h.1]
      exact Rd.cons hy Rd.nil
    · cases h
  | const v => simp only [opd, Option.some.injEq, Prod.mk.injEq] at h; rw [← h.1]; exact Rd.nil
  | func f => simp only [opd, Option.some.injEq, Prod.mk.injEq] at h; rw [← h.1]; exact Rd.nil
  | global g => cases h
def isLv : KV → Bool
  | .zn .live => true
  | _ => false
theorem isLv_eq {k : KV} (h : isLv k = true) : k = .zn .live := by
  unfold isLv at h
  split at h
  · rfl
  · cases h
def zr (L : St) : List Nat → Option Row
  | [] => some []
  | z :: zs => if isLv (L (.zn z)) then (zr L zs).map ((.zn z, .zn .live) :: ·) else none
theorem zr_ok : ∀ {zs : List Nat} {r : Row}, zr L zs = some r → Rd σ r → ∀ z ∈ zs, Lv σ z
  | [], r, h, hr, z, hz => by cases hz
  | y :: zs, r, h, hr, z, hz => by
    unfold zr at h
    split at h
    · cases hzs : zr L zs with
      | none => rw [hzs] at h; cases h
      | some r' =>
        rw [hzs] at h
        simp only [Option.map_some, Option.some.injEq] at h
        subst h
        rcases List.mem_cons.1 hz with rfl | hz
        · exact hr.head
        · exact zr_ok hzs hr.tail z hz
    · cases h
theorem zr_rd : ∀ {zs : List Nat} {r : Row}, zr L zs = some r → Rd L r
  | [], r, h => by simp only [zr, Option.some.injEq] at h; rw [← h]; exact Rd.nil
  | z :: zs, r, h => by
    unfold zr at h
    split at h
    · rename_i hl
      rw [Option.map_eq_some_iff] at h
      obtain ⟨r', h1, rfl⟩ := h
      exact Rd.cons (isLv_eq hl) (zr_rd h1)
    · cases h
def nz (zs : List Nat) : D → List Nat
  | .v _ => []
  | .n _ => []
  | _ => zs
theorem nz_sub (zs : List Nat) (x : D) {z : Nat} (h : z ∈ nz zs x) : z ∈ zs := by cases x <;> simp_all [nz]
theorem nz_rep {zs : List Nat} {x : D} {v : Value} (h : RepD (G.zu zs) w v x) : RepD (G.zu (nz zs x)) w v x := by
  cases x with
  | v y => have := h.raw; subst this; exact .v _
  | n sz => cases h; exact .n _
  | _ => exact h
theorem rep_c {zs : List Nat} {x : D} {v : Value} (hu : ∀ z ∈ zs, Uz σ z) (h : RepD (G.zu zs) w v x) : Rep G σ w v (.c zs x) := ⟨hu, fun _ => h⟩
theorem rep_nz {zs : List Nat} {x : D} {v : Value} (hu : ∀ z ∈ zs, Uz σ z) (h : RepD (G.zu zs) w v x) : Rep G σ w v (.c (nz zs x) x) := ⟨fun z hz => hu z (nz_sub zs x hz), fun _ => nz_rep h⟩
theorem rep_raw (v : Value) : Rep G σ w v (.c [] (.v v)) := ⟨fun z hz => absurd hz (by simp), fun _ => .v v⟩
theorem lv_uz {zs : List Nat} (h : ∀ z ∈ zs, Lv σ z) : ∀ z ∈ zs, Uz σ z := fun z hz => (h z hz).used

def rawL (L : St) : List (List Nat × D) → Option (Row × List Value)
  | [] => some ([], [])
  | (zs, .v x) :: cs => match zr L zs, rawL L cs with
    | some r, some (r', vs) => some (r ++ r', x :: vs)
    | _, _ => none
  | _ => none
def raw (L : St) : AV → Option (Row × Value)
  | .c zs (.v x) => (zr L zs).map fun r => (r, x)
  | .agg cs => match rawL L cs with
    | some (r, vs) => some (r, .agg vs.toArray)
    | none => none
  | _ => none
theorem rawL_ok : ∀ {cs : List (List Nat × D)} {r : Row} {vs : List Value}, rawL L cs = some (r, vs) → Rd σ r →
    vs.length = cs.length ∧ ∀ (i : Nat) (zs : List Nat) (x : D), cs[i]? = some (zs, x) → (∀ z ∈ zs, Lv σ z) ∧ ∃ u, vs[i]? = some u ∧ x = .v u
  | [], r, vs, h, _ => by simp only [rawL, Option.some.injEq, Prod.mk.injEq] at h; obtain ⟨_, rfl⟩ := h; simp
  | (zs, .v x) :: cs, r, vs, h, hr => by
    unfold rawL at h
    split at h
    · rename_i r1 r2 vs' h1 h2
      simp only [Option.some.injEq, Prod.mk.injEq] at h
      obtain ⟨rfl, rfl⟩ := h
      obtain ⟨k1, k2⟩ := rawL_ok h2 hr.right
      have hz := zr_ok h1 hr.left
      refine ⟨by simp [k1], fun i zs' y hi => ?_⟩
      cases i with
      | zero => simp only [List.getElem?_cons_zero, Option.some.injEq, Prod.mk.injEq] at hi; obtain ⟨rfl, rfl⟩ := hi; exact ⟨hz, x, rfl, rfl⟩
      | succ i => simp only [List.getElem?_cons_succ] at hi; exact k2 i zs' y hi
    · cases h
  | (zs, .n ..) :: cs, r, vs, h, _ => by unfold rawL at h; cases h
  | (zs, .s ..) :: cs, r, vs, h, _ => by unfold rawL at h; cases h
  | (zs, .p ..) :: cs, r, vs, h, _ => by unfold rawL at h; cases h
  | (zs, .f ..) :: cs, r, vs, h, _ => by unfold rawL at h; cases h
  | (zs, .st ..) :: cs, r, vs, h, _ => by unfold rawL at h; cases h
theorem rawL_rd : ∀ {cs : List (List Nat × D)} {r : Row} {vs : List Value}, rawL L cs = some (r, vs) → Rd L r
  | [], r, vs, h => by simp only [rawL, Option.some.injEq, Prod.mk.injEq] at h; rw [← h.1]; exact Rd.nil
  | (zs, .v x) :: cs, r, vs, h => by
    unfold rawL at h
    split at h
    · rename_i h1 h2
      simp only [Option.some.injEq, Prod.mk.injEq] at h
      rw [← h.1]
      exact Rd.app (zr_rd h1) (rawL_rd h2)
    · cases h
  | (zs, .n ..) :: cs, r, vs, h => by unfold rawL at h; cases h
  | (zs, .s ..) :: cs, r, vs, h => by unfold rawL at h; cases h
  | (zs, .p ..) :: cs, r, vs, h => by unfold rawL at h; cases h
  | (zs, .f ..) :: cs, r, vs, h => by unfold rawL at h; cases h
  | (zs, .st ..) :: cs, r, vs, h => by unfold rawL at h; cases h
theorem raw_agg {cs : List (List Nat × D)} {r : Row} {vs : List Value} {v : Value} (h1 : rawL L cs = some (r, vs)) (hr : Rd σ r) (hx : AV.rep G σ w v (.agg cs)) : v = .agg vs.toArray := by
  obtain ⟨k1, k2⟩ := rawL_ok h1 hr
  obtain ⟨us, rfl, e, k⟩ := hx
  congr 1
  apply Array.ext'
  apply List.ext_getElem?
  intro i
  by_cases hi : i < cs.length
  · obtain ⟨⟨zs, x⟩, hx'⟩ : ∃ y, cs[i]? = some y := ⟨_, List.getElem?_eq_getElem hi⟩
    obtain ⟨j1, u, j2, rfl⟩ := k2 i zs x hx'
    have := (k i zs _ hx' j1).raw
    rw [Array.getElem?_toList, List.toList_toArray, j2, ← this]
    have : i < us.size := by omega
    simp [Array.getD_eq_getD_getElem?, this]
  · rw [Array.getElem?_toList, Array.getElem?_eq_none (by omega), List.toList_toArray, List.getElem?_eq_none (by omega)]
theorem raw_ok {x : AV} {r : Row} {v u : Value} (h : raw L x = some (r, u)) (hr : Rd σ r) (hx : Rep G σ w v x) : v = u := by
  cases x with
  | c zs x =>
    cases x with
    | v y =>
      simp only [raw, Option.map_eq_some_iff, Prod.mk.injEq] at h
      obtain ⟨r', h1, rfl, rfl⟩ := h
      exact (hx.rep (zr_ok h1 hr)).raw
    | _ => simp [raw] at h
  | agg cs =>
    simp only [raw] at h
    split at h
    · rename_i r' vs h1
      simp only [Option.some.injEq, Prod.mk.injEq] at h
      obtain ⟨rfl, rfl⟩ := h
      exact raw_agg h1 hr hx.rep
    · cases h
  | _ => simp [raw] at h
theorem raw_rd {x : AV} {r : Row} {u : Value} (h : raw L x = some (r, u)) : Rd L r := by
  cases x with
  | c zs x =>
    cases x with
    | v y =>
      simp only [raw, Option.map_eq_some_iff, Prod.mk.injEq] at h
      obtain ⟨r', h1, rfl, _⟩ := h
      exact zr_rd h1
    | _ => simp [raw] at h
  | agg cs =>
    simp only [raw] at h
    split at h
    · rename_i h1
      simp only [Option.some.injEq, Prod.mk.injEq] at h
      rw [← h.1]; exact rawL_rd h1
    · cases h
  | _ => simp [raw] at h
def opr (L : St) (x : Operand) : Option (Row × Value) := match opd L x with
  | some (r, v) => (raw L v).map fun y => (r ++ y.1, y.2)
  | none => none
theorem opr_ok {x : Operand} {r : Row} {u : Value} (h : opr L x = some (r, u)) (hA : ASG C G σ a w) (hr : Rd σ r) : a.eval x = u := by
  unfold opr at h
  split at h
  · rename_i r1 v h1
    simp only [Option.map_eq_some_iff, Prod.mk.injEq] at h
    obtain ⟨⟨r2, y⟩, h2, rfl, rfl⟩ := h
    exact raw_ok h2 hr.right (opd_ok h1 hA hr.left)
  · cases h
theorem opr_rd {x : Operand} {r : Row} {u : Value} (h : opr L x = some (r, u)) : Rd L r := by
  unfold opr at h
  split at h
  · rename_i r1 v h1
    simp only [Option.map_eq_some_iff, Prod.mk.injEq] at h
    obtain ⟨⟨r2, y⟩, h2, rfl, _⟩ := h
    exact Rd.app (opd_rd h1) (raw_rd h2)
  · cases h
theorem op_move {x : Operand} {r : Row} {v : AV} (ho : o.op = .move x ∨ o.op = .assign x) (hx : opd L x = some (r, v)) (hd : ∀ d, o.dst = some d → d < C.N) : OpOk P C o ⟨r, wr o.dst v⟩ := by
  refine OpOk.pure (fun c => by rcases ho with ho | ho <;> simp [ho]) hd fun G σ a w hA hr => ⟨a.eval x, ?_, opd_ok hx hA hr⟩
  rcases ho with ho | ho <;> simp [execOp, ho]
theorem op_pick {c x y : Operand} {r r' : Row} {t : Bool} {v : AV} (ho : o.op = .pick c x y) (hc : opr L c = some (r', .bool t)) (hx : opd L (if t then x else y) = some (r, v)) (hd : ∀ d, o.dst = some d → d < C.N) : OpOk P C o ⟨r' ++ r, wr o.dst v⟩ := by
  refine OpOk.pure (fun c => by simp [ho]) hd fun G σ a w hA hr => ⟨a.eval (if t then x else y), ?_, opd_ok hx hA hr.right⟩
  have e := opr_ok hc hA hr.left
  simp only [execOp, ho, e, asBool, Sem.run_bind, Sem.run_pure, Result.andThen_ok]
  cases t <;> simp
theorem op_known {r : Row} {u : Value} (hnd : ∀ c, o.op ≠ .defer c) (hd : ∀ d, o.dst = some d → d < C.N) (h : ∀ G σ a w, ASG C G σ a w → Rd σ r → (execOp a.eval o).run P w = .ok (.value u) w) : OpOk P C o ⟨r, wr o.dst (cst u)⟩ :=
  OpOk.pure hnd hd fun G σ a w hA hr => ⟨u, h G σ a w hA hr, cst_rep u⟩
def bin (op : BinOp) : Value → Value → Option (Value × Prop)
  | .int k x, .int k' y => if k = k' then match op with
    | .add => some (.int k (k.wrap (x + y)), True)
    | .sub => some (.int k (k.wrap (x - y)), True)
    | .mul => some (.int k (k.wrap (x * y)), True)
    | .quo => some (.int k (k.wrap (x.tdiv y)), y ≠ 0)
    | .rem => some (.int k (x.tmod y), y ≠ 0)
    | .eql => some (.bool (x == y), True)
    | .neq => some (.bool (x != y), True)
    | .lss => some (.bool (decide (x < y)), True)
    | .leq => some (.bool (decide (x ≤ y)), True)
    | .gtr => some (.bool (decide (x > y)), True)
    | .geq => some (.bool (decide (x ≥ y)), True)
    | _ => none
    else none
  | .string x, .string y => match op with
    | .add => some (.string (x ++ y), ((x.size + y.size : Nat) : Int) ≤ IntKind.i64.max)
    | .eql => some (.bool (x.toList == y.toList), True)
    | .neq => some (.bool (!(x.toList == y.toList)), True)
    | .lss => some (.bool (Op.bytesLess x.toList y.toList), True)
    | .leq => some (.bool (Op.bytesLess x.toList y.toList || x.toList == y.toList), True)
    | .gtr => some (.bool (!(Op.bytesLess x.toList y.toList || x.toList == y.toList)), True)
    | .geq => some (.bool (!Op.bytesLess x.toList y.toList), True)
    | _ => none
  | _, _ => none
theorem bin_int {op : BinOp} {t : TypeId} {x y : Operand} {k k' : IntKind} {n m : Int} {z : Value} {p : Prop} (h : bin op (.int k n) (.int k' m) = some (z, p)) (hp : p) (w : World) : (do eqGuard op t x y (.int k n) (.int k' m); binOp op t (.int k n) (.int k' m) : Sem Value).run P w = .ok z w := by
  simp only [bin] at h
  split at h
  · rename_i e
    subst e
    cases op <;> first
      | (cases h; done)
      | (simp only [Option.some.injEq, Prod.mk.injEq] at h; obtain ⟨rfl, rfl⟩ := h; simp [eqGuard, binOp, Op.intArith, Op.intCmp]; done)
      | (simp only [Option.some.injEq, Prod.mk.injEq] at h; obtain ⟨rfl, rfl⟩ := h; simp [eqGuard, binOp, Op.intDiv, hp]; done)
  · cases h
theorem bin_str {op : BinOp} {t : TypeId} {x y : Operand} {n m : ByteArray} {z : Value} {p : Prop} (h : bin op (.string n) (.string m) = some (z, p)) (hp : p) (w : World) : (do eqGuard op t x y (.string n) (.string m); binOp op t (.string n) (.string m) : Sem Value).run P w = .ok z w := by
  simp only [bin] at h
  cases op <;> first
    | (cases h; done)
    | (simp only [Option.some.injEq, Prod.mk.injEq] at h; obtain ⟨rfl, rfl⟩ := h; simp [eqGuard, binOp, Op.stringOp]; done)
    | (simp only [Option.some.injEq, Prod.mk.injEq] at h; obtain ⟨rfl, rfl⟩ := h; have hp' := Int.not_lt.2 hp; simp only [eqGuard, binOp, Op.stringOp, GT.gt, if_neg hp']; simp; done)
theorem bin_run {op : BinOp} {t : TypeId} {x y : Operand} {u v z : Value} {p : Prop} (h : bin op u v = some (z, p)) (hp : p) (w : World) : (do eqGuard op t x y u v; binOp op t u v : Sem Value).run P w = .ok z w := by
  cases u <;> cases v <;> first
    | (cases h; done)
    | exact bin_int h hp w
    | exact bin_str h hp w
theorem op_bin {op : BinOp} {t t' : TypeId} {x y : Operand} {r r' : Row} {u v z : Value} (ho : o.op = .binOp op t x y t') (hx : opr L x = some (r, u)) (hy : opr L y = some (r', v)) (hd : ∀ d, o.dst = some d → d < C.N)
    (h : ∀ w, (do eqGuard op t x y u v; binOp op t u v : Sem Value).run P w = .ok z w) : OpOk P C o ⟨r ++ r', wr o.dst (cst z)⟩ := by
  refine op_known (fun c => by simp [ho]) hd fun G σ a w hA hr => ?_
  have e1 := opr_ok hx hA hr.left
  have e2 := opr_ok hy hA hr.right
  have := h w
  simp only [execOp, ho, e1, e2]
  rw [Sem.run_bind, this]
  rfl
theorem op_not {t : TypeId} {x : Operand} {r : Row} {b : Bool} (ho : o.op = .unOp .not t x) (hx : opr L x = some (r, .bool b)) (hd : ∀ d, o.dst = some d → d < C.N) : OpOk P C o ⟨r, wr o.dst (.c [] (.v (.bool (!b))))⟩ := by
  refine op_known (u := .bool (!b)) (fun c => by simp [ho]) hd fun G σ a w hA hr => ?_
  have e := opr_ok hx hA hr
  simp [execOp, ho, e, Op.unary]
theorem op_neg {t : TypeId} {x : Operand} {r : Row} {k : IntKind} {n : Int} (ho : o.op = .unOp .neg t x) (hx : opr L x = some (r, .int k n)) (hd : ∀ d, o.dst = some d → d < C.N) : OpOk P C o ⟨r, wr o.dst (.c [] (.v (.int k (k.wrap (0 - n)))))⟩ := by
  refine op_known (u := .int k (k.wrap (0 - n))) (fun c => by simp [ho]) hd fun G σ a w hA hr => ?_
  have e := opr_ok hx hA hr
  simp [execOp, ho, e, Op.unary, Op.intArith]
theorem op_conv {T : Tab P} {s d : TypeId} {x : Operand} {r : Row} {k k' : IntKind} {n : Int} {si di : TI} (ho : o.op = .convert s d x) (hx : opr L x = some (r, .int k n)) (hs : T.f s = some si) (hdt : T.f d = some di) (hk : di.sh = .int k') (hd : ∀ d, o.dst = some d → d < C.N) :
    OpOk P C o ⟨r, wr o.dst (.c [] (.v (.int k' (k'.wrap n))))⟩ := by
  refine op_known (u := .int k' (k'.wrap n)) (fun c => by simp [ho]) hd fun G σ a w hA hr => ?_
  have e := opr_ok hx hA hr
  obtain ⟨d1, h1, _⟩ := (T.ok s si hs).und
  obtain ⟨d2, h2, h3⟩ := (T.ok d di hdt).und
  rw [hk] at h3
  cases d2 <;> simp [shp] at h3
  subst h3
  simp [execOp, ho, e, convert, run_underlying h1, run_underlying h2, Conv.intToInt]
end

theorem add_none (b o n : Nat) : (⟨b, o, none⟩ : Addr).add n = ⟨b, o + n, none⟩ := by
  unfold Addr.add
  split
  · rename_i h; subst h; rfl
  · rfl
theorem RepD.sub {Z : Zone} {w : World} {p : Option Addr} {n cap sz : Nat} {rows : List (List D)} (h : RepD Z w (.slice p n cap) (.s sz rows)) (l m : Nat) (hl : l ≤ m) (hm : m ≤ rows.length) (c : Nat) (hc : m ≤ c) (hcc : c ≤ cap) :
    RepD Z w (.slice (if c = l then p else p.map (·.add (l * sz))) (m - l) (c - l)) (.s sz ((rows.take m).drop l)) := by
  obtain ⟨p', cap', e, h1, h2, h3⟩ := h.form
  simp only [Value.slice.injEq] at e
  obtain ⟨rfl, rfl, rfl⟩ := e
  by_cases hml : m = l
  · subst hml
    have e1 : (rows.take m).drop m = [] := List.drop_of_length_le (List.length_take_le _ _)
    rw [e1, Nat.sub_self]
    cases p with
    | none =>
      have : cap = 0 := h3 rfl
      have hc0 : c = 0 := by omega
      have hm0 : m = 0 := by omega
      subst hc0; subst hm0
      simp only [if_pos, Nat.sub_self]
      exact .nil sz
    | some a =>
      split
      · exact .emp _ _ _ (by omega)
      · exact .emp _ _ _ (by omega)
  · obtain ⟨g, o, cap', vals, e, k1, k2, k3, k4⟩ := h.at (by omega)
    simp only [Value.slice.injEq] at e
    obtain ⟨rfl, -, rfl⟩ := e
    rw [if_neg (by omega)]
    simp only [Option.map_some, add_none]
    refine .row g (o + l * sz) (m - l) (c - l) sz _ (fun i j => vals (l + i) j) (by simp; omega) (by omega) (by omega) (fun i r hi => ?_) (fun i r j x hi hj => ?_) (fun i r j x hi hj => ?_)
    all_goals
      rw [List.getElem?_drop, List.getElem?_take] at hi
      split at hi
      case isFalse => cases hi
    · exact k3 _ _ hi
    · obtain ⟨a, b, _⟩ := k4 _ _ _ _ hi hj
      rw [show o + l * sz + i * sz + j = o + (l + i) * sz + j by rw [Nat.add_mul]; omega]
      exact ⟨a, b⟩
    · exact (k4 _ _ _ _ hi hj).2.2

theorem RowAt.data {Z Z' : Zone} {w : World} {v : Value} {E sz : Nat} {rows : List (List D)} {lean : Prop} (h : RowAt Z w v E sz rows lean) (hl : lean) (hZ : ∀ g, Z g → Z' g) (ho : ∀ g, v.ownBlock = some g → Z' g) : RepD Z' w v (.s sz rows) := by
  obtain ⟨vals, k1, -, k3, k4⟩ := h
  rcases k1.2 with ⟨rfl, h0⟩ | ⟨g, cap, cur, rfl, -, hg, a1, a2, a3, a4⟩
  · obtain rfl := List.eq_nil_of_length_eq_zero h0
    exact .nil sz
  · refine .row g 0 rows.length cap sz rows (fun i j => vals.getD (i * sz + j) undef) rfl a1 a2 k3 (fun i r j x hi hj => ⟨ho g rfl, ?_⟩) (fun i r j x hi hj => (k4 hl i r j x hi hj).mono hZ)
    have hi' : i < rows.length := (List.getElem?_eq_some_iff.1 hi).1
    have hj' : j < sz := by rw [← k3 i r hi]; exact (List.getElem?_eq_some_iff.1 hj).1
    have hle : (i + 1) * sz ≤ rows.length * sz := Nat.mul_le_mul_right _ hi'
    rw [Nat.add_mul, Nat.one_mul] at hle
    have hk : i * sz + j < rows.length * sz := by omega
    have hcap : rows.length * sz ≤ cap * sz := Nat.mul_le_mul_right _ a1
    rw [Nat.zero_add]
    have e1 : vals[i * sz + j]? = cur[i * sz + j]? := by
      rw [← a4, List.getElem?_take, if_pos hk, Array.getElem?_toList]
    have hlt : i * sz + j < cur.size := by omega
    rw [Array.getElem?_eq_getElem hlt] at e1
    unfold World.cell?
    simp only [hg]
    simp [hlt, List.getD, e1]
theorem HdOk.data {G : Gh} {σ : St} {w : World} {h E sz y : Nat} {zs : List Nat} {rows : List (List D)} (k : HdOk G σ w h E sz y zs rows) (hl : ∀ z ∈ y :: zs, Lv σ z) : RepD (G.zu (y :: zs)) w (G.τ h) (.s sz rows) := by
  obtain ⟨k1, k2⟩ := k.own (hl y (by simp))
  exact k2.data (fun z hz => hl z (by simp [hz])) (fun g ⟨z, hz, hg⟩ => ⟨z, by simp [hz], hg⟩) fun g hg => ⟨y, by simp, (k1 g).2 hg⟩
def hdd (L : St) : AV → Option (Row × List Nat × D)
  | .c zs x => some ([], zs, x)
  | .seg zs ds => some ([], zs, .p ds)
  | .own h => match L (.hd h) with
    | .hd (.own E sz y zs rows) => some ([(.hd h, .hd (.own E sz y zs rows))], y :: zs, .s sz rows)
    | _ => none
  | _ => none

section
variable {P : Program} {C : Cx} {G : Gh} {σ : St} {a : Act} {w : World} {o : Oper} {L : St} {T : Tab P}
theorem hdd_ok {x : AV} {r : Row} {zs : List Nat} {d : D} {v : Value} (h : hdd L x = some (r, zs, d)) (hA : ASG C G σ a w) (hr : Rd σ r) (hx : Rep G σ w v x) : (∀ z ∈ zs, Uz σ z) ∧ ((∀ z ∈ zs, Lv σ z) → RepD (G.zu zs) w v d) := by
  cases x with
  | c zs' x =>
    simp only [hdd, Option.some.injEq, Prod.mk.injEq] at h
    obtain ⟨_, rfl, rfl⟩ := h
    exact ⟨hx.ok, hx.rep⟩
  | seg zs' ds =>
    simp only [hdd, Option.some.injEq, Prod.mk.injEq] at h
    obtain ⟨_, rfl, rfl⟩ := h
    refine ⟨hx.ok, fun hl => ?_⟩
    obtain ⟨g, o, rfl, k⟩ := hx.rep hl
    have k' : ∀ j : Nat, ∃ u : Value, ∀ x, ds[j]? = some x → G.zu zs' g ∧ w.cell? ⟨g, o + j, none⟩ = some u ∧ RepD (G.zu zs') w u x := fun j => by
      cases hj : ds[j]? with
      | none => exact ⟨undef, fun x hx => by cases hx⟩
      | some x =>
        obtain ⟨q1, u, q2, q3⟩ := k j x hj
        exact ⟨u, fun y hy => by cases hy; exact ⟨q1, q2, q3⟩⟩
    exact .p g o ds (fun j => (k' j).choose) (fun j x hj => ⟨((k' j).choose_spec x hj).1, ((k' j).choose_spec x hj).2.1⟩) (fun j x hj => ((k' j).choose_spec x hj).2.2)
  | own n =>
    simp only [hdd] at h
    split at h
    · rename_i E sz y zs' rows hh
      simp only [Option.some.injEq, Prod.mk.injEq] at h
      obtain ⟨rfl, rfl, rfl⟩ := h
      have hs := hr.head
      have k := hA.hd n _ _ _ _ _ hs
      refine ⟨fun z hz => ?_, fun hl => ?_⟩
      · rcases List.mem_cons.1 hz with rfl | hz
        · exact k.uy
        · exact k.uz z hz
      · rw [show v = G.τ n from hx.rep ⟨_, _, _, _, _, hs⟩]
        exact k.data hl
    · cases h
  | _ => simp [hdd] at h
theorem hdd_rd {x : AV} {r : Row} {y : List Nat × D} (h : hdd L x = some (r, y)) : Rd L r := by
  cases x with
  | own n =>
    simp only [hdd] at h
    split at h
    · rename_i hh
      simp only [Option.some.injEq, Prod.mk.injEq] at h
      obtain ⟨rfl, _⟩ := h
      exact Rd.cons hh Rd.nil
    · cases h
  | c zs x => simp only [hdd, Option.some.injEq, Prod.mk.injEq] at h; rw [← h.1]; exact Rd.nil
  | seg zs x => simp only [hdd, Option.some.injEq, Prod.mk.injEq] at h; rw [← h.1]; exact Rd.nil
  | _ => simp [hdd] at h
theorem run_load_agg {t : TypeId} {ti : TI} (ht : T.f t = some ti) (hg : ti.sh.agg = true) (b off : Nat) (f : Nat → Value) (h : ∀ j, j < ti.size → w.cell? ⟨b, off + j, none⟩ = some (f j)) :
    (Instr.loadAt t (.pointer (some ⟨b, off, none⟩))).run P w = .ok (.agg ((List.range ti.size).map f).toArray) w := by
  have h1 := (T.ok t ti ht).run_agg w
  have h2 := (T.ok t ti ht).run_size w
  have h3 := run_loadCells (P := P) w ⟨b, off, none⟩ ti.size f (fun j hj => by rw [add_none]; exact h j hj)
  simp [Instr.loadAt, Instr.sureAddr, loadVar, h1, hg, h2, h3]
theorem run_load_word {t : TypeId} {ti : TI} (ht : T.f t = some ti) (hg : ti.sh.agg = false) (b off : Nat) (v : Value) (h : w.cell? ⟨b, off, none⟩ = some v) :
    (Instr.loadAt t (.pointer (some ⟨b, off, none⟩))).run P w = .ok v w := by
  have h1 := (T.ok t ti ht).run_agg w
  simp [Instr.loadAt, Instr.sureAddr, loadVar, h1, hg, h]
def cells (L : St) (n : Nat) : Nat → Nat → Option (Row × List (List Nat × D))
  | _, 0 => some ([], [])
  | off, c + 1 => match L (.cell n off) with
    | .av x => match hdd L x, cells L n (off + 1) c with
      | some y, some (r, ys) => some ((.cell n off, .av x) :: (y.1 ++ r), y.2 :: ys)
      | _, _ => none
    | _ => none
theorem cells_ok {n : Nat} : ∀ {c off : Nat} {r : Row} {ys : List (List Nat × D)}, cells L n off c = some (r, ys) → ASG C G σ a w → Rd σ r →
    ys.length = c ∧ ∀ (i : Nat) (zs : List Nat) (x : D), ys[i]? = some (zs, x) → (∀ z ∈ zs, Uz σ z) ∧ ∃ v, w.cell? ⟨G.ρ n, off + i, none⟩ = some v ∧ ((∀ z ∈ zs, Lv σ z) → RepD (G.zu zs) w v x)
  | 0, off, r, ys, h, _, _ => by simp only [cells, Option.some.injEq, Prod.mk.injEq] at h; obtain ⟨_, rfl⟩ := h; simp
  | c + 1, off, r, ys, h, hA, hr => by
    unfold cells at h
    split at h
    · rename_i x hx
      split at h
      · rename_i y r' ys' h1 h2
        simp only [Option.some.injEq, Prod.mk.injEq] at h
        obtain ⟨rfl, rfl⟩ := h
        obtain ⟨k1, k2⟩ := cells_ok h2 hA hr.tail.right
        obtain ⟨_, v, c1, _, c3⟩ := hA.cell n off x hr.head
        refine ⟨by simp [k1], fun i zs d hi => ?_⟩
        cases i with
        | zero =>
          simp only [List.getElem?_cons_zero, Option.some.injEq] at hi
          obtain ⟨y1, y2, y3⟩ := y
          simp only [Prod.mk.injEq] at hi
          obtain ⟨rfl, rfl⟩ := hi
          obtain ⟨j1, j2⟩ := hdd_ok h1 hA hr.tail.left c3
          exact ⟨j1, v, c1, j2⟩
        | succ i =>
          simp only [List.getElem?_cons_succ] at hi
          have := k2 i zs d hi
          rwa [show off + 1 + i = off + (i + 1) by omega] at this
      · cases h
    · cases h
theorem cells_rd {n : Nat} : ∀ {c off : Nat} {r : Row} {ys : List (List Nat × D)}, cells L n off c = some (r, ys) → Rd L r
  | 0, off, r, ys, h => by simp only [cells, Option.some.injEq, Prod.mk.injEq] at h; rw [← h.1]; exact Rd.nil
  | c + 1, off, r, ys, h => by
    unfold cells at h
    split at h
    · rename_i x hx
      split at h
      · rename_i h1 h2
        simp only [Option.some.injEq, Prod.mk.injEq] at h
        rw [← h.1]
        exact Rd.cons hx (Rd.app (hdd_rd h1) (cells_rd h2))
      · cases h
    · cases h
theorem rep_agg {vs : Array Value} {cs : List (List Nat × D)} (hu : ∀ (i : Nat) (zs : List Nat) (x : D), cs[i]? = some (zs, x) → (∀ z ∈ zs, Uz σ z) ∧ ((∀ z ∈ zs, Lv σ z) → RepD (G.zu zs) w (vs.getD i undef) x)) (hs : vs.size = cs.length) : Rep G σ w (.agg vs) (.agg cs) := by
  refine ⟨fun c hc z hz => ?_, vs, rfl, hs, fun i zs x hi hl => (hu i zs x hi).2 hl⟩
  obtain ⟨i, hi⟩ := List.getElem?_of_mem hc
  exact (hu i c.1 c.2 hi).1 z hz
theorem op_load_box {t : TypeId} {ti : TI} {x : Operand} {r r' : Row} {n off : Nat} {ys : List (List Nat × D)} (ho : o.op = .load t x) (ht : T.f t = some ti) (hg : ti.sh.agg = true) (hx : opd L x = some (r, .ptr n off)) (hc : cells L n off ti.size = some (r', ys)) (hd : ∀ d, o.dst = some d → d < C.N) :
    OpOk P C o ⟨r ++ r', wr o.dst (.agg ys)⟩ := by
  refine OpOk.pure (fun c => by simp [ho]) hd fun G σ a w hA hr => ?_
  have e := (opd_ok hx hA hr.left).rep
  obtain ⟨k1, k2⟩ := cells_ok hc hA hr.right
  have hf : ∀ j, j < ti.size → ∃ v, w.cell? ⟨G.ρ n, off + j, none⟩ = some v ∧ ∀ zs x, ys[j]? = some (zs, x) → (∀ z ∈ zs, Uz σ z) ∧ ((∀ z ∈ zs, Lv σ z) → RepD (G.zu zs) w v x) := by
    intro j hj
    obtain ⟨⟨zs, x⟩, hy⟩ : ∃ y, ys[j]? = some y := ⟨_, List.getElem?_eq_getElem (by omega)⟩
    obtain ⟨j1, v, j2, j3⟩ := k2 j zs x hy
    refine ⟨v, j2, fun zs' x' h' => ?_⟩
    rw [hy] at h'
    cases h'
    exact ⟨j1, j3⟩
  let f : Nat → Value := fun j => if h : j < ti.size then (hf j h).choose else undef
  have hf1 : ∀ j (h : j < ti.size), f j = (hf j h).choose := fun j h => dif_pos h
  refine ⟨.agg ((List.range ti.size).map f).toArray, ?_, ?_⟩
  · have := run_load_agg (w := w) ht hg (G.ρ n) off f (fun j hj => by rw [hf1 j hj]; exact (hf j hj).choose_spec.1)
    simp only [execOp, ho]
    rw [show a.eval x = .pointer (some ⟨G.ρ n, off, none⟩) from e]
    simp [this]
  · refine rep_agg (fun i zs d hi => ?_) (by simp [k1])
    have hi' : i < ti.size := by rw [← k1]; exact (List.getElem?_eq_some_iff.1 hi).1
    have e2 : ((List.range ti.size).map f).toArray.getD i undef = f i := by simp [Array.getD_eq_getD_getElem?, hi']
    rw [e2, hf1 i hi']
    exact (hf i hi').choose_spec.2 zs d hi
theorem op_load_cell {t : TypeId} {ti : TI} {x : Operand} {r : Row} {n off : Nat} {y : AV} (ho : o.op = .load t x) (ht : T.f t = some ti) (hg : ti.sh.agg = false) (hx : opd L x = some (r, .ptr n off)) (hc : L (.cell n off) = .av y) (hd : ∀ d, o.dst = some d → d < C.N) :
    OpOk P C o ⟨r ++ [(.cell n off, .av y)], wr o.dst y⟩ := by
  refine OpOk.pure (fun c => by simp [ho]) hd fun G σ a w hA hr => ?_
  have e := (opd_ok hx hA hr.left).rep
  obtain ⟨_, v, c1, _, c3⟩ := hA.cell n off y hr.right.head
  refine ⟨v, ?_, c3⟩
  simp only [execOp, ho]
  rw [show a.eval x = .pointer (some ⟨G.ρ n, off, none⟩) from e]
  simp [run_load_word (w := w) ht hg (G.ρ n) off v c1]
theorem op_load_row {t : TypeId} {ti : TI} {x : Operand} {r r' : Row} {zs : List Nat} {ds : List D} (ho : o.op = .load t x) (ht : T.f t = some ti) (hg : ti.sh.agg = true) (hx : opd L x = some (r, .seg zs ds)) (hz : zr L zs = some r') (hl : ti.size ≤ ds.length) (hd : ∀ d, o.dst = some d → d < C.N) :
    OpOk P C o ⟨r ++ r', wr o.dst (.agg ((ds.take ti.size).map fun x => (nz zs x, x)))⟩ := by
  refine OpOk.pure (fun c => by simp [ho]) hd fun G σ a w hA hr => ?_
  have e := opd_ok hx hA hr.left
  obtain ⟨g, off, e1, k⟩ := e.rep (zr_ok hz hr.right)
  have hf : ∀ j (h : j < ti.size), ∃ u, w.cell? ⟨g, off + j, none⟩ = some u ∧ RepD (G.zu zs) w u (ds[j]'(by omega)) := fun j h => by
    obtain ⟨_, u, k1, k2⟩ := k j (ds[j]'(by omega)) (List.getElem?_eq_getElem (by omega))
    exact ⟨u, k1, k2⟩
  let f : Nat → Value := fun j => if h : j < ti.size then (hf j h).choose else undef
  have hf1 : ∀ j (h : j < ti.size), f j = (hf j h).choose := fun j h => dif_pos h
  refine ⟨.agg ((List.range ti.size).map f).toArray, ?_, ?_⟩
  · have := run_load_agg (w := w) ht hg g off f (fun j hj => by rw [hf1 j hj]; exact (hf j hj).choose_spec.1)
    simp only [execOp, ho]
    rw [e1]
    simp [this]
  · refine rep_agg (fun i zs' d hi => ?_) (by simp; omega)
    have hi' : i < ti.size := by
      have := (List.getElem?_eq_some_iff.1 hi).1
      simp at this
      omega
    have e2 : ((List.range ti.size).map f).toArray.getD i undef = f i := by simp [Array.getD_eq_getD_getElem?, hi']
    rw [e2, hf1 i hi']
    simp only [List.getElem?_map, List.getElem?_take, if_pos hi', List.getElem?_eq_getElem (show i < ds.length by omega), Option.map_some, Option.some.injEq, Prod.mk.injEq] at hi
    obtain ⟨rfl, rfl⟩ := hi
    exact ⟨fun z hz => e.ok z (nz_sub _ _ hz), fun _ => nz_rep (hf i hi').choose_spec.2⟩
theorem op_load_seg {t : TypeId} {ti : TI} {x : Operand} {r r' : Row} {zs : List Nat} {d : D} {ds : List D} (ho : o.op = .load t x) (ht : T.f t = some ti) (hg : ti.sh.agg = false) (hx : opd L x = some (r, .seg zs (d :: ds))) (hz : zr L zs = some r') (hd : ∀ d, o.dst = some d → d < C.N) :
    OpOk P C o ⟨r ++ r', wr o.dst (.c (nz zs d) d)⟩ := by
  refine OpOk.pure (fun c => by simp [ho]) hd fun G σ a w hA hr => ?_
  have e := opd_ok hx hA hr.left
  obtain ⟨g, off, e1, k⟩ := e.rep (zr_ok hz hr.right)
  obtain ⟨_, u, k1, k2⟩ := k 0 d rfl
  refine ⟨u, ?_, rep_nz e.ok k2⟩
  simp only [execOp, ho]
  rw [e1]
  simp [run_load_word (w := w) ht hg g off u k1]

theorem run_fieldAt {s : TypeId} {si : TI} {fs : List (Nat × TypeId)} {f fo : Nat} {ft : TypeId} {fi : TI} (hs : T.f s = some si) (hsh : si.sh = .struct fs) (hf : fs[f]? = some (fo, ft)) (hft : T.f ft = some fi) (hne : fi.size ≠ 0) (b off : Nat) :
    (Instr.fieldAt s (.pointer (some ⟨b, off, none⟩)) f).run P w = .ok (.pointer (some ⟨b, off + fo, none⟩)) w := by
  obtain ⟨arr, h1, h2⟩ := (T.ok s si hs).struct hsh
  have h3 : (arr[f]?).map (fun f => (f.offset, f.type)) = some (fo, ft) := by
    rw [← h2] at hf
    simpa [List.getElem?_map] using hf
  cases hq : arr[f]? with
  | none => rw [hq] at h3; cases h3
  | some fl =>
    rw [hq] at h3
    simp only [Option.map_some, Option.some.injEq, Prod.mk.injEq] at h3
    obtain ⟨rfl, rfl⟩ := h3
    have h4 := (T.ok fl.type fi hft).run_size w
    simp [Instr.fieldAt, run_underlying h1, hq, Instr.sureAddr, fieldPlace, h4, hne, add_none]
theorem op_faddr {s : TypeId} {si : TI} {fs : List (Nat × TypeId)} {f fo : Nat} {ft : TypeId} {fi : TI} {x : Operand} {r : Row} {n off : Nat} (ho : o.op = .fieldAddr s x f) (hs : T.f s = some si) (hsh : si.sh = .struct fs) (hf : fs[f]? = some (fo, ft)) (hft : T.f ft = some fi) (hne : fi.size ≠ 0)
    (hx : opd L x = some (r, .ptr n off)) (hd : ∀ d, o.dst = some d → d < C.N) : OpOk P C o ⟨r, wr o.dst (.ptr n (off + fo))⟩ := by
  refine OpOk.pure (fun c => by simp [ho]) hd fun G σ a w hA hr => ?_
  have e := opd_ok hx hA hr
  refine ⟨.pointer (some ⟨G.ρ n, off + fo, none⟩), ?_, e.ok, rfl⟩
  simp only [execOp, ho]
  rw [show a.eval x = .pointer (some ⟨G.ρ n, off, none⟩) from e.rep]
  simp [run_fieldAt (w := w) hs hsh hf hft hne]
theorem op_faddr_seg {s : TypeId} {si : TI} {fs : List (Nat × TypeId)} {f fo : Nat} {ft : TypeId} {fi : TI} {x : Operand} {r r' : Row} {zs : List Nat} {ds : List D} (ho : o.op = .fieldAddr s x f) (hs : T.f s = some si) (hsh : si.sh = .struct fs) (hf : fs[f]? = some (fo, ft)) (hft : T.f ft = some fi) (hne : fi.size ≠ 0)
    (hx : opd L x = some (r, .seg zs ds)) (hz : zr L zs = some r') (hd : ∀ d, o.dst = some d → d < C.N) : OpOk P C o ⟨r ++ r', wr o.dst (.seg zs (ds.drop fo))⟩ := by
  refine OpOk.pure (fun c => by simp [ho]) hd fun G σ a w hA hr => ?_
  have e := opd_ok hx hA hr.left
  obtain ⟨g, off, e1, k⟩ := e.rep (zr_ok hz hr.right)
  refine ⟨.pointer (some ⟨g, off + fo, none⟩), ?_, e.ok, fun _ => ⟨g, off + fo, rfl, fun j x hj => ?_⟩⟩
  · simp only [execOp, ho]
    rw [e1]
    simp [run_fieldAt (w := w) hs hsh hf hft hne]
  · rw [List.getElem?_drop] at hj
    have := k _ _ hj
    rwa [show off + (fo + j) = off + fo + j by omega] at this
def atz (zs : List Nat) : DV → AV
  | .c (.p ds) => .seg zs ds
  | .c x => .c (nz zs x) x
  | .agg cs => .agg (cs.map fun x => (nz zs x, x))
theorem atz_rep {zs : List Nat} {x : DV} {v : Value} (hu : ∀ z ∈ zs, Uz σ z) (h : RepDV (G.zu zs) w v x) : Rep G σ w v (atz zs x) := by
  cases x with
  | c x =>
    cases x with
    | p ds =>
      refine ⟨hu, fun _ => ?_⟩
      cases (h : RepD _ w v (.p ds)) with
      | p g o ds vals hc hr => exact ⟨g, o, rfl, fun j x hj => ⟨(hc j x hj).1, _, (hc j x hj).2, hr j x hj⟩⟩
    | _ => exact rep_nz hu h
  | agg cs =>
    obtain ⟨vs, rfl, e, k⟩ := h
    refine rep_agg (fun i zs' x hi => ?_) (by simp [e])
    simp only [List.getElem?_map, Option.map_eq_some_iff, Prod.mk.injEq] at hi
    obtain ⟨y, h1, rfl, rfl⟩ := hi
    exact ⟨fun z hz => hu z (nz_sub _ _ hz), fun _ => nz_rep (k i y h1)⟩
theorem op_extract {x : Operand} {i : Nat} {r r' : Row} {zs : List Nat} {l : List DV} {d : DV} (ho : o.op = .extract x i) (hx : opd L x = some (r, .tup zs l)) (hz : zr L zs = some r') (hi : l[i]? = some d) (hd : ∀ d, o.dst = some d → d < C.N) : OpOk P C o ⟨r ++ r', wr o.dst (atz zs d)⟩ := by
  refine OpOk.pure (fun c => by simp [ho]) hd fun G σ a w hA hr => ?_
  have e := opd_ok hx hA hr.left
  obtain ⟨vs, e1, e2, k⟩ := e.rep (zr_ok hz hr.right)
  have hlt : i < vs.size := by rw [e2]; exact (List.getElem?_eq_some_iff.1 hi).1
  refine ⟨vs.getD i undef, ?_, atz_rep e.ok (k i d hi)⟩
  simp only [execOp, ho]
  rw [e1]
  simp [Instr.extract, Array.getD_eq_getD_getElem?, hlt]
def slc (L : St) (esz : Nat) : AV → Option (Row × List Nat × List (List D))
  | .c zs (.s sz rows) => if sz = esz then some ([], zs, rows) else none
  | .c [] (.n sz) => if sz = esz then some ([], [], []) else none
  | .own h => match L (.hd h) with
    | .hd (.own E sz y zs rows) => if sz = esz then some ([(.hd h, .hd (.own E sz y zs rows))], y :: zs, rows) else none
    | _ => none
  | .c [] (.v (.slice none 0 0)) => some ([], [], [])
  | _ => none
theorem slc_ok {esz : Nat} {x : AV} {r : Row} {zs : List Nat} {rows : List (List D)} {v : Value} (h : slc L esz x = some (r, zs, rows)) (hA : ASG C G σ a w) (hr : Rd σ r) (hx : Rep G σ w v x) : (∀ z ∈ zs, Uz σ z) ∧ ((∀ z ∈ zs, Lv σ z) → RepD (G.zu zs) w v (.s esz rows)) := by
  unfold slc at h
  split at h
  · split at h
    · simp only [Option.some.injEq, Prod.mk.injEq] at h
      obtain ⟨rfl, rfl, rfl⟩ := h
      rename_i e; subst e
      exact ⟨hx.ok, hx.rep⟩
    · cases h
  · split at h
    · simp only [Option.some.injEq, Prod.mk.injEq] at h
      obtain ⟨rfl, rfl, rfl⟩ := h
      refine ⟨fun z hz => absurd hz (by simp), fun _ => ?_⟩
      have := hx.rep (fun z hz => absurd hz (by simp))
      cases this
      exact .nil esz
    · cases h
  · rename_i n
    split at h
    · rename_i E sz y zs' rows' hh
      split at h
      · rename_i e
        simp only [Option.some.injEq, Prod.mk.injEq] at h
        obtain ⟨rfl, rfl, rfl⟩ := h
        subst e
        have q : hdd L (.own n) = some ([(.hd n, .hd (.own E sz y zs' rows'))], y :: zs', .s sz rows') := by simp [hdd, hh]
        exact hdd_ok q hA hr hx
      · cases h
    · cases h
  · simp only [Option.some.injEq, Prod.mk.injEq] at h
    obtain ⟨rfl, rfl, rfl⟩ := h
    refine ⟨fun z hz => absurd hz (by simp), fun _ => ?_⟩
    have := (hx.rep (fun z hz => absurd hz (by simp))).raw
    subst this
    exact .nil esz
  · cases h
theorem slc_rd {esz : Nat} {x : AV} {r : Row} {y : List Nat × List (List D)} (h : slc L esz x = some (r, y)) : Rd L r := by
  unfold slc at h
  split at h
  · split at h
    · simp only [Option.some.injEq, Prod.mk.injEq] at h; rw [← h.1]; exact Rd.nil
    · cases h
  · split at h
    · simp only [Option.some.injEq, Prod.mk.injEq] at h; rw [← h.1]; exact Rd.nil
    · cases h
  · split at h
    · rename_i hh
      split at h
      · simp only [Option.some.injEq, Prod.mk.injEq] at h; rw [← h.1]; exact Rd.cons hh Rd.nil
      · cases h
    · cases h
  · simp only [Option.some.injEq, Prod.mk.injEq] at h; rw [← h.1]; exact Rd.nil
  · cases h
def ops (L : St) (esz : Nat) (x : Operand) : Option (Row × List Nat × List (List D)) := match opd L x with
  | some (r, v) => match slc L esz v with
    | some (r1, zs, rows) => (zr L zs).map fun r' => (r ++ (r1 ++ r'), zs, rows)
    | none => none
  | none => none
theorem ops_ok {esz : Nat} {x : Operand} {r : Row} {zs : List Nat} {rows : List (List D)} (h : ops L esz x = some (r, zs, rows)) (hA : ASG C G σ a w) (hr : Rd σ r) :
    (∀ z ∈ zs, Uz σ z) ∧ (∀ z ∈ zs, Lv σ z) ∧ RepD (G.zu zs) w (a.eval x) (.s esz rows) := by
  unfold ops at h
  split at h
  · rename_i r1 v h1
    split at h
    · rename_i r3 zs' rows' h2
      simp only [Option.map_eq_some_iff, Prod.mk.injEq] at h
      obtain ⟨r2, h3, rfl, rfl, rfl⟩ := h
      obtain ⟨k1, k2⟩ := slc_ok h2 hA hr.right.left (opd_ok h1 hA hr.left)
      have hl := zr_ok h3 hr.right.right
      exact ⟨k1, hl, k2 hl⟩
    · cases h
  · cases h
theorem ops_rd {esz : Nat} {x : Operand} {r : Row} {zs : List Nat} {rows : List (List D)} (h : ops L esz x = some (r, zs, rows)) : Rd L r := by
  unfold ops at h
  split at h
  · rename_i r1 v h1
    split at h
    · rename_i h2
      simp only [Option.map_eq_some_iff, Prod.mk.injEq] at h
      obtain ⟨r2, h3, rfl, _⟩ := h
      exact Rd.app (opd_rd h1) (Rd.app (slc_rd h2) (zr_rd h3))
    · cases h
  · cases h
end

section
variable {P : Program} {C : Cx} {G : Gh} {σ : St} {a : Act} {w : World} {o : Oper} {L : St} {T : Tab P}
theorem op_len {t e : TypeId} {ti ei : TI} {x : Operand} {r : Row} {zs : List Nat} {rows : List (List D)} (ho : o.op = .call { callee := .builtin .len, args := #[x], argTypes := #[t] }) (ht : T.f t = some ti) (hsh : ti.sh = .slice e) (he : T.f e = some ei)
    (hx : ops L ei.size x = some (r, zs, rows)) (hd : ∀ d, o.dst = some d → d < C.N) : OpOk P C o ⟨r, wr o.dst (.c [] (.v (.int .i64 rows.length)))⟩ := by
  refine OpOk.pure (fun c => by simp [ho]) hd fun G σ a w hA hr => ?_
  obtain ⟨_, _, h⟩ := ops_ok hx hA hr
  obtain ⟨p, cap, e1, _⟩ := h.form
  have hu := (T.ok t ti ht).slice hsh
  refine ⟨.int .i64 rows.length, ?_, rep_raw _⟩
  simp [execOp, ho, resolve, invoke, builtin, Builtin.len_, e1, run_underlying hu, goInt]
theorem op_lens {t : TypeId} {ti : TI} {x : Operand} {r : Row} {s : ByteArray} (ho : o.op = .call { callee := .builtin .len, args := #[x], argTypes := #[t] }) (ht : T.f t = some ti) (hsh : ti.sh = .str) (hx : opr L x = some (r, .string s)) (hd : ∀ d, o.dst = some d → d < C.N) :
    OpOk P C o ⟨r, wr o.dst (.c [] (.v (.int .i64 s.size)))⟩ := by
  refine OpOk.pure (fun c => by simp [ho]) hd fun G σ a w hA hr => ?_
  have e := opr_ok hx hA hr
  obtain ⟨d, h1, h2⟩ := (T.ok t ti ht).und
  rw [hsh] at h2
  cases d <;> simp [shp] at h2
  refine ⟨.int .i64 s.size, ?_, rep_raw _⟩
  simp [execOp, ho, resolve, invoke, builtin, Builtin.len_, e, run_underlying h1, goInt]
theorem op_min {ts : Array TypeId} {x y : Operand} {r r' : Row} {k k' : IntKind} {n m : Int} (ho : o.op = .call { callee := .builtin .min, args := #[x, y], argTypes := ts }) (hx : opr L x = some (r, .int k n)) (hy : opr L y = some (r', .int k' m)) (hd : ∀ d, o.dst = some d → d < C.N) :
    OpOk P C o ⟨r ++ r', wr o.dst (.c [] (.v (.int k (if m < n then m else n))))⟩ := by
  refine OpOk.pure (fun c => by simp [ho]) hd fun G σ a w hA hr => ?_
  have e1 := opr_ok hx hA hr.left
  have e2 := opr_ok hy hA hr.right
  refine ⟨.int k (if m < n then m else n), ?_, rep_raw _⟩
  simp [execOp, ho, resolve, invoke, builtin, e1, e2, run_min_int2]
theorem op_max {ts : Array TypeId} {x y : Operand} {r r' : Row} {k k' : IntKind} {n m : Int} (ho : o.op = .call { callee := .builtin .max, args := #[x, y], argTypes := ts }) (hx : opr L x = some (r, .int k n)) (hy : opr L y = some (r', .int k' m)) (hd : ∀ d, o.dst = some d → d < C.N) :
    OpOk P C o ⟨r ++ r', wr o.dst (.c [] (.v (.int k (if m > n then m else n))))⟩ := by
  refine OpOk.pure (fun c => by simp [ho]) hd fun G σ a w hA hr => ?_
  have e1 := opr_ok hx hA hr.left
  have e2 := opr_ok hy hA hr.right
  refine ⟨.int k (if m > n then m else n), ?_, rep_raw _⟩
  simp [execOp, ho, resolve, invoke, builtin, e1, e2, run_max_int2]
theorem op_iaddr {t e : TypeId} {ti ei : TI} {x ix : Operand} {r r' : Row} {zs : List Nat} {rows : List (List D)} {k : IntKind} {n : Int} {j : Nat} {row : List D} (ho : o.op = .indexAddr t x ix) (ht : T.f t = some ti) (hsh : ti.sh = .slice e) (he : T.f e = some ei)
    (hx : ops L ei.size x = some (r, zs, rows)) (hi : opr L ix = some (r', .int k n)) (hj : n = (j : Int)) (hrow : rows[j]? = some row) (hd : ∀ d, o.dst = some d → d < C.N) : OpOk P C o ⟨r ++ r', wr o.dst (.seg zs row)⟩ := by
  refine OpOk.pure (fun c => by simp [ho]) hd fun G σ a w hA hr => ?_
  obtain ⟨h1, _, h⟩ := ops_ok hx hA hr.left
  have ei' := opr_ok hi hA hr.right
  have hlt : j < rows.length := (List.getElem?_eq_some_iff.1 hrow).1
  obtain ⟨g, off, cap, vals, e1, _, _, _, k4⟩ := h.at (by omega)
  have hu := (T.ok t ti ht).slice hsh
  have hs := (T.ok e ei he).run_size w
  refine ⟨.pointer (some ⟨g, off + j * ei.size, none⟩), ?_, h1, fun _ => ⟨g, off + j * ei.size, rfl, fun i x hx => ?_⟩⟩
  · subst hj
    have c1 : (0 : Int) ≤ (j : Int) ∧ (j : Int) < (rows.length : Int) := by omega
    simp [execOp, ho, Instr.indexAt, e1, ei', asIntOf, run_underlying hu, c1, hs, add_none]
    omega
  · obtain ⟨b1, b2, b3⟩ := k4 j row i x hrow hx
    exact ⟨b1, _, b2, b3⟩
theorem op_iaddr_arr {t e : TypeId} {ti ei : TI} {x ix : Operand} {r r' : Row} {m nn off : Nat} {k : IntKind} {n : Int} {j : Nat} (ho : o.op = .indexAddr t x ix) (ht : T.f t = some ti) (hsh : ti.sh = .arr m e) (he : T.f e = some ei)
    (hx : opd L x = some (r, .ptr nn off)) (hi : opr L ix = some (r', .int k n)) (hj : n = (j : Int)) (hjm : j < m) (hd : ∀ d, o.dst = some d → d < C.N) : OpOk P C o ⟨r ++ r', wr o.dst (.ptr nn (off + j * ei.size))⟩ := by
  refine OpOk.pure (fun c => by simp [ho]) hd fun G σ a w hA hr => ?_
  have hx' := opd_ok hx hA hr.left
  have ei' := opr_ok hi hA hr.right
  obtain ⟨d, hu, h2⟩ := (T.ok t ti ht).und
  rw [hsh] at h2
  cases d <;> simp [shp] at h2
  obtain ⟨q1, q2⟩ := h2
  rw [q1, q2] at hu
  have hs := (T.ok _ ei he).run_size w
  refine ⟨.pointer (some ⟨G.ρ nn, off + j * ei.size, none⟩), ?_, hx'.ok, rfl⟩
  subst hj
  have c1 : (0 : Int) ≤ (j : Int) ∧ (j : Int) < (m : Int) := by omega
  simp only [execOp, ho]
  rw [show a.eval x = .pointer (some ⟨G.ρ nn, off, none⟩) from hx'.rep]
  simp [Instr.indexAt, ei', asIntOf, run_underlying hu, Instr.sureAddr, c1, hs, add_none]
  omega
def bnd : Option (IntKind × Nat) → Option Value := fun x => x.map fun y => .int y.1 (y.2 : Int)
theorem run_sliceAt {t e : TypeId} {ti ei : TI} (ht : T.f t = some ti) (hsh : ti.sh = .slice e) (he : T.f e = some ei) (p : Option Addr) (n cap : Nat) (lo hi mx : Option (IntKind × Nat)) (hmx : mx.isSome = true → hi.isSome = true)
    (h1 : (lo.map (·.2)).getD 0 ≤ (hi.map (·.2)).getD n) (h2 : (hi.map (·.2)).getD n ≤ (mx.map (·.2)).getD cap) (h3 : (mx.map (·.2)).getD cap ≤ cap) :
    (Instr.sliceAt t (.slice p n cap) (bnd lo) (bnd hi) (bnd mx)).run P w =
      .ok (.slice (if (mx.map (·.2)).getD cap = (lo.map (·.2)).getD 0 then p else p.map (·.add ((lo.map (·.2)).getD 0 * ei.size))) ((hi.map (·.2)).getD n - (lo.map (·.2)).getD 0) ((mx.map (·.2)).getD cap - (lo.map (·.2)).getD 0)) w := by
  have hu := (T.ok t ti ht).slice hsh
  have hs := (T.ok e ei he).run_size w
  have hb : ∀ (k : IntKind) (m y : Nat) (code : BoundsCode), m ≤ y → (Instr.sliceBound (.int k (m : Int)) y code).run P w = .ok m w := fun k m y code h => by
    simp only [Instr.sliceBound, asIntOf, Sem.run_bind, Sem.run_pure, Result.andThen_ok]
    rw [if_pos (by omega)]
    simp
  have hB : (Instr.sliceBounds true n cap (bnd lo) (bnd hi) (bnd mx)).run P w = .ok ((lo.map (·.2)).getD 0, (hi.map (·.2)).getD n, (mx.map (·.2)).getD cap) w := by
    cases mx with
    | none =>
      simp only [Option.map_none, Option.getD_none] at h2 h3 ⊢
      cases hi with
      | none => cases lo with
        | none => simp [Instr.sliceBounds, bnd]
        | some l => simp only [Option.map_none, Option.map_some, Option.getD_none, Option.getD_some] at h1 h2 ⊢; simp [Instr.sliceBounds, bnd, hb _ _ _ _ h1]
      | some h => cases lo with
        | none => simp only [Option.map_none, Option.map_some, Option.getD_none, Option.getD_some] at h1 h2 ⊢; simp [Instr.sliceBounds, bnd, hb _ _ _ _ h2]
        | some l => simp only [Option.map_none, Option.map_some, Option.getD_none, Option.getD_some] at h1 h2 ⊢; simp [Instr.sliceBounds, bnd, hb _ _ _ _ h1, hb _ _ _ _ h2]
    | some m =>
      cases hi with
      | none => exact absurd (hmx rfl) (by simp)
      | some h => cases lo with
        | none => simp only [Option.map_none, Option.map_some, Option.getD_none, Option.getD_some] at h1 h2 h3 ⊢; simp [Instr.sliceBounds, bnd, hb _ _ _ _ h2, hb _ _ _ _ h3]
        | some l => simp only [Option.map_none, Option.map_some, Option.getD_none, Option.getD_some] at h1 h2 h3 ⊢; simp [Instr.sliceBounds, bnd, hb _ _ _ _ h1, hb _ _ _ _ h2, hb _ _ _ _ h3]
  simp only [Instr.sliceAt, Instr.slice, Sem.run_bind, run_underlying hu, Result.andThen_ok, hB, hs, Sem.run_pure]
def opb (L : St) : Option Operand → Option (Row × Option (IntKind × Int))
  | none => some ([], none)
  | some x => match opr L x with
    | some (r, .int k n) => some (r, some (k, n))
    | _ => none
def nat? : Option (IntKind × Int) → Option (IntKind × Nat) → Prop
  | none, none => True
  | some (k, n), some (k', m) => k = k' ∧ n = (m : Int)
  | _, _ => False
theorem opb_ok {x : Option Operand} {r : Row} {b : Option (IntKind × Int)} {c : Option (IntKind × Nat)} (h : opb L x = some (r, b)) (hn : nat? b c) (hA : ASG C G σ a w) (hr : ∀ kv ∈ r, σ kv.1 = kv.2) : x.map a.eval = bnd c := by
  cases x with
  | none =>
    simp only [opb, Option.some.injEq, Prod.mk.injEq] at h
    obtain ⟨_, rfl⟩ := h
    cases c with
    | none => rfl
    | some c => exact hn.elim
  | some x =>
    simp only [opb] at h
    split at h
    · rename_i r' k n h1
      simp only [Option.some.injEq, Prod.mk.injEq] at h
      obtain ⟨rfl, rfl⟩ := h
      cases c with
      | none => exact hn.elim
      | some c =>
        obtain ⟨rfl, rfl⟩ := hn
        simp only [Option.map_some, bnd, opr_ok h1 hA hr]
    · cases h
theorem op_slice {t e : TypeId} {ti ei : TI} {x : Operand} {lo hi mx : Option Operand} {r r1 r2 r3 : Row} {zs : List Nat} {rows : List (List D)} {b1 b2 b3 : Option (IntKind × Int)} {c1 c2 c3 : Option (IntKind × Nat)} (ho : o.op = .slice t x lo hi mx) (ht : T.f t = some ti) (hsh : ti.sh = .slice e) (he : T.f e = some ei)
    (hx : ops L ei.size x = some (r, zs, rows)) (h1 : opb L lo = some (r1, b1)) (h2 : opb L hi = some (r2, b2)) (h3 : opb L mx = some (r3, b3)) (n1 : nat? b1 c1) (n2 : nat? b2 c2) (n3 : nat? b3 c3) (hmx : c3.isSome = true → c2.isSome = true)
    (k1 : (c1.map (·.2)).getD 0 ≤ (c2.map (·.2)).getD rows.length) (k2 : (c2.map (·.2)).getD rows.length ≤ (c3.map (·.2)).getD rows.length) (k3 : (c3.map (·.2)).getD rows.length ≤ rows.length) (hd : ∀ d, o.dst = some d → d < C.N) :
    OpOk P C o ⟨r ++ (r1 ++ (r2 ++ r3)), wr o.dst (.c zs (.s ei.size ((rows.take ((c2.map (·.2)).getD rows.length)).drop ((c1.map (·.2)).getD 0))))⟩ := by
  refine OpOk.pure (fun c => by simp [ho]) hd fun G σ a w hA hr => ?_
  obtain ⟨hu, hl, h⟩ := ops_ok hx hA hr.left
  have e1 := opb_ok h1 n1 hA hr.right.left
  have e2 := opb_ok h2 n2 hA hr.right.right.left
  have e3 := opb_ok h3 n3 hA hr.right.right.right
  obtain ⟨p, cap, ev, q1, q2, q3⟩ := h.form
  rw [ev] at h
  have hcap : rows.length ≤ (c3.map (·.2)).getD cap → (c3.map (·.2)).getD cap ≤ cap := by
    cases c3 with
    | none => simp
    | some c => simp at k3 ⊢; omega
  have g1 : (c2.map (·.2)).getD rows.length ≤ (c3.map (·.2)).getD cap := by
    cases c3 with
    | none => simp at k2 ⊢; omega
    | some c => simpa using k2
  have g2 : (c3.map (·.2)).getD cap ≤ cap := by
    cases c3 with
    | none => simp
    | some c => simp at k3 ⊢; omega
  refine ⟨_, ?_, rep_c hu (h.sub _ _ k1 (by omega) _ g1 g2)⟩
  have := run_sliceAt (w := w) ht hsh he p rows.length cap c1 c2 c3 hmx k1 g1 g2
  simp only [execOp, ho, ev, e1, e2, e3]
  rw [Sem.run_bind, this]
  rfl
theorem op_field {s : TypeId} {si : TI} {fs : List (Nat × TypeId)} {f fo : Nat} {ft : TypeId} {fi : TI} {x : Operand} {r : Row} {cs : List (List Nat × D)} {y : List Nat × D} (ho : o.op = .field s x f) (hs : T.f s = some si) (hsh : si.sh = .struct fs) (hf : fs[f]? = some (fo, ft)) (hft : T.f ft = some fi) (hg : fi.sh.agg = false)
    (hx : opd L x = some (r, .agg cs)) (hy : cs[fo]? = some y) (hd : ∀ d, o.dst = some d → d < C.N) : OpOk P C o ⟨r, wr o.dst (.c y.1 y.2)⟩ := by
  refine OpOk.pure (fun c => by simp [ho]) hd fun G σ a w hA hr => ?_
  have e := opd_ok hx hA hr
  obtain ⟨vs, e1, e2, k⟩ := e.rep
  obtain ⟨arr, h1, h2⟩ := (T.ok s si hs).struct hsh
  have h3 : (arr[f]?).map (fun f => (f.offset, f.type)) = some (fo, ft) := by
    rw [← h2] at hf
    simpa [List.getElem?_map] using hf
  cases hq : arr[f]? with
  | none => rw [hq] at h3; cases h3
  | some fl =>
    rw [hq] at h3
    simp only [Option.map_some, Option.some.injEq, Prod.mk.injEq] at h3
    obtain ⟨rfl, rfl⟩ := h3
    have h4 := (T.ok fl.type fi hft).run_agg w
    have hlt : fl.offset < vs.size := by rw [e2]; exact (List.getElem?_eq_some_iff.1 hy).1
    refine ⟨vs.getD fl.offset undef, ?_, ⟨fun z hz => e.ok y (List.mem_of_getElem? hy) z hz, fun hl => k fl.offset y.1 y.2 hy hl⟩⟩
    simp only [execOp, ho, e1]
    simp [Instr.field, run_underlying h1, hq, asAgg, part, h4, hg, Array.getD_eq_getD_getElem?, hlt]
theorem op_index {t e : TypeId} {ti ei : TI} {m : Nat} {x ix : Operand} {r r' : Row} {cs : List (List Nat × D)} {y : List Nat × D} {k : IntKind} {n : Int} {j : Nat} (ho : o.op = .index t x ix) (ht : T.f t = some ti) (hsh : ti.sh = .arr m e) (he : T.f e = some ei) (hg : ei.sh.agg = false) (h1 : ei.size = 1)
    (hx : opd L x = some (r, .agg cs)) (hi : opr L ix = some (r', .int k n)) (hj : n = (j : Int)) (hjm : j < m) (hy : cs[j]? = some y) (hd : ∀ d, o.dst = some d → d < C.N) : OpOk P C o ⟨r ++ r', wr o.dst (.c y.1 y.2)⟩ := by
  refine OpOk.pure (fun c => by simp [ho]) hd fun G σ a w hA hr => ?_
  have e0 := opd_ok hx hA hr.left
  have ei' := opr_ok hi hA hr.right
  obtain ⟨vs, e1, e2, kk⟩ := e0.rep
  obtain ⟨d, hu, h2⟩ := (T.ok t ti ht).und
  rw [hsh] at h2
  cases d <;> simp [shp] at h2
  obtain ⟨q1, q2⟩ := h2
  rw [q1, q2] at hu
  have hs := (T.ok _ ei he).run_size w
  have h4 := (T.ok _ ei he).run_agg w
  have hlt : j < vs.size := by rw [e2]; exact (List.getElem?_eq_some_iff.1 hy).1
  refine ⟨vs.getD j undef, ?_, ⟨fun z hz => e0.ok y (List.mem_of_getElem? hy) z hz, fun hl => kk j y.1 y.2 hy hl⟩⟩
  subst hj
  have c1 : (0 : Int) ≤ (j : Int) ∧ (j : Int) < (m : Int) := by omega
  simp only [execOp, ho, e1, ei']
  simp [Instr.index, asIntOf, run_underlying hu, c1, hs, h1, part, h4, hg, Array.getD_eq_getD_getElem?, hlt]
  omega
end

section
variable {P : Program} {C : Cx} {G : Gh} {σ : St} {a : Act} {w : World} {o : Oper} {L : St} {T : Tab P}
def ocD : D → Bool
  | .v u => u.oneCell'
  | _ => true
theorem ocD_ok {Z : Zone} {v : Value} {x : D} (h : ocD x = true) (hx : RepD Z w v x) : v.oneCell' = true := by
  cases hx with
  | v x => exact h
  | n sz => rfl
  | nil sz => rfl
  | emp => rfl
  | row => rfl
  | p => rfl
  | f => rfl
  | st φ v h' => exact φ.one _ _ _ h'
def spread1 (L : St) (y : AV) : Option Row := match y with
  | .c zs x => if ocD x then zr L zs else none
  | .ptr .. => some []
  | .fn .. => some []
  | .seg zs _ => zr L zs
  | .own h => match L (.hd h) with
    | .hd (.own E sz y zs rows) => (zr L [y]).map fun r => (.hd h, .hd (.own E sz y zs rows)) :: r
    | _ => none
  | _ => none
def spreadL (L : St) : List (List Nat × D) → Option (Row × List AV)
  | [] => some ([], [])
  | (zs, x) :: cs => match spread1 L (.c zs x), spreadL L cs with
    | some r, some (r', ys) => some (r ++ r', .c zs x :: ys)
    | _, _ => none
def spread (L : St) : AV → Option (Row × List AV)
  | .agg cs => spreadL L cs
  | y => (spread1 L y).map fun r => (r, [y])
theorem spread1_ok {y : AV} {r : Row} {v : Value} (h : spread1 L y = some r) (hA : ASG C G σ a w) (hr : Rd σ r) (hy : Rep G σ w v y) : v.oneCell' = true := by
  cases y with
  | c zs x =>
    simp only [spread1] at h
    split at h
    · rename_i hoc
      exact ocD_ok hoc (hy.rep (zr_ok h hr))
    · cases h
  | ptr n off => rw [show v = _ from hy.rep]; rfl
  | fn g caps => rw [show v = _ from hy.rep]; rfl
  | seg zs ds =>
    simp only [spread1] at h
    obtain ⟨g, o, e, _⟩ := hy.rep (zr_ok h hr); rw [e]; rfl
  | own n =>
    simp only [spread1] at h
    split at h
    · rename_i E sz y zs rows hh
      rw [Option.map_eq_some_iff] at h
      obtain ⟨r', h1, rfl⟩ := h
      have hs := hr.head
      have hl := zr_ok h1 hr.tail y (by simp)
      rw [show v = G.τ n from hy.rep ⟨_, _, _, _, _, hs⟩]
      obtain ⟨_, vals, k1, _⟩ := (hA.hd n _ _ _ _ _ hs).own hl
      rcases k1.2 with ⟨e, _⟩ | ⟨g, cap, cur, e, _⟩ <;> rw [e] <;> rfl
    · cases h
  | _ => simp [spread1] at h
theorem spread1_rd {y : AV} {r : Row} (h : spread1 L y = some r) : Rd L r := by
  cases y with
  | c zs x =>
    simp only [spread1] at h
    split at h
    · exact zr_rd h
    · cases h
  | ptr n off => simp only [spread1, Option.some.injEq] at h; rw [← h]; exact Rd.nil
  | fn n off => simp only [spread1, Option.some.injEq] at h; rw [← h]; exact Rd.nil
  | seg zs ds => exact zr_rd h
  | own n =>
    simp only [spread1] at h
    split at h
    · rename_i hh
      rw [Option.map_eq_some_iff] at h
      obtain ⟨r', h1, rfl⟩ := h
      exact Rd.cons hh (zr_rd h1)
    · cases h
  | _ => simp [spread1] at h
theorem spreadL_ok : ∀ {cs : List (List Nat × D)} {r : Row} {ys : List AV}, spreadL L cs = some (r, ys) → Rd σ r → ys = cs.map (fun c => .c c.1 c.2) ∧ ∀ y ∈ ys, ∃ r', spread1 L y = some r' ∧ Rd σ r'
  | [], r, ys, h, _ => by simp only [spreadL, Option.some.injEq, Prod.mk.injEq] at h; obtain ⟨_, rfl⟩ := h; simp
  | (zs, x) :: cs, r, ys, h, hr => by
    unfold spreadL at h
    split at h
    · rename_i r1 r2 ys' h1 h2
      simp only [Option.some.injEq, Prod.mk.injEq] at h
      obtain ⟨rfl, rfl⟩ := h
      obtain ⟨k1, k2⟩ := spreadL_ok h2 hr.right
      refine ⟨by simp [k1], fun y hy => ?_⟩
      rcases List.mem_cons.1 hy with rfl | hy
      · exact ⟨r1, h1, hr.left⟩
      · exact k2 y hy
    · cases h
theorem spreadL_rd : ∀ {cs : List (List Nat × D)} {r : Row} {ys : List AV}, spreadL L cs = some (r, ys) → Rd L r
  | [], r, ys, h => by simp only [spreadL, Option.some.injEq, Prod.mk.injEq] at h; rw [← h.1]; exact Rd.nil
  | (zs, x) :: cs, r, ys, h => by
    unfold spreadL at h
    split at h
    · rename_i h1 h2
      simp only [Option.some.injEq, Prod.mk.injEq] at h
      rw [← h.1]; exact Rd.app (spread1_rd h1) (spreadL_rd h2)
    · cases h
theorem spread_rd {x : AV} {r : Row} {ys : List AV} (h : spread L x = some (r, ys)) : Rd L r := by
  cases x with
  | agg cs => exact spreadL_rd h
  | _ =>
    simp only [spread, Option.map_eq_some_iff, Prod.mk.injEq] at h
    obtain ⟨r', h1, rfl, _⟩ := h
    exact spread1_rd h1
theorem spread_ok {x : AV} {r : Row} {ys : List AV} {v : Value} (h : spread L x = some (r, ys)) (hA : ASG C G σ a w) (hr : Rd σ r) (hx : Rep G σ w v x) :
    v.cells.size = ys.length ∧ ∀ (i : Nat) (y : AV), ys[i]? = some y → Rep G σ w (v.cells.getD i undef) y ∧ (v.cells.getD i undef).oneCell' = true := by
  have one : ∀ {x : AV} {r : Row}, spread1 L x = some r → Rd σ r → Rep G σ w v x → v.cells.size = 1 ∧ ∀ (i : Nat) (y : AV), [x][i]? = some y → Rep G σ w (v.cells.getD i undef) y ∧ (v.cells.getD i undef).oneCell' = true := by
    intro x r h hr hx
    have h1 := spread1_ok h hA hr hx
    have e : v.cells = #[v] := by cases v <;> simp_all [Value.cells, Value.oneCell']
    rw [e]
    refine ⟨rfl, fun i y hi => ?_⟩
    cases i with
    | zero => simp at hi; subst hi; exact ⟨hx, h1⟩
    | succ i => simp at hi
  cases x with
  | agg cs =>
    obtain ⟨k1, k2⟩ := spreadL_ok h hr
    obtain ⟨vs, rfl, e2, k⟩ := hx.rep
    refine ⟨by rw [k1]; simp [Value.cells, e2], fun i y hi => ?_⟩
    have hm := List.mem_of_getElem? hi
    rw [k1, List.getElem?_map, Option.map_eq_some_iff] at hi
    obtain ⟨⟨zs, x⟩, hi, rfl⟩ := hi
    have hR : Rep G σ w (vs.getD i undef) (.c zs x) := ⟨fun z hz => hx.ok _ (List.mem_of_getElem? hi) z hz, k i zs x hi⟩
    obtain ⟨r', h1, h2⟩ := k2 _ hm
    exact ⟨hR, spread1_ok h1 hA h2 hR⟩
  | _ =>
    simp only [spread, Option.map_eq_some_iff, Prod.mk.injEq] at h
    obtain ⟨r', h1, rfl, rfl⟩ := h
    exact one h1 hr hx
theorem ASG.newbox (h : ASG C G σ a w) {n : Nat} (hn : σ (.nm n) = .nm false) (arr : Array Value) (E : TypeId) (ys : List AV) (hs : arr.size = ys.length) (hy : ∀ (i : Nat) (y : AV), ys[i]? = some y → Rep G σ w (arr.getD i undef) y) {dst : Option Tmp} (hd : ∀ d, dst = some d → d < C.N) :
    AS C (ovr σ (wr dst (.ptr n 0) ++ ((.nm n, .nm true) :: (.sz n, .sz ys.length) :: crow n 0 ys))) (a.put dst (.pointer (some ⟨w.heap.size, 0, none⟩))) (w.alloc (.cells arr E)) := by
  obtain ⟨h1, e1⟩ := h.below (below_alloc w (.cells arr E))
  have m := h.fresh (w' := w.alloc (.cells arr E)) (b := w.heap.size) (Nat.le_refl _) (by simp)
  obtain ⟨h2, e2⟩ := h1.addname hn m (.mk (heap_alloc_new w _)) ys ⟨arr, E, heap_alloc_new w _, hs⟩ (fun i y hi => by
    refine ⟨arr.getD i undef, ?_, ?_, (hy i y hi).evo e1⟩
    · have : i < arr.size := by rw [hs]; exact (List.getElem?_eq_some_iff.1 hi).1
      unfold World.cell?
      simp only [heap_alloc_new w (.cells arr E)]
      simp [Array.getD_eq_getD_getElem?, this]
    · unfold World.frozen?; simp only [heap_alloc_new w (.cells arr E)]; simp)
  have h3 := h2.put (dst := dst) (v := .pointer (some ⟨w.heap.size, 0, none⟩)) (x := .ptr n 0) hd ⟨by unfold AV.ok; unfold Nm; simp [ovr, fnd], by show _ = _; simp⟩
  rw [ovr_ovr] at h3
  exact ⟨_, h3⟩
theorem op_alloc {t : TypeId} {ti : TI} {n : Nat} (ho : o.op = .alloc t) (ht : T.f t = some ti) (hn : L (.nm n) = .nm false) (hd : ∀ d, o.dst = some d → d < C.N) :
    OpOk P C o ⟨[(.nm n, .nm false)], wr o.dst (.ptr n 0) ++ ((.nm n, .nm true) :: (.sz n, .sz ((zds ti.zero.cells.toList ti.hint).map fun d => AV.c [] d).length) :: crow n 0 ((zds ti.zero.cells.toList ti.hint).map fun d => .c [] d))⟩ := by
  intro σ a w K ⟨G, hA⟩ hr hK
  have h1 := (T.ok t ti ht).run_zero w
  have e : (execOp a.eval o).run P w = .ok (.value (.pointer (some ⟨w.heap.size, 0, none⟩))) (w.alloc (.cells ti.zero.cells t)) := by
    simp [execOp, ho, Instr.alloc, h1, newVar, newRow]
  refine ⟨fun c => by simp [ho], .inl ⟨_, _, e, hK _ _ (hA.newbox hr.head ti.zero.cells t _ (by simp [zds_len]) (fun i y hi => ?_) hd)⟩⟩
  rw [List.getElem?_map, Option.map_eq_some_iff] at hi
  obtain ⟨d, hi, rfl⟩ := hi
  obtain ⟨v, hv, hd'⟩ := zds_get _ _ _ _ hi
  rw [Array.getElem?_toList] at hv
  rw [Array.getD_eq_getD_getElem?, hv]
  exact ⟨fun z hz => absurd hz (by simp), fun _ => hd' _ _⟩
theorem op_box {t : TypeId} {x : Operand} {r r' : Row} {y : AV} {ys : List AV} {n : Nat} (ho : o.op = .box t x) (hx : opd L x = some (r, y)) (hs : spread L y = some (r', ys)) (hn : L (.nm n) = .nm false) (hd : ∀ d, o.dst = some d → d < C.N) :
    OpOk P C o ⟨(.nm n, .nm false) :: (r ++ r'), wr o.dst (.ptr n 0) ++ ((.nm n, .nm true) :: (.sz n, .sz ys.length) :: crow n 0 ys)⟩ := by
  intro σ a w K ⟨G, hA⟩ hr hK
  have e := opd_ok hx hA hr.tail.left
  obtain ⟨k1, k2⟩ := spread_ok hs hA hr.tail.right e
  have e : (execOp a.eval o).run P w = .ok (.value (.pointer (some ⟨w.heap.size, 0, none⟩))) (w.alloc (.cells (a.eval x).cells t)) := by
    simp [execOp, ho, Instr.box, newVar, newRow]
  exact ⟨fun c => by simp [ho], .inl ⟨_, _, e, hK _ _ (hA.newbox hr.head (a.eval x).cells t ys k1 (fun i y hi => (k2 i y hi).1) hd)⟩⟩
def ex (L : St) (n : Nat) : Nat → Nat → Option Row
  | _, 0 => some []
  | off, c + 1 => match L (.cell n off) with
    | .av x => (ex L n (off + 1) c).map ((.cell n off, .av x) :: ·)
    | _ => none
theorem ex_ok {n : Nat} : ∀ {c off : Nat} {r : Row}, ex L n off c = some r → Rd σ r → ∀ j, j < c → ∃ y, σ (.cell n (off + j)) = .av y
  | 0, off, r, _, _, j, hj => by omega
  | c + 1, off, r, h, hr, j, hj => by
    unfold ex at h
    split at h
    · rename_i x hx
      rw [Option.map_eq_some_iff] at h
      obtain ⟨r', h1, rfl⟩ := h
      cases j with
      | zero => exact ⟨x, hr.head⟩
      | succ j =>
        have := ex_ok h1 hr.tail j (by omega)
        rwa [show off + 1 + j = off + (j + 1) by omega] at this
    · cases h
theorem crow_step (σ : St) (n k : Nat) (y : AV) (ys : List AV) : ovr (ovr σ [(.cell n k, .av y)]) (crow n (k + 1) ys) = ovr σ (crow n k (y :: ys)) := by
  rw [ovr_ovr]
  funext kk
  simp only [ovr, fnd_app, crow]
  cases kk with
  | cell m j =>
    simp only [fnd, Key.cell.injEq]
    by_cases h : n = m ∧ k = j
    · obtain ⟨rfl, rfl⟩ := h
      rw [fnd_crow, if_neg (by omega)]
      simp
    · rw [if_neg h, if_neg h]
      cases fnd (crow n (k + 1) ys) (.cell m j) <;> simp
  | _ => simp [fnd, fnd_crow_ne]
theorem run_stores {n : Nat} : ∀ (ys : List AV) (vs : List Value) (off : Nat) (base i : Nat) (σ : St) (w : World), base + i = off → ASG C G σ a w → (∀ j, j < ys.length → ∃ y0, σ (.cell n (off + j)) = .av y0) → vs.length = ys.length →
    (∀ (j : Nat) (y : AV), ys[j]? = some y → Rep G σ w (vs.getD j undef) y ∧ (vs.getD j undef).oneCell' = true) →
    ∃ w', (storeCells ⟨G.ρ n, base, none⟩ vs i).run P w = .ok () w' ∧ ASG C G (ovr σ (crow n off ys)) a w'
  | [], vs, off, base, i, σ, w, _, hA, _, hl, _ => by
    obtain rfl : vs = [] := List.eq_nil_of_length_eq_zero (by simpa using hl)
    refine ⟨w, rfl, ?_⟩
    have : ovr σ (crow n off []) = σ := by funext k; simp [ovr, crow, fnd]
    rw [this]; exact hA
  | y :: ys, [], off, base, i, σ, w, _, hA, _, hl, _ => by simp at hl
  | y :: ys, v :: vs, off, base, i, σ, w, hb, hA, he, hl, hy => by
    obtain ⟨y0, hc⟩ := he 0 (by simp)
    simp only [Nat.add_zero] at hc
    obtain ⟨hn, u, c1, c2, _⟩ := hA.cell n off y0 hc
    obtain ⟨h1, h2⟩ := hy 0 y rfl
    simp only [List.getD_cons_zero] at h1 h2
    obtain ⟨hA', ev⟩ := hA.set1 hc h1
    obtain ⟨w', k1, k2⟩ := run_stores ys vs (off + 1) base (i + 1) _ _ (by omega) hA' (fun j hj => by
      obtain ⟨y1, hy1⟩ := he (j + 1) (by simp; omega)
      refine ⟨y1, ?_⟩
      simp only [ovr, fnd, Key.cell.injEq]
      rw [if_neg (by omega)]
      rw [show off + 1 + j = off + (j + 1) by omega]
      exact hy1) (by simpa using hl) (fun j y' hj => by
      obtain ⟨a1, a2⟩ := hy (j + 1) y' (by simpa using hj)
      simp only [List.getD_cons_succ] at a1 a2
      exact ⟨a1.evo ev, a2⟩)
    refine ⟨w', ?_, by rw [← crow_step]; exact k2⟩
    have hst : (store ((⟨G.ρ n, base, none⟩ : Addr).add i) v).run P w = .ok () (w.setCell ⟨G.ρ n, off, none⟩ v) := by
      rw [add_none, hb, run_store P w _ v _ h2, c1]
      simp [c2]
    simp only [storeCells, Sem.run_bind, hst, Result.andThen_ok]
    exact k1
theorem op_store {t : TypeId} {ti : TI} {x v : Operand} {r r1 r2 r3 : Row} {n off : Nat} {y : AV} {ys : List AV} (ho : o.op = .store t x v) (ht : T.f t = some ti) (hx : opd L x = some (r, .ptr n off)) (hv : opd L v = some (r1, y)) (hs : spread L y = some (r2, ys)) (hl : ys.length = ti.size)
    (he : ex L n off ti.size = some r3) (hdst : o.dst = none) : OpOk P C o ⟨r ++ (r1 ++ (r2 ++ r3)), crow n off ys⟩ := by
  intro σ a w K ⟨G, hA⟩ hr hK
  have e1 := opd_ok hx hA hr.left
  have e2 := opd_ok hv hA hr.right.left
  obtain ⟨k1, k2⟩ := spread_ok hs hA (hr.right.right.left) e2
  have k3 := ex_ok he (hr.right.right.right)
  obtain ⟨w', h1, h2⟩ := run_stores (P := P) (n := n) ys (a.eval v).cells.toList off off 0 σ w (by omega) hA (fun j hj => k3 j (by omega)) (by simpa using k1) (fun j y hj => by
    obtain ⟨a1, a2⟩ := k2 j y hj
    have : (a.eval v).cells.toList.getD j undef = (a.eval v).cells.getD j undef := by simp [List.getD, Array.getD_eq_getD_getElem?]
    rw [this]; exact ⟨a1, a2⟩)
  have hsz := (T.ok t ti ht).run_size w
  have hne : (a.eval v).cells.size = ti.size := by rw [k1, hl]
  have e : (execOp a.eval o).run P w = .ok .skip w' := by
    simp only [execOp, ho]
    rw [show a.eval x = .pointer (some ⟨G.ρ n, off, none⟩) from e1.rep]
    simp [Instr.storeAt, Instr.sureAddr, storeVar, hsz, hne, h1]
  refine ⟨fun c => by simp [ho], .inr (.inl ⟨w', e, ?_⟩)⟩
  rw [hdst]
  exact hK _ _ ⟨G, h2⟩
theorem ex_rd {n : Nat} : ∀ {c off : Nat} {r : Row}, ex L n off c = some r → Rd L r
  | 0, off, r, h => by simp only [ex, Option.some.injEq] at h; rw [← h]; exact Rd.nil
  | c + 1, off, r, h => by
    unfold ex at h
    split at h
    · rename_i x hx
      rw [Option.map_eq_some_iff] at h
      obtain ⟨r', h1, rfl⟩ := h
      exact Rd.cons hx (ex_rd h1)
    · cases h
end

section
variable {P : Program} {C : Cx} {G : Gh} {σ : St} {a : Act} {w : World} {o : Oper} {L : St} {T : Tab P}
def CR (G : Gh) (σ : St) (w : World) (arr : Array Value) (cs : List (List Nat × D)) : Prop :=
  arr.size = cs.length ∧ ∀ (i : Nat) (zs : List Nat) (x : D), cs[i]? = some (zs, x) → (∀ z ∈ zs, Uz σ z) ∧ ((∀ z ∈ zs, Lv σ z) → RepD (G.zu zs) w (arr.getD i undef) x)
def raws (l : List D) : List (List Nat × D) := l.map fun d => ([], d)
theorem raws_cr (arr : Array Value) (hs : List (Option Nat)) : CR G σ w arr (raws (zds arr.toList hs)) := by
  refine ⟨by simp [raws, zds_len], fun i zs x hi => ?_⟩
  simp only [raws, List.getElem?_map, Option.map_eq_some_iff, Prod.mk.injEq] at hi
  obtain ⟨d, hi, rfl, rfl⟩ := hi
  obtain ⟨v, hv, hd'⟩ := zds_get _ _ _ _ hi
  rw [Array.getElem?_toList] at hv
  rw [Array.getD_eq_getD_getElem?, hv]
  exact ⟨fun z hz => absurd hz (by simp), fun _ => hd' _ _⟩
theorem cells_one {v : Value} (h : v.oneCell' = true) : v.cells = #[v] := by cases v <;> simp_all [Value.cells, Value.oneCell']
def spreadD (L : St) : AV → Option (Row × List (List Nat × D))
  | .agg cs => if cs.all fun c => ocD c.2 then some ([], cs) else none
  | x => match spread1 L x, hdd L x with
    | some r, some y => some (r ++ y.1, [y.2])
    | _, _ => none
theorem spreadD_ok {x : AV} {r : Row} {cs : List (List Nat × D)} {v : Value} (h : spreadD L x = some (r, cs)) (hA : ASG C G σ a w) (hr : Rd σ r) (hx : Rep G σ w v x) : CR G σ w v.cells cs := by
  have one : ∀ {x : AV} {r : Row} {cs : List (List Nat × D)}, (match spread1 L x, hdd L x with | some r, some y => some (r ++ y.1, [y.2]) | _, _ => none) = some (r, cs) → Rd σ r → Rep G σ w v x → CR G σ w v.cells cs := by
    intro x r cs h hr hx
    split at h
    · rename_i r1 y h1 h2
      simp only [Option.some.injEq, Prod.mk.injEq] at h
      obtain ⟨rfl, rfl⟩ := h
      obtain ⟨y1, y2, y3⟩ := y
      rw [cells_one (spread1_ok h1 hA hr.left hx)]
      refine ⟨rfl, fun i zs' x' hi => ?_⟩
      cases i with
      | zero =>
        simp only [List.getElem?_cons_zero, Option.some.injEq, Prod.mk.injEq] at hi
        obtain ⟨rfl, rfl⟩ := hi
        exact hdd_ok h2 hA hr.right hx
      | succ i => simp at hi
    · cases h
  cases x with
  | agg cs' =>
    simp only [spreadD] at h
    split at h
    · simp only [Option.some.injEq, Prod.mk.injEq] at h
      obtain ⟨_, rfl⟩ := h
      obtain ⟨vs, rfl, e, k⟩ := hx.rep
      exact ⟨e, fun i zs x hi => ⟨fun z hz => hx.ok _ (List.mem_of_getElem? hi) z hz, k i zs x hi⟩⟩
    · cases h
  | _ => exact one (by simpa only [spreadD] using h) hr hx
theorem spreadD_rd {x : AV} {r : Row} {cs : List (List Nat × D)} (h : spreadD L x = some (r, cs)) : Rd L r := by
  have one : ∀ {x : AV} {r : Row} {cs : List (List Nat × D)}, (match spread1 L x, hdd L x with | some r, some y => some (r ++ y.1, [y.2]) | _, _ => none) = some (r, cs) → Rd L r := by
    intro x r cs h
    split at h
    · rename_i h1 h2
      simp only [Option.some.injEq, Prod.mk.injEq] at h
      rw [← h.1]; exact Rd.app (spread1_rd h1) (hdd_rd h2)
    · cases h
  cases x with
  | agg cs' =>
    simp only [spreadD] at h
    split at h
    · simp only [Option.some.injEq, Prod.mk.injEq] at h; rw [← h.1]; exact Rd.nil
    · cases h
  | _ => exact one (by simpa only [spreadD] using h)
theorem foldset (off : Nat) : ∀ (l : List Value) (k : Nat) (cells : Array Value), off + k + l.length ≤ cells.size →
    ((l.zipIdx k).foldl (fun cs (p : Value × Nat) => cs.setIfInBounds (off + p.2) p.1) cells).size = cells.size ∧
    ∀ i, ((l.zipIdx k).foldl (fun cs (p : Value × Nat) => cs.setIfInBounds (off + p.2) p.1) cells).getD i undef = if off + k ≤ i ∧ i < off + k + l.length then l.getD (i - (off + k)) undef else cells.getD i undef
  | [], k, cells, h => ⟨rfl, fun i => by rw [if_neg (by simp)]; rfl⟩
  | v :: l, k, cells, h => by
    simp only [List.length_cons] at h
    rw [List.zipIdx_cons, List.foldl_cons]
    obtain ⟨h1, h2⟩ := foldset off l (k + 1) (cells.setIfInBounds (off + k) v) (by simp; omega)
    refine ⟨by rw [h1]; simp, fun i => ?_⟩
    rw [h2 i]
    by_cases hi : i = off + k
    · subst hi
      rw [if_neg (by omega), if_pos (by simp)]
      have : off + k < cells.size := by omega
      simp [Array.getD_eq_getD_getElem?, Array.getElem?_setIfInBounds, this]
    · by_cases hr : off + (k + 1) ≤ i ∧ i < off + (k + 1) + l.length
      · rw [if_pos hr, if_pos (by simp; omega), show i - (off + k) = (i - (off + (k + 1))) + 1 by omega]
        simp
      · rw [if_neg hr, if_neg (by simp; omega)]
        simp only [Array.getD_eq_getD_getElem?]
        rw [Array.getElem?_setIfInBounds_ne (by omega)]
def setR (cs : List (List Nat × D)) (off : Nat) (ds : List (List Nat × D)) : List (List Nat × D) := cs.take off ++ (ds ++ cs.drop (off + ds.length))
theorem CR.set {arr : Array Value} {cs ds : List (List Nat × D)} {v : Value} {off : Nat} (h : CR G σ w arr cs) (hv : CR G σ w v.cells ds) (hl : off + ds.length ≤ cs.length) :
    CR G σ w (v.cells.zipIdx.foldl (fun cs (c, j) => cs.setIfInBounds (off + j) c) arr) (setR cs off ds) := by
  have e : v.cells.zipIdx.foldl (fun cs (c, j) => cs.setIfInBounds (off + j) c) arr = (v.cells.toList.zipIdx 0).foldl (fun cs (p : Value × Nat) => cs.setIfInBounds (off + p.2) p.1) arr := by
    rw [← Array.foldl_toList, Array.toList_zipIdx]
  obtain ⟨h1, h2⟩ := foldset off v.cells.toList 0 arr (by simp [hv.1, h.1]; omega)
  rw [e]
  refine ⟨by rw [h1, h.1]; simp [setR]; omega, fun i zs x hi => ?_⟩
  rw [h2 i]
  simp only [Array.length_toList, hv.1, Nat.add_zero]
  simp only [setR] at hi
  by_cases c1 : i < off
  · rw [if_neg (by omega)]
    rw [List.getElem?_append_left (by simp; omega), List.getElem?_take, if_pos c1] at hi
    exact h.2 i zs x hi
  · rw [List.getElem?_append_right (by simp; omega)] at hi
    simp only [List.length_take, Nat.min_eq_left (show off ≤ cs.length by omega)] at hi
    by_cases c2 : i < off + ds.length
    · rw [if_pos (by omega)]
      rw [List.getElem?_append_left (by omega)] at hi
      have := hv.2 (i - off) zs x hi
      simpa [List.getD, Array.getD_eq_getD_getElem?] using this
    · rw [if_neg (by omega)]
      rw [List.getElem?_append_right (by omega), List.getElem?_drop] at hi
      rw [show off + ds.length + (i - off - ds.length) = i by omega] at hi
      exact h.2 i zs x hi
def fillO (L : St) (pl : Nat → Option (Nat × Nat)) : List (List Nat × D) → List (Nat × Operand) → Option (Row × List (List Nat × D))
  | cs, [] => some ([], cs)
  | cs, (i, x) :: rest => match pl i, opd L x with
    | some (off, size), some (r, y) => match spreadD L y with
      | some (r', ds) => if ds.length = size ∧ off + ds.length ≤ cs.length then match fillO L pl (setR cs off ds) rest with
          | some (r'', cs') => some (r ++ (r' ++ r''), cs')
          | none => none
        else none
      | none => none
    | _, _ => none
theorem fillO_ok {pl : Nat → Option (Nat × Nat)} : ∀ {ps : List (Nat × Operand)} {cs cs' : List (List Nat × D)} {r : Row} {arr : Array Value}, fillO L pl cs ps = some (r, cs') → ASG C G σ a w → Rd σ r → CR G σ w arr cs →
    ∃ arr', Instr.fill pl arr (ps.map fun p => (p.1, a.eval p.2)) = some arr' ∧ CR G σ w arr' cs'
  | [], cs, cs', r, arr, h, _, _, hc => by
    simp only [fillO, Option.some.injEq, Prod.mk.injEq] at h
    obtain ⟨_, rfl⟩ := h
    exact ⟨arr, rfl, hc⟩
  | (i, x) :: rest, cs, cs', r, arr, h, hA, hr, hc => by
    unfold fillO at h
    split at h
    · rename_i off size r1 y hp hx
      split at h
      · rename_i r2 ds hs
        split at h
        · rename_i hsz
          split at h
          · rename_i r3 cs2 hf
            simp only [Option.some.injEq, Prod.mk.injEq] at h
            obtain ⟨rfl, rfl⟩ := h
            have hv := spreadD_ok hs hA hr.right.left (opd_ok hx hA hr.left)
            obtain ⟨arr', k1, k2⟩ := fillO_ok hf hA (hr.right.right) (hc.set hv hsz.2)
            refine ⟨arr', ?_, k2⟩
            simp only [List.map_cons, Instr.fill, hp]
            rw [if_neg (by rw [hv.1, hc.1]; simp; omega)]
            exact k1
          · cases h
        · cases h
      · cases h
    · cases h
def placesT {P : Program} (T : Tab P) : List (Nat × TypeId) → Option (List (Nat × Nat))
  | [] => some []
  | (off, t) :: fs => match T.f t, placesT T fs with
    | some ti, some l => some ((off, ti.size) :: l)
    | _, _ => none
theorem placesT_ok : ∀ {fl : List Field} {pl : List (Nat × Nat)}, placesT T (fl.map fun f => (f.offset, f.type)) = some pl → fl.mapM (fun f => (P.info? f.type).map fun i => (f.offset, i.size)) = some pl
  | [], pl, h => by simpa [placesT] using h
  | f :: fl, pl, h => by
    simp only [List.map_cons, placesT] at h
    split at h
    · rename_i ti l h1 h2
      simp only [Option.some.injEq] at h
      subst h
      obtain ⟨x, q1, q2, q3, q4⟩ := (T.ok _ ti h1).get
      simp [List.mapM_cons, q1, q3, placesT_ok h2]
    · cases h
theorem op_build {t : TypeId} {ti : TI} {fs : List (Nat × TypeId)} {ps : Array (Nat × Operand)} {pl : List (Nat × Nat)} {r : Row} {cs : List (List Nat × D)} (ho : o.op = .build t ps) (ht : T.f t = some ti) (hsh : ti.sh = .struct fs) (hp : placesT T fs = some pl)
    (hf : fillO L (fun i => pl[i]?) (raws (zds ti.zero.cells.toList ti.hint)) ps.toList = some (r, cs)) (hd : ∀ d, o.dst = some d → d < C.N) : OpOk P C o ⟨r, wr o.dst (.agg cs)⟩ := by
  refine OpOk.pure (fun c => by simp [ho]) hd fun G σ a w hA hr => ?_
  obtain ⟨arr', k1, k2⟩ := fillO_ok hf hA hr (raws_cr (G := G) (σ := σ) (w := w) ti.zero.cells ti.hint)
  obtain ⟨x, q1, q2, q3, q4⟩ := (T.ok t ti ht).get
  obtain ⟨fl, h1, h2⟩ := (T.ok t ti ht).struct hsh
  rw [← h2] at hp
  have hb : P.built t (ps.map fun p => (p.1, a.eval p.2)).toList = some arr' := by
    unfold Program.built
    simp only [q1, h1, q2, placesT_ok hp]
    simpa using k1
  refine ⟨.agg arr', ?_, rep_agg k2.2 k2.1⟩
  simp only [execOp, ho]
  rw [Sem.run_bind, run_build w t _ arr' hb]
  rfl
theorem op_buildA {t e : TypeId} {ti ei : TI} {n : Nat} {ps : Array (Nat × Operand)} {r : Row} {cs : List (List Nat × D)} (ho : o.op = .build t ps) (ht : T.f t = some ti) (hsh : ti.sh = .arr n e) (he : T.f e = some ei)
    (hf : fillO L (fun i => some (i * ei.size, ei.size)) (raws (zds ti.zero.cells.toList ti.hint)) ps.toList = some (r, cs)) (hd : ∀ d, o.dst = some d → d < C.N) : OpOk P C o ⟨r, wr o.dst (.agg cs)⟩ := by
  refine OpOk.pure (fun c => by simp [ho]) hd fun G σ a w hA hr => ?_
  obtain ⟨arr', k1, k2⟩ := fillO_ok hf hA hr (raws_cr (G := G) (σ := σ) (w := w) ti.zero.cells ti.hint)
  obtain ⟨x, q1, q2, q3, q4⟩ := (T.ok t ti ht).get
  obtain ⟨d, hu, h2⟩ := (T.ok t ti ht).und
  rw [hsh] at h2
  cases d <;> simp [shp] at h2
  obtain ⟨g1, g2⟩ := h2
  rw [g1, g2] at hu
  obtain ⟨x', q1', q2', q3', q4'⟩ := (T.ok e ei he).get
  have hb : P.built t (ps.map fun p => (p.1, a.eval p.2)).toList = some arr' := by
    unfold Program.built
    simp only [q1, hu, q2, q1', q3']
    simpa using k1
  refine ⟨.agg arr', ?_, rep_agg k2.2 k2.1⟩
  simp only [execOp, ho]
  rw [Sem.run_bind, run_build w t _ arr' hb]
  rfl
def zc : Nat → List D → List (List Nat × D)
  | 0, _ => []
  | n + 1, z => raws z ++ zc n z
theorem zc_len : ∀ (n : Nat) (z : List D), (zc n z).length = n * z.length
  | 0, z => by simp [zc]
  | n + 1, z => by simp [zc, raws, zc_len n z, Nat.add_mul]; omega
theorem zc_get : ∀ (n : Nat) (z : List D) (i : Nat) (zs : List Nat) (x : D), (zc n z)[i]? = some (zs, x) → zs = [] ∧ ∃ u, z[i % z.length]? = some u ∧ x = u
  | 0, z, i, zs, x, h => by simp [zc] at h
  | n + 1, z, i, zs, x, h => by
    simp only [zc] at h
    by_cases hi : i < z.length
    · rw [List.getElem?_append_left (by simpa [raws] using hi)] at h
      simp only [raws, List.getElem?_map, Option.map_eq_some_iff, Prod.mk.injEq] at h
      obtain ⟨v, h1, rfl, rfl⟩ := h
      exact ⟨rfl, v, by rw [Nat.mod_eq_of_lt hi]; exact h1, rfl⟩
    · rw [List.getElem?_append_right (by simp [raws]; omega)] at h
      obtain ⟨h1, u, h2, h3⟩ := zc_get n z _ zs x h
      refine ⟨h1, u, ?_, h3⟩
      simp only [raws, List.length_map] at h2
      rw [Nat.mod_eq_sub_mod (by omega)]
      exact h2
def chunk (esz : Nat) : Nat → List D → List (List D)
  | 0, _ => []
  | n + 1, l => l.take esz :: chunk esz n (l.drop esz)
theorem chunk_len (esz : Nat) : ∀ (n : Nat) (l : List D), (chunk esz n l).length = n
  | 0, l => rfl
  | n + 1, l => by simp [chunk, chunk_len esz n]
theorem chunk_get (esz : Nat) : ∀ (n : Nat) (l : List D) (i : Nat) (row : List D), (chunk esz n l)[i]? = some row → row = (l.drop (i * esz)).take esz
  | 0, l, i, row, h => by simp [chunk] at h
  | n + 1, l, i, row, h => by
    cases i with
    | zero => simpa [chunk] using h.symm
    | succ i =>
      have := chunk_get esz n _ i row (by simpa [chunk] using h)
      rw [this, List.drop_drop, Nat.add_mul]
      congr 2
      omega
def zsAll (cs : List (List Nat × D)) : List Nat := cs.flatMap (·.1)
theorem fillO_rd {pl : Nat → Option (Nat × Nat)} : ∀ {ps : List (Nat × Operand)} {cs cs' : List (List Nat × D)} {r : Row}, fillO L pl cs ps = some (r, cs') → Rd L r
  | [], cs, cs', r, h => by simp only [fillO, Option.some.injEq, Prod.mk.injEq] at h; rw [← h.1]; exact Rd.nil
  | (i, x) :: rest, cs, cs', r, h => by
    unfold fillO at h
    split at h
    · rename_i hx
      split at h
      · rename_i hs
        split at h
        · split at h
          · rename_i hf
            simp only [Option.some.injEq, Prod.mk.injEq] at h
            rw [← h.1]
            exact Rd.app (opd_rd hx) (Rd.app (spreadD_rd hs) (fillO_rd hf))
          · cases h
        · cases h
      · cases h
    · cases h
theorem fillO_len {pl : Nat → Option (Nat × Nat)} : ∀ {ps : List (Nat × Operand)} {c c' : List (List Nat × D)} {r : Row}, fillO L pl c ps = some (r, c') → c'.length = c.length
  | [], c, c', r, h => by simp only [fillO, Option.some.injEq, Prod.mk.injEq] at h; rw [h.2]
  | (i, x) :: ps, c, c', r, h => by
    unfold fillO at h
    split at h
    · split at h
      · split at h
        · rename_i hsz
          split at h
          · rename_i hf'
            simp only [Option.some.injEq, Prod.mk.injEq] at h
            rw [← h.2, fillO_len hf']
            simp [setR]
            omega
          · cases h
        · cases h
      · cases h
    · cases h
theorem ASG.addown (h : ASG C G σ a w) {z E sz : Nat} {zs : List Nat} {rows : List (List D)} {v : Value} {dst : Option Tmp} (hz : σ (.zn z) = .zn .free) (hh : σ (.hd z) = .hd .free) (z0 : z ∉ C.pz) (hzs : ∀ y ∈ zs, Uz σ y)
    (hm : ∀ g, v.ownBlock = some g → Mine C G σ w g) (hrow : RowAt (G.zu zs) w v E sz rows (∀ y ∈ zs, Lv σ y)) (hd : ∀ d, dst = some d → d < C.N) :
    AS C (ovr σ (wr dst (.own z) ++ [(.hd z, .hd (.own E sz z zs rows)), (.zn z, .zn .live)])) (a.put dst v) w := by
  obtain ⟨vals, k1, k2, k3, k4⟩ := hrow
  have soft : ∀ g, v.ownBlock = some g → Soft w g := fun g hg => by
    rcases k1.2 with ⟨rfl, _⟩ | ⟨g', cap, cur, rfl, _, e, _⟩
    · cases hg
    · simp only [Value.ownBlock, Option.some.injEq] at hg; subst hg; exact .mk e
  obtain ⟨h1, e1⟩ := h.addzone z0 hz (fun g => v.ownBlock = some g) fun g hg => ⟨hm g hg, soft g hg⟩
  have lz : Lv (ovr σ [(.zn z, .zn .live)]) z := by unfold Lv; exact ovr_one _ _ _
  have nz : ∀ y ∈ zs, y ≠ z := fun y hy e => hzs y hy (e ▸ hz)
  obtain ⟨h2, e2⟩ := h1.addhd (n := z) (E := E) (sz := sz) (y := z) (zs := zs) (rows := rows) (by rw [ovr_one_ne _ _ _ (by simp)]; exact hh) v lz.used (fun y hy => e1.uz y (hzs y hy)) (fun _ => ⟨fun g => by simp, vals, k1, k2, k3, fun hl i r j x hi hj => by
    have hl' : ∀ y ∈ zs, Lv σ y := fun y hy => by
      have := hl y hy
      unfold Lv at this ⊢
      rw [ovr_one_ne _ _ _ (by simpa using nz y hy)] at this
      exact this
    exact (k4 hl' i r j x hi hj).mono fun g ⟨y, hy, hg⟩ => ⟨y, hy, by simpa [nz y hy] using hg⟩⟩)
  have h3 := h2.put (dst := dst) (v := v) (x := .own z) hd ⟨by show Uh _ z; unfold Uh; rw [ovr_one]; simp, fun _ => by simp⟩
  rw [ovr_ovr, ovr_ovr] at h3
  exact ⟨_, by simpa using h3⟩
theorem op_rows {t e : TypeId} {ti ei : TI} {n : Nat} {ps : Array (Nat × Operand)} {r r' : Row} {cs : List (List Nat × D)} {z : Nat} (ho : o.op = .buildSlice t n ps) (ht : T.f t = some ti) (hsh : ti.sh = .slice e) (he : T.f e = some ei) (hz0 : ei.zero.cells.size = ei.size) (hsm : n * ei.size ≤ 16777216) (hpos : 0 < ei.size) (hn : n ≤ maxI)
    (hf : fillO L (fun i => some (i * ei.size, ei.size)) (zc n (zds ei.zero.cells.toList ei.hint)) ps.toList = some (r, cs)) (hoc : (cs.all fun c => ocD c.2) = true) (hzr : zr L (zsAll cs) = some r') (hz : L (.zn z) = .zn .free) (hh : L (.hd z) = .hd .free) (z0 : z ∉ C.pz) (hd : ∀ d, o.dst = some d → d < C.N) :
    OpOk P C o ⟨(.zn z, .zn .free) :: (.hd z, .hd .free) :: (r ++ r'), wr o.dst (.own z) ++ [(.hd z, .hd (.own e ei.size z (zsAll cs) (chunk ei.size n (cs.map (·.2.nrm))))), (.zn z, .zn .live)]⟩ := by
  intro σ a w K ⟨G, hA⟩ hr hK
  have hz' := hr.head
  have hh' := hr.tail.head
  have hl := zr_ok hzr hr.tail.tail.right
  have hrun0 : CR G σ w ((Array.range (n * ei.size)).map fun i => ei.zero.cells[i % ei.zero.cells.size]!) (zc n (zds ei.zero.cells.toList ei.hint)) := by
    refine ⟨by simp [zc_len, zds_len, hz0], fun i zs x hi => ?_⟩
    have hlt : i < n * ei.size := by
      have := (List.getElem?_eq_some_iff.1 hi).1
      rw [zc_len, zds_len] at this
      simpa [hz0] using this
    obtain ⟨rfl, d0, hi1, rfl⟩ := zc_get _ _ _ _ _ hi
    obtain ⟨u, h1, hd0⟩ := zds_get _ _ _ _ hi1
    rw [zds_len] at h1
    refine ⟨fun z hz => absurd hz (by simp), fun _ => ?_⟩
    simp only [Array.length_toList, Array.getElem?_toList] at h1
    have e : ((Array.range (n * ei.size)).map fun i => ei.zero.cells[i % ei.zero.cells.size]!).getD i undef = u := by
      have hm : i % ei.zero.cells.size < ei.zero.cells.size := Nat.mod_lt _ (by omega)
      rw [Array.getElem?_eq_getElem hm] at h1
      simp only [Option.some.injEq] at h1
      simp [Array.getD_eq_getD_getElem?, hlt, getElem!_pos, hm, h1]
    rw [e]
    exact hd0 _ _
  obtain ⟨arr, k1, k2⟩ := fillO_ok hf hA hr.tail.tail.left hrun0
  have hu := (T.ok t ti ht).slice hsh
  have h2 := (T.ok e ei he).run_size w
  have h3 := (T.ok e ei he).run_zero w
  have hlen : cs.length = n * ei.size := by
    rw [fillO_len hf, zc_len, zds_len]
    simp [hz0]
  have er : (execOp a.eval o).run P w = .ok (.value (.slice (some ⟨w.heap.size, 0, none⟩) n n)) (w.alloc (.cells arr e)) := by
    simp only [execOp, ho]
    have k1' : Instr.fill (fun i => some (i * ei.size, ei.size)) ((Array.range (n * ei.size)).map fun i => ei.zero.cells[i % ei.zero.cells.size]!) (ps.map fun p => (p.1, a.eval p.2)).toList = some arr := by simpa using k1
    by_cases h0 : n * ei.size = 0
    · rw [h0] at k1'
      simp only [Instr.buildSlice, Sem.run_bind, run_underlying hu, Result.andThen_ok, h2, h0]
      simp only [Nat.reducePow, gt_iff_lt, Nat.not_lt_zero, if_false, if_true, Sem.run_bind, Sem.run_pure, Result.andThen_ok]
      have : Instr.fill (fun i => some (i * ei.size, ei.size)) ((Array.range 0).map fun i => (#[] : Array Value)[i % (#[] : Array Value).size]!) (ps.map fun p => (p.1, a.eval p.2)).toList = some arr := by
        rw [show ((Array.range 0).map fun i => (#[] : Array Value)[i % (#[] : Array Value).size]!) = ((Array.range 0).map fun i => ei.zero.cells[i % ei.zero.cells.size]!) from by apply Array.ext <;> simp]
        exact k1'
      simp only [this, Sem.run_bind, Sem.run_pure, Result.andThen_ok, newRow, run_newObj]
      rfl
    · simp only [Instr.buildSlice, Sem.run_bind, run_underlying hu, Result.andThen_ok, h2]
      rw [if_neg (by simp; omega), if_neg h0]
      simp only [Sem.run_bind, Sem.run_pure, Result.andThen_ok, h3, k1', newRow, run_newObj]
      rfl
  obtain ⟨hA1, ev⟩ := hA.below (below_alloc w (.cells arr e))
  refine ⟨fun c => by simp [ho], .inl ⟨_, _, er, hK _ _ (hA1.addown hz' hh' z0 (lv_uz hl) (fun g hg => ?_) ?_ hd)⟩⟩
  · simp only [Value.ownBlock, Option.some.injEq] at hg
    subst hg
    exact hA.fresh (Nat.le_refl _) (by simp)
  · have hsz : arr.size = n * ei.size := by rw [k2.1, hlen]
    refine ⟨arr.toList, ⟨by simp [hsz, chunk_len], .inr ⟨w.heap.size, n, arr, by rw [chunk_len], Nat.zero_le _, heap_alloc_new w _, by rw [chunk_len]; exact Nat.le_refl _, (by have := hn; unfold maxI at this; unfold maxLen; omega), hsz, by rw [chunk_len, ← hsz, ← Array.length_toList, List.take_length]⟩⟩, fun u hu => ?_, fun i row hi => ?_, fun hl' i row j x hi hj => ?_⟩
    · obtain ⟨i, hi⟩ := List.mem_iff_getElem?.1 hu
      have hi' : i < cs.length := by rw [hlen, ← hsz]; simpa using (List.getElem?_eq_some_iff.1 hi).1
      obtain ⟨⟨zs, x⟩, hx⟩ : ∃ y, cs[i]? = some y := ⟨_, List.getElem?_eq_getElem hi'⟩
      have hr := (k2.2 i zs x hx).2 fun y hy => hl y (List.mem_flatMap.2 ⟨(zs, x), List.mem_of_getElem? hx, hy⟩)
      rw [List.all_eq_true] at hoc
      have := ocD_ok (hoc _ (List.mem_of_getElem? hx)) hr
      rw [Array.getElem?_toList] at hi
      rw [Array.getD_eq_getD_getElem?, hi] at this
      exact this
    all_goals
      have hi' : i < n := by have := (List.getElem?_eq_some_iff.1 hi).1; rwa [chunk_len] at this
      have hle : (i + 1) * ei.size ≤ n * ei.size := Nat.mul_le_mul_right _ hi'
      rw [Nat.add_mul, Nat.one_mul] at hle
      have hrow := chunk_get _ _ _ _ _ hi
      subst hrow
    · simp; omega
    · have hj' : j < ei.size := by have := (List.getElem?_eq_some_iff.1 hj).1; simp at this; omega
      rw [List.getElem?_take, if_pos hj', List.getElem?_drop, List.getElem?_map, Option.map_eq_some_iff] at hj
      obtain ⟨⟨zs, y⟩, hy, rfl⟩ := hj
      have hzs : ∀ y' ∈ zs, y' ∈ zsAll cs := fun y' hy' => List.mem_flatMap.2 ⟨(zs, y), List.mem_of_getElem? hy, hy'⟩
      have := (k2.2 _ zs y hy).2 (fun y' hy' => hl y' (hzs y' hy'))
      have e3 : arr.toList.getD (i * ei.size + j) undef = arr.getD (i * ei.size + j) undef := by simp [List.getD, Array.getD_eq_getD_getElem?]
      rw [e3]
      refine (this.nrm).evo fun g hg hlt => ?_
      obtain ⟨y', hy', hg⟩ := hg
      exact ⟨⟨y', hzs y' hy', hg⟩, (below_alloc w (.cells arr e)).block g hlt⟩
end

def CtA (Z : Zone) (w w' : World) (v : Value) : Option TypeId → Res → Prop
  | none, res => RepR Z w' v res
  | some E, .one (.c (.s sz rows)) => RowAt Z w' v E sz rows True ∧ ∀ g, v.ownBlock = some g → w.heap.size ≤ g ∧ ¬ Z g
  | some _, _ => False
def CtR (w : World) (app : Option TypeId) (res : Res) : Ending → World → Prop := fun e w' => ∃ v Zn, e = .returned v ∧ Below w.heap.size w w' ∧ (∀ g, Zn g → w.heap.size ≤ g ∧ Soft w' g) ∧ CtA Zn w w' v app res
def Reps (Z : Zone) (w : World) (vs : Array Value) (args : List DV) : Prop := vs.size = args.length ∧ ∀ (i : Nat) (x : DV), args[i]? = some x → RepDV Z w (vs.getD i undef) x
def Ct (P : Program) (f : FuncId) (args : List DV) (app : Option TypeId) (res : Res) : Prop := ∀ (Z : Zone) (w : World) (vs : Array Value), Reps Z w vs args → Calls P f vs w (CtR w app res)
def Ca (P : Program) (f : FuncId) (args : List DV) (res : Res) : Prop := ∀ (Z : Zone) (w : World) (vs : Array Value), Reps Z w vs args →
  Calls P f vs w fun e w' => ∃ (v : Value) (Zn : Zone), e = .returned v ∧ Below w.heap.size w w' ∧ (∀ g, Zn g → w.heap.size ≤ g ∧ Soft w' g) ∧ RepR (fun g => Z g ∨ Zn g) w' v res
def Co (P : Program) (f : FuncId) (args : List DV) (E : TypeId) (sz : Nat) (rows : List (List D)) : Prop := ∀ (Z : Zone) (w : World) (vs : Array Value), Reps Z w vs args →
  Calls P f vs w fun e w' => ∃ (v : Value) (Zn : Zone), e = .returned v ∧ Below w.heap.size w w' ∧ (∀ g, Zn g → w.heap.size ≤ g ∧ Soft w' g) ∧ RowAt (fun g => Z g ∨ Zn g) w' v E sz rows True ∧ ∀ g, v.ownBlock = some g → w.heap.size ≤ g ∧ ¬ Zn g
def Kt (P : Program) (f : FuncId) (args : List DV) : Prop := ∀ (Z : Zone) (w : World) (vs : Array Value), Reps Z w vs args → (∀ g, Z g → Soft w g) →
  Calls P f vs w fun e w' => e = .returned (.tuple #[]) ∧ Keeps (fun k => ¬ Z k) w w'
def Ku (P : Program) (f : FuncId) (args : List DV) (E sz : Nat) (rows rows' : List (List D)) : Prop := ∀ (Z : Zone) (w : World) (v : Value) (vs : Array Value), RowAt Z w v E sz rows True → (∀ g, v.ownBlock = some g → ¬ Z g) → Reps Z w vs args →
  Calls P f (#[v] ++ vs) w fun e w' => e = .returned (.tuple #[]) ∧ Keeps (fun k => v.ownBlock ≠ some k) w w' ∧ RowAt Z w' v E sz rows' True

section
variable {P : Program} {C : Cx} {G : Gh} {σ : St} {a : Act} {w : World} {o : Oper} {L : St} {T : Tab P}
def zrL (L : St) : List (List Nat × D) → Option Row
  | [] => some []
  | (zs, _) :: cs => match zr L zs, zrL L cs with
    | some r, some r' => some (r ++ r')
    | _, _ => none
theorem zrL_ok : ∀ {cs : List (List Nat × D)} {r : Row}, zrL L cs = some r → Rd σ r → ∀ c ∈ cs, ∀ z ∈ c.1, Lv σ z
  | [], r, _, _, c, hc => by cases hc
  | (zs, x) :: cs, r, h, hr, c, hc => by
    unfold zrL at h
    split at h
    · rename_i r1 r2 h1 h2
      simp only [Option.some.injEq] at h
      subst h
      rcases List.mem_cons.1 hc with rfl | hc
      · exact zr_ok h1 hr.left
      · exact zrL_ok h2 hr.right c hc
    · cases h
theorem zrL_rd : ∀ {cs : List (List Nat × D)} {r : Row}, zrL L cs = some r → Rd L r
  | [], r, h => by simp only [zrL, Option.some.injEq] at h; rw [← h]; exact Rd.nil
  | (zs, x) :: cs, r, h => by
    unfold zrL at h
    split at h
    · rename_i h1 h2
      simp only [Option.some.injEq] at h
      rw [← h]; exact Rd.app (zr_rd h1) (zrL_rd h2)
    · cases h
def dvOf (L : St) : AV → Option (Row × List Nat × DV)
  | .agg cs => (zrL L cs).map fun r => (r, zsAll cs, .agg (cs.map (·.2.nrm)))
  | x => match hdd L x with
    | some (r, zs, d) => (zr L zs).map fun r' => (r ++ r', zs, .c d.nrm)
    | none => none
theorem dvOf_ok {x : AV} {r : Row} {zs : List Nat} {d : DV} {v : Value} (h : dvOf L x = some (r, zs, d)) (hA : ASG C G σ a w) (hr : Rd σ r) (hx : Rep G σ w v x) : (∀ z ∈ zs, Lv σ z) ∧ RepDV (G.zu zs) w v d := by
  have one : ∀ {x : AV}, (match hdd L x with | some (r, zs, d) => (zr L zs).map fun r' => (r ++ r', zs, DV.c d.nrm) | none => none) = some (r, zs, d) → Rep G σ w v x → (∀ z ∈ zs, Lv σ z) ∧ RepDV (G.zu zs) w v d := by
    intro x h hx
    split at h
    · rename_i r1 zs' d' h1
      simp only [Option.map_eq_some_iff, Prod.mk.injEq] at h
      obtain ⟨r2, h2, rfl, rfl, rfl⟩ := h
      have hl := zr_ok h2 hr.right
      exact ⟨hl, ((hdd_ok h1 hA hr.left hx).2 hl).nrm⟩
    · cases h
  cases x with
  | agg cs =>
    simp only [dvOf, Option.map_eq_some_iff, Prod.mk.injEq] at h
    obtain ⟨r', h1, rfl, rfl, rfl⟩ := h
    have hl := zrL_ok h1 hr
    obtain ⟨vs, e, e2, k⟩ := hx.rep
    refine ⟨fun z hz => ?_, vs, e, by simp [e2], fun i x hi => ?_⟩
    · obtain ⟨c, hc, hz⟩ := List.mem_flatMap.1 hz
      exact hl c hc z hz
    · rw [List.getElem?_map, Option.map_eq_some_iff] at hi
      obtain ⟨⟨zs, y⟩, hi, rfl⟩ := hi
      have hz := hl _ (List.mem_of_getElem? hi)
      exact ((k i zs y hi hz).nrm).mono fun g ⟨z, hz, hg⟩ => ⟨z, List.mem_flatMap.2 ⟨(zs, y), List.mem_of_getElem? hi, hz⟩, hg⟩
  | _ => exact one (by simpa only [dvOf] using h) hx
theorem dvOf_rd {x : AV} {r : Row} {y : List Nat × DV} (h : dvOf L x = some (r, y)) : Rd L r := by
  have one : ∀ {x : AV}, (match hdd L x with | some (r, zs, d) => (zr L zs).map fun r' => (r ++ r', zs, DV.c d.nrm) | none => none) = some (r, y) → Rd L r := by
    intro x h
    split at h
    · rename_i h1
      simp only [Option.map_eq_some_iff, Prod.mk.injEq] at h
      obtain ⟨r2, h2, rfl, _⟩ := h
      exact Rd.app (hdd_rd h1) (zr_rd h2)
    · cases h
  cases x with
  | agg cs =>
    simp only [dvOf, Option.map_eq_some_iff, Prod.mk.injEq] at h
    obtain ⟨r', h1, rfl, _⟩ := h
    exact zrL_rd h1
  | _ => exact one (by simpa only [dvOf] using h)
def argsOf (L : St) : List Operand → Option (Row × List Nat × List DV)
  | [] => some ([], [], [])
  | x :: xs => match opd L x with
    | some (r, y) => match dvOf L y, argsOf L xs with
      | some (r1, z1, d), some (r2, z2, ds) => some (r ++ (r1 ++ r2), z1 ++ z2, d :: ds)
      | _, _ => none
    | none => none
theorem argsOf_ok : ∀ {xs : List Operand} {r : Row} {zs : List Nat} {ds : List DV}, argsOf L xs = some (r, zs, ds) → ASG C G σ a w → Rd σ r →
    (∀ z ∈ zs, Lv σ z) ∧ xs.length = ds.length ∧ ∀ (i : Nat) (d : DV), ds[i]? = some d → RepDV (G.zu zs) w ((xs.map a.eval).getD i undef) d
  | [], r, zs, ds, h, _, _ => by simp only [argsOf, Option.some.injEq, Prod.mk.injEq] at h; obtain ⟨_, rfl, rfl⟩ := h; simp
  | x :: xs, r, zs, ds, h, hA, hr => by
    unfold argsOf at h
    split at h
    · rename_i r0 y h0
      split at h
      · rename_i r1 z1 d r2 z2 ds' h1 h2
        simp only [Option.some.injEq, Prod.mk.injEq] at h
        obtain ⟨rfl, rfl, rfl⟩ := h
        obtain ⟨e1, e2⟩ := dvOf_ok h1 hA hr.right.left (opd_ok h0 hA hr.left)
        obtain ⟨k0, k1, k2⟩ := argsOf_ok h2 hA hr.right.right
        refine ⟨fun z hz => ?_, by simp [k1], fun i d' hi => ?_⟩
        · rcases List.mem_append.1 hz with hz | hz
          · exact e1 z hz
          · exact k0 z hz
        · cases i with
          | zero =>
            simp only [List.getElem?_cons_zero, Option.some.injEq] at hi; subst hi
            exact e2.mono fun g ⟨z, hz, hg⟩ => ⟨z, List.mem_append_left _ hz, hg⟩
          | succ i =>
            have := k2 i d' (by simpa using hi)
            refine RepDV.mono (Z := G.zu z2) (by simpa using this) fun g ⟨z, hz, hg⟩ => ⟨z, List.mem_append_right _ hz, hg⟩
      · cases h
    · cases h
theorem argsOf_rd : ∀ {xs : List Operand} {r : Row} {y : List Nat × List DV}, argsOf L xs = some (r, y) → Rd L r
  | [], r, y, h => by simp only [argsOf, Option.some.injEq, Prod.mk.injEq] at h; rw [← h.1]; exact Rd.nil
  | x :: xs, r, y, h => by
    unfold argsOf at h
    split at h
    · rename_i h0
      split at h
      · rename_i h1 h2
        simp only [Option.some.injEq, Prod.mk.injEq] at h
        rw [← h.1]
        exact Rd.app (opd_rd h0) (Rd.app (dvOf_rd h1) (argsOf_rd h2))
      · cases h
    · cases h
theorem args_reps {args : Array Operand} {r : Row} {zs : List Nat} {ds : List DV} (h : argsOf L args.toList = some (r, zs, ds)) (hA : ASG C G σ a w) (hr : Rd σ r) : (∀ z ∈ zs, Lv σ z) ∧ Reps (G.zu zs) w (args.map a.eval) ds := by
  obtain ⟨k0, k1, k2⟩ := argsOf_ok h hA hr
  refine ⟨k0, by simpa using k1, fun i x hi => ?_⟩
  have e : (args.map a.eval).getD i undef = (args.toList.map a.eval).getD i undef := by simp [Array.getD_eq_getD_getElem?, List.getD]
  rw [e]; exact k2 i x hi
def callOk (P : Program) (f : FuncId) : Bool := match P.funcs[f]? with
  | some fn => !(fn.name == "runtime.NumGoroutine") && fn.body.isSome
  | none => false
theorem run_call {ρ : Operand → Value} {c : Call} {f : FuncId} {caps : Array Value} {x : Operand} (ho : o.op = .call c) (hc : c.callee = .value x) (hρ : ρ x = .func (.func f) #[] caps) (hf : callOk P f = true) (w : World) : (execOp ρ o).run P w = .ok (.enter f (c.args.map ρ ++ caps)) w := by
  unfold callOk at hf
  split at hf
  · rename_i fn hfn
    simp only [Bool.and_eq_true, Bool.not_eq_true'] at hf
    have hb : fn.body.isNone = false := by cases h : fn.body <;> simp_all
    have hn := hf.1
    simp only [execOp, ho, resolve, hc, hρ, Deferred.ofValue, invoke, callFunc, Sem.run_bind, Sem.run_pure, Result.andThen_ok, run_program, hfn, hn, hb, Bool.false_eq_true, if_false]
    simp
  · cases hf
def D.isV : D → Bool
  | .v _ => true
  | .n _ => true
  | _ => false
def DV.isV : DV → Bool
  | .c x => x.isV
  | .agg cs => cs.all (·.isV)
def Res.isV : Res → Bool
  | .one x => x.isV
  | .tup l => l.all (·.isV)
theorem D.isV_rep {Z Z' : Zone} {w w' : World} {v : Value} {x : D} (hv : x.isV = true) (h : RepD Z w v x) : RepD Z' w' v x := by
  cases x with
  | v u => rw [h.raw]; exact .v u
  | n sz => cases h; exact .n sz
  | _ => cases hv
theorem DV.isV_rep {Z Z' : Zone} {w w' : World} {v : Value} {x : DV} (hv : x.isV = true) (h : RepDV Z w v x) : RepDV Z' w' v x := by
  cases x with
  | c x => exact D.isV_rep hv h
  | agg cs =>
    obtain ⟨vs, e, e2, k⟩ := h
    simp only [DV.isV, List.all_eq_true] at hv
    exact ⟨vs, e, e2, fun i x hi => D.isV_rep (hv x (List.mem_of_getElem? hi)) (k i x hi)⟩
theorem Res.isV_rep {Z Z' : Zone} {w w' : World} {v : Value} {x : Res} (hv : x.isV = true) (h : RepR Z w v x) : RepR Z' w' v x := by
  cases x with
  | one x => exact DV.isV_rep hv h
  | tup l =>
    obtain ⟨vs, e, e2, k⟩ := h
    simp only [Res.isV, List.all_eq_true] at hv
    exact ⟨vs, e, e2, fun i x hi => DV.isV_rep (hv x (List.mem_of_getElem? hi)) (k i x hi)⟩
def atR (zs : List Nat) : Res → AV
  | .one x => atz zs x
  | .tup l => .tup zs l
theorem atR_rep {zs : List Nat} {x : Res} {v : Value} (hu : ∀ z ∈ zs, Uz σ z) (h : RepR (G.zu zs) w v x) : Rep G σ w v (atR zs x) := by
  cases x with
  | one x => exact atz_rep hu h
  | tup l => exact ⟨hu, fun _ => h⟩
def clz (L : St) (x : Operand) : Option (Row × List Nat × FuncId × List DV) := match opd L x with
  | some (r, .c zs (.v (.func (.func f) fi ca))) => if (zs.isEmpty && fi.isEmpty && ca.isEmpty) = true then some (r, [], f, []) else none
  | some (r, .c zs (.f f caps)) => (zr L zs).map fun r' => (r ++ r', zs, f, caps.map .c)
  | _ => none
theorem clz_rd {x : Operand} {r : Row} {y : List Nat × FuncId × List DV} (h : clz L x = some (r, y)) : Rd L r := by
  unfold clz at h
  split at h
  · rename_i h0
    split at h
    · simp only [Option.some.injEq, Prod.mk.injEq] at h
      rw [← h.1]; exact opd_rd h0
    · cases h
  · rename_i h0
    simp only [Option.map_eq_some_iff, Prod.mk.injEq] at h
    obtain ⟨r', h1, rfl, _⟩ := h
    exact Rd.app (opd_rd h0) (zr_rd h1)
  · cases h
theorem clz_ok {x : Operand} {r : Row} {zs : List Nat} {f : FuncId} {cs : List DV} (h : clz L x = some (r, zs, f, cs)) (hA : ASG C G σ a w) (hr : Rd σ r) : (∀ z ∈ zs, Lv σ z) ∧ ∃ caps, a.eval x = .func (.func f) #[] caps ∧ Reps (G.zu zs) w caps cs := by
  unfold clz at h
  split at h
  · rename_i h0
    split at h
    · rename_i hc
      simp only [Bool.and_eq_true, List.isEmpty_iff, Array.isEmpty_iff] at hc
      obtain ⟨⟨rfl, rfl⟩, rfl⟩ := hc
      simp only [Option.some.injEq, Prod.mk.injEq] at h
      obtain ⟨rfl, rfl, rfl, rfl⟩ := h
      have := ((opd_ok h0 hA hr).rep (fun z hz => absurd hz (by simp))).raw
      exact ⟨by simp, #[], this, by simp, fun i x hi => by simp at hi⟩
    · cases h
  · rename_i h0
    simp only [Option.map_eq_some_iff, Prod.mk.injEq] at h
    obtain ⟨r', h1, rfl, rfl, rfl, rfl⟩ := h
    have hl := zr_ok h1 hr.right
    have := (opd_ok h0 hA hr.left).rep hl
    generalize a.eval x = v at this
    cases this with
    | f g caps us hs k =>
      exact ⟨hl, us, rfl, by simp [hs], fun i x hi => by
        rw [List.getElem?_map, Option.map_eq_some_iff] at hi
        obtain ⟨y, hy, rfl⟩ := hi
        exact k i y hy⟩
  · cases h
theorem Reps.app {Z Z' : Zone} {vs us : Array Value} {ds es : List DV} (h : Reps Z w vs ds) (k : Reps Z' w us es) : Reps (fun g => Z g ∨ Z' g) w (vs ++ us) (ds ++ es) := by
  refine ⟨by simp [h.1, k.1], fun i x hi => ?_⟩
  by_cases hlt : i < ds.length
  · rw [List.getElem?_append_left hlt] at hi
    have hv : i < vs.size := by rw [h.1]; exact hlt
    have e : (vs ++ us).getD i undef = vs.getD i undef := by simp [Array.getD_eq_getD_getElem?, Array.getElem?_append, hv]
    rw [e]
    exact (h.2 i x hi).mono fun g hg => .inl hg
  · rw [List.getElem?_append_right (by omega)] at hi
    have hv : ¬ i < vs.size := by rw [h.1]; exact hlt
    have e : (vs ++ us).getD i undef = us.getD (i - ds.length) undef := by
      simp only [Array.getD_eq_getD_getElem?, Array.getElem?_append, hv, if_false, ← h.1]
    rw [e]
    exact (k.2 _ x hi).mono fun g hg => .inr hg
theorem Reps.mono {Z Z' : Zone} {vs : Array Value} {ds : List DV} (h : Reps Z w vs ds) (hz : ∀ g, Z g → Z' g) : Reps Z' w vs ds := ⟨h.1, fun i x hi => (h.2 i x hi).mono hz⟩
def callD (L : St) (x : Operand) (args : List Operand) : Option (Row × List Nat × FuncId × List DV) := match clz L x, argsOf L args with
  | some (r, zs, f, cs), some (r', zs', ds) => some (r ++ r', zs' ++ zs, f, ds ++ cs)
  | _, _ => none
theorem callD_rd {x : Operand} {args : List Operand} {r : Row} {y : List Nat × FuncId × List DV} (h : callD L x args = some (r, y)) : Rd L r := by
  unfold callD at h
  split at h
  · rename_i h1 h2
    simp only [Option.some.injEq, Prod.mk.injEq] at h
    rw [← h.1]; exact Rd.app (clz_rd h1) (argsOf_rd h2)
  · cases h
theorem callD_ok {x : Operand} {args : Array Operand} {ats : Array TypeId} {r : Row} {zs : List Nat} {f : FuncId} {ds : List DV} (ho : o.op = .call { callee := .value x, args := args, argTypes := ats }) (h : callD L x args.toList = some (r, zs, f, ds)) (hf : callOk P f = true) (hA : ASG C G σ a w) (hr : Rd σ r) :
    (∀ z ∈ zs, Lv σ z) ∧ ∃ vs, (execOp a.eval o).run P w = .ok (.enter f vs) w ∧ Reps (G.zu zs) w vs ds := by
  unfold callD at h
  split at h
  · rename_i r1 zs1 f1 cs r2 zs2 ds2 h1 h2
    simp only [Option.some.injEq, Prod.mk.injEq] at h
    obtain ⟨rfl, rfl, rfl, rfl⟩ := h
    obtain ⟨a1, caps, a2, a3⟩ := clz_ok h1 hA hr.left
    obtain ⟨b1, b2⟩ := args_reps h2 hA hr.right
    refine ⟨fun z hz => ?_, _, run_call ho rfl a2 hf w, (b2.app a3).mono fun g hg => ?_⟩
    · rcases List.mem_append.1 hz with hz | hz
      · exact b1 z hz
      · exact a1 z hz
    · rcases hg with ⟨z, hz, hg⟩ | ⟨z, hz, hg⟩
      · exact ⟨z, List.mem_append_left _ hz, hg⟩
      · exact ⟨z, List.mem_append_right _ hz, hg⟩
  · cases h
theorem op_callv {x : Operand} {f : FuncId} {args : Array Operand} {ats : Array TypeId} {r : Row} {zs : List Nat} {ds : List DV} {res : Res} (ho : o.op = .call { callee := .value x, args := args, argTypes := ats }) (hcd : callD L x args.toList = some (r, zs, f, ds)) (hf : callOk P f = true) (hc : Ct P f ds none res) (hv : res.isV = true) (hd : ∀ d, o.dst = some d → d < C.N) :
    OpOk P C o ⟨r, wr o.dst (atR [] res)⟩ := by
  intro σ a w K ⟨G, hA⟩ hr hK
  obtain ⟨_, vs, e, hrep⟩ := callD_ok ho hcd hf hA hr
  refine ⟨fun c => by simp [ho], .inr (.inr ⟨f, vs, w, e, (hc _ w vs hrep).mono ?_⟩)⟩
  rintro e w' ⟨v, Zn, rfl, B, _, hres⟩
  exact ⟨v, rfl, hK _ _ ⟨G, (hA.below B).1.put hd (atR_rep (fun z hz => absurd hz (by simp)) (Res.isV_rep hv hres))⟩⟩
theorem op_call {x : Operand} {f : FuncId} {args : Array Operand} {ats : Array TypeId} {r : Row} {zs : List Nat} {ds : List DV} {res : Res} {z : Nat} (ho : o.op = .call { callee := .value x, args := args, argTypes := ats }) (hcd : callD L x args.toList = some (r, zs, f, ds)) (hf : callOk P f = true) (hc : Ct P f ds none res)
    (z0 : z ∉ C.pz) (hd : ∀ d, o.dst = some d → d < C.N) : OpOk P C o ⟨(.zn z, .zn .free) :: r, wr o.dst (atR [z] res) ++ [(.zn z, .zn .live)]⟩ := by
  intro σ a w K ⟨G, hA⟩ hr hK
  obtain ⟨_, vs, e, hrep⟩ := callD_ok ho hcd hf hA hr.tail
  refine ⟨fun c => by simp [ho], .inr (.inr ⟨f, vs, w, e, (hc _ w vs hrep).mono ?_⟩)⟩
  rintro e w' ⟨v, Zn, rfl, B, hZ, hres⟩
  obtain ⟨h1, e1⟩ := (hA.below B).1.addzone z0 hr.head Zn fun g hg => ⟨hA.fresh (hZ g hg).1 (hZ g hg).2.lt, (hZ g hg).2⟩
  have h2 := h1.put (dst := o.dst) (v := v) (x := atR [z] res) hd (atR_rep (fun y hy => by simp at hy; subst hy; unfold Uz; rw [ovr_one]; simp) ((hres : RepR Zn w' v res).mono fun g hg => ⟨z, by simp, by simpa using hg⟩))
  rw [ovr_ovr] at h2
  exact ⟨v, rfl, hK _ _ ⟨_, h2⟩⟩
theorem op_calla {x : Operand} {f : FuncId} {args : Array Operand} {ats : Array TypeId} {r : Row} {zs : List Nat} {ds : List DV} {res : Res} {z : Nat} (ho : o.op = .call { callee := .value x, args := args, argTypes := ats }) (hcd : callD L x args.toList = some (r, zs, f, ds)) (hf : callOk P f = true) (hc : Ca P f ds res)
    (z0 : z ∉ C.pz) (hd : ∀ d, o.dst = some d → d < C.N) : OpOk P C o ⟨(.zn z, .zn .free) :: r, wr o.dst (atR (z :: zs) res) ++ [(.zn z, .zn .live)]⟩ := by
  intro σ a w K ⟨G, hA⟩ hr hK
  obtain ⟨hl, vs, e, hrep⟩ := callD_ok ho hcd hf hA hr.tail
  refine ⟨fun c => by simp [ho], .inr (.inr ⟨f, vs, w, e, (hc _ w vs hrep).mono ?_⟩)⟩
  rintro e w' ⟨v, Zn, rfl, B, hZ, hres⟩
  have hf := hr.head
  obtain ⟨h1, e1⟩ := (hA.below B).1.addzone z0 hr.head Zn fun g hg => ⟨hA.fresh (hZ g hg).1 (hZ g hg).2.lt, (hZ g hg).2⟩
  have h2 := h1.put (dst := o.dst) (v := v) (x := atR (z :: zs) res) hd (atR_rep (fun y hy => by
    rcases List.mem_cons.1 hy with rfl | hy
    · unfold Uz; rw [ovr_one]; simp
    · exact e1.uz y (hl y hy).used) (hres.mono fun g hg => by
    rcases hg with ⟨y, hy, hg⟩ | hg
    · refine ⟨y, by simp [hy], ?_⟩
      have : y ≠ z := by rintro rfl; have := hl y hy; unfold Lv at this; rw [hf] at this; cases this
      simpa [this] using hg
    · exact ⟨z, by simp, by simpa using hg⟩))
  rw [ovr_ovr] at h2
  exact ⟨v, rfl, hK _ _ ⟨_, h2⟩⟩
theorem op_callo {x : Operand} {f : FuncId} {args : Array Operand} {ats : Array TypeId} {r : Row} {zs : List Nat} {ds : List DV} {E : TypeId} {sz : Nat} {rows : List (List D)} {z z2 : Nat} (ho : o.op = .call { callee := .value x, args := args, argTypes := ats }) (hcd : callD L x args.toList = some (r, zs, f, ds)) (hf : callOk P f = true) (hc : Ct P f ds (some E) (.one (.c (.s sz rows))))
    (hne : z ≠ z2) (z0 : z ∉ C.pz) (z20 : z2 ∉ C.pz) (hd : ∀ d, o.dst = some d → d < C.N) : OpOk P C o ⟨(.zn z, .zn .free) :: (.zn z2, .zn .free) :: (.hd z, .hd .free) :: r, wr o.dst (.own z) ++ [(.hd z, .hd (.own E sz z [z2] rows)), (.zn z, .zn .live), (.zn z2, .zn .live)]⟩ := by
  intro σ a w K ⟨G, hA⟩ hr hK
  obtain ⟨_, vs, e, hrep⟩ := callD_ok ho hcd hf hA hr.tail.tail.tail
  refine ⟨fun c => by simp [ho], .inr (.inr ⟨f, vs, w, e, (hc _ w vs hrep).mono ?_⟩)⟩
  rintro e w' ⟨v, Zn, rfl, B, hZ, hrow, hblk⟩
  obtain ⟨h1, e1⟩ := (hA.below B).1.addzone z20 hr.tail.head Zn fun g hg => ⟨hA.fresh (hZ g hg).1 (hZ g hg).2.lt, (hZ g hg).2⟩
  have lt : ∀ g, v.ownBlock = some g → g < w'.heap.size := fun g hg => by
    obtain ⟨vals, k1, _⟩ := hrow
    rcases k1.2 with ⟨rfl, _⟩ | ⟨g', cap, cur, rfl, _, e, _⟩
    · cases hg
    · simp only [Value.ownBlock, Option.some.injEq] at hg; subst hg; exact (Array.getElem?_eq_some_iff.1 e).1
  obtain ⟨vals, k1, k2, k3, k4⟩ := hrow
  have h2 := h1.addown (z := z) (E := E) (sz := sz) (zs := [z2]) (rows := rows) (v := v) (dst := o.dst) (by rw [ovr_one_ne _ _ _ (fun e => hne (Key.zn.inj e))]; exact hr.head) (by rw [ovr_one_ne _ _ _ (by simp)]; exact hr.tail.tail.head) z0
    (fun y hy => by simp at hy; subst hy; unfold Uz; rw [ovr_one]; simp) (fun g hg => ?_) ⟨vals, k1, k2, k3, fun _ i r j x hi hj => (k4 trivial i r j x hi hj).mono fun g hg => ⟨z2, by simp, by simpa using hg⟩⟩ hd
  · rw [ovr_ovr] at h2
    exact ⟨v, rfl, hK _ _ (by simpa using h2)⟩
  · obtain ⟨hb, hn⟩ := hblk g hg
    have m := hA.fresh (w' := w') hb (lt g hg)
    refine ⟨m.lt, m.nb, fun n hn' => m.nn n ?_, fun y hy hg' => ?_, fun k i e => m.nd k i ?_, m.no⟩
    · unfold Nm at hn' ⊢; rw [ovr_one_ne _ _ _ (by simp)] at hn'; exact hn'
    · by_cases ey : y = z2
      · rw [ey] at hg'
        have hg2 : (if z2 = z2 then Zn else G.ζ (z2)) g := hg'
        rw [if_pos rfl] at hg2
        exact hn hg2
      · unfold Lv at hy; rw [ovr_one_ne _ _ _ (fun e => ey (Key.zn.inj e))] at hy
        have hg2 : (if y = z2 then Zn else G.ζ y) g := hg'
        rw [if_neg ey] at hg2
        exact m.nz y hy hg2
    · rw [ovr_one_ne _ _ _ (by simp)] at e; exact e
theorem op_callw {x : Operand} {f : FuncId} {args : Array Operand} {ats : Array TypeId} {r : Row} {zs : List Nat} {ds : List DV} {E : TypeId} {sz : Nat} {rows : List (List D)} {z z2 : Nat} (ho : o.op = .call { callee := .value x, args := args, argTypes := ats }) (hcd : callD L x args.toList = some (r, zs, f, ds)) (hf : callOk P f = true) (hc : Co P f ds E sz rows)
    (hne : z ≠ z2) (z0 : z ∉ C.pz) (z20 : z2 ∉ C.pz) (hd : ∀ d, o.dst = some d → d < C.N) : OpOk P C o ⟨(.zn z, .zn .free) :: (.zn z2, .zn .free) :: (.hd z, .hd .free) :: r, wr o.dst (.own z) ++ [(.hd z, .hd (.own E sz z (z2 :: zs) rows)), (.zn z, .zn .live), (.zn z2, .zn .live)]⟩ := by
  intro σ a w K ⟨G, hA⟩ hr hK
  obtain ⟨hl, vs, e, hrep⟩ := callD_ok ho hcd hf hA hr.tail.tail.tail
  refine ⟨fun c => by simp [ho], .inr (.inr ⟨f, vs, w, e, (hc _ w vs hrep).mono ?_⟩)⟩
  rintro e w' ⟨v, Zn, rfl, B, hZ, hrow, hblk⟩
  have hf2 : σ (.zn z2) = .zn .free := hr.tail.head
  have hn2 : ∀ y ∈ zs, y ≠ z2 := fun y hy e => by have := hl y hy; unfold Lv at this; rw [e, hf2] at this; cases this
  obtain ⟨h1, e1⟩ := (hA.below B).1.addzone z20 hr.tail.head Zn fun g hg => ⟨hA.fresh (hZ g hg).1 (hZ g hg).2.lt, (hZ g hg).2⟩
  have lt : ∀ g, v.ownBlock = some g → g < w'.heap.size := fun g hg => by
    obtain ⟨vals, k1, _⟩ := hrow
    rcases k1.2 with ⟨rfl, _⟩ | ⟨g', cap, cur, rfl, _, e, _⟩
    · cases hg
    · simp only [Value.ownBlock, Option.some.injEq] at hg; subst hg; exact (Array.getElem?_eq_some_iff.1 e).1
  obtain ⟨vals, k1, k2, k3, k4⟩ := hrow
  have h2 := h1.addown (z := z) (E := E) (sz := sz) (zs := z2 :: zs) (rows := rows) (v := v) (dst := o.dst) (by rw [ovr_one_ne _ _ _ (fun e => hne (Key.zn.inj e))]; exact hr.head) (by rw [ovr_one_ne _ _ _ (by simp)]; exact hr.tail.tail.head) z0
    (fun y hy => by
      rcases List.mem_cons.1 hy with rfl | hy
      · unfold Uz; rw [ovr_one]; simp
      · exact e1.uz y (hl y hy).used) (fun g hg => ?_) ⟨vals, k1, k2, k3, fun _ i r j x hi hj => (k4 trivial i r j x hi hj).mono fun g hg => by
        rcases hg with ⟨y, hy, hg⟩ | hg
        · exact ⟨y, by simp [hy], by simpa [hn2 y hy] using hg⟩
        · exact ⟨z2, by simp, by simpa using hg⟩⟩ hd
  · rw [ovr_ovr] at h2
    exact ⟨v, rfl, hK _ _ (by simpa using h2)⟩
  · obtain ⟨hb, hn⟩ := hblk g hg
    have m := hA.fresh (w' := w') hb (lt g hg)
    refine ⟨m.lt, m.nb, fun n hn' => m.nn n ?_, fun y hy hg' => ?_, fun k i e => m.nd k i ?_, m.no⟩
    · unfold Nm at hn' ⊢; rw [ovr_one_ne _ _ _ (by simp)] at hn'; exact hn'
    · by_cases ey : y = z2
      · rw [ey] at hg'
        have hg2 : (if z2 = z2 then Zn else G.ζ (z2)) g := hg'
        rw [if_pos rfl] at hg2
        exact hn hg2
      · unfold Lv at hy; rw [ovr_one_ne _ _ _ (fun e => ey (Key.zn.inj e))] at hy
        have hg2 : (if y = z2 then Zn else G.ζ y) g := hg'
        rw [if_neg ey] at hg2
        exact m.nz y hy hg2
    · rw [ovr_one_ne _ _ _ (by simp)] at e; exact e
def deadZ (zs : List Nat) : Row := zs.map fun z => (.zn z, .zn .dead)
theorem fnd_dead (zs : List Nat) (z : Nat) : fnd (deadZ zs) (.zn z) = if z ∈ zs then some (.zn .dead) else none := by
  induction zs with
  | nil => simp [deadZ, fnd]
  | cons y zs ih =>
    simp only [deadZ, List.map_cons, fnd, Key.zn.injEq] at ih ⊢
    by_cases h : y = z
    · subst h; simp
    · rw [if_neg h, ih]
      have : z ≠ y := fun e => h e.symm
      simp [this]
theorem fnd_dead_ne (zs : List Nat) {k : Key} (h : ∀ z, k ≠ .zn z) : fnd (deadZ zs) k = none := by
  induction zs with
  | nil => rfl
  | cons y zs ih =>
    simp only [deadZ, List.map_cons, fnd] at ih ⊢
    rw [if_neg (fun e => h y e.symm)]
    exact ih
theorem lesser_dead (zs : List Nat) : Lesser σ (ovr σ (deadZ zs)) := fun k => by
  cases k with
  | zn z =>
    simp only [ovr, fnd_dead]
    split
    · exact .inr (.inr (.inl ⟨z, rfl, rfl⟩))
    · exact .inl rfl
  | _ => left; simp [ovr, fnd_dead_ne]
theorem ASG.kill {w' : World} {zs : List Nat} (h : ASG C G σ a w) (hl : ∀ z ∈ zs, Lv σ z) (h0 : ∀ z ∈ zs, z ∉ C.pz) (hk : Keeps (fun k => ¬ G.zu zs k) w w') : ASG C G (ovr σ (deadZ zs)) a w' := by
  have hL := lesser_dead (σ := σ) zs
  have ne : ∀ z, Lv (ovr σ (deadZ zs)) z → z ∉ zs := fun z hz hm => by
    unfold Lv at hz
    simp only [ovr, fnd_dead, if_pos hm, Option.getD_some] at hz
    cases hz
  refine ((h.less hL).step hk (fun k hb => ?_) (fun n hn => ?_) (fun z g hz hg => ?_) (fun k i e hi => ?_) (fun p hp => ?_)).1
  · rintro ⟨y, hy, hg⟩; exact (h.new y k (h0 y hy) (hl y hy) hg).1 hb
  · rintro ⟨y, hy, hg⟩
    have hn' : Nm σ n := by unfold Nm at hn ⊢; rw [← hL.nm]; exact hn
    exact (h.sep y _ (hl y hy) hg).2 n hn' rfl
  · rintro ⟨y, hy, hg'⟩
    exact h.disj z y g (fun e => ne z hz (e ▸ hy)) (hL.lv hz) (hl y hy) hg hg'
  · rintro ⟨y, hy, hg⟩
    obtain ⟨k', d1, d2⟩ := h.df
    rw [hL.df, d1] at e; cases e
    exact (d2.ok i hi).nz y (hl y hy) hg
  · rintro ⟨y, hy, hg⟩
    exact (h.ob p hp).nz y (hl y hy) hg
theorem op_kill {x : Operand} {f : FuncId} {args : Array Operand} {ats : Array TypeId} {r : Row} {zs : List Nat} {ds : List DV} (ho : o.op = .call { callee := .value x, args := args, argTypes := ats }) (hcd : callD L x args.toList = some (r, zs, f, ds)) (hf : callOk P f = true) (hc : Kt P f ds)
    (h0 : ∀ z ∈ zs, z ∉ C.pz) (hd : ∀ d, o.dst = some d → d < C.N) : OpOk P C o ⟨r, wr o.dst (.c [] (.v (.tuple #[]))) ++ deadZ zs⟩ := by
  intro σ a w K ⟨G, hA⟩ hr hK
  obtain ⟨hl, vs, e, hrep⟩ := callD_ok ho hcd hf hA hr
  refine ⟨fun c => by simp [ho], .inr (.inr ⟨f, vs, w, e, (hc _ w vs hrep fun g ⟨z, hz, hg⟩ => (hA.new z g (h0 z hz) (hl z hz) hg).2).mono ?_⟩)⟩
  rintro e w' ⟨rfl, hk⟩
  have := (hA.kill hl h0 hk).put (dst := o.dst) (v := .tuple #[]) (x := .c [] (.v (.tuple #[]))) hd (rep_raw _)
  rw [ovr_ovr] at this
  exact ⟨_, rfl, hK _ _ ⟨_, this⟩⟩
def goneH (h y : Nat) : Row := [(.hd h, .hd .dead), (.zn y, .zn .dead)]
theorem lesser_gone (h y : Nat) : Lesser σ (ovr σ (goneH h y)) := fun k => by
  by_cases e1 : k = .hd h
  · subst e1; exact .inr (.inr (.inr ⟨h, rfl, by simp [ovr, goneH, fnd]⟩))
  · by_cases e2 : k = .zn y
    · subst e2; exact .inr (.inr (.inl ⟨y, rfl, by simp [ovr, goneH, fnd]⟩))
    · left
      simp only [ovr, goneH, fnd]
      rw [if_neg (fun e => e1 e.symm), if_neg (fun e => e2 e.symm)]
      rfl
theorem ASG.gone (h : ASG C G σ a w) {n E sz y : Nat} {zs : List Nat} {rows : List (List D)} (hh : σ (.hd n) = .hd (.own E sz y zs rows)) (hy : Lv σ y) (hp : y ∉ C.pz) :
    ASG C G (ovr σ (goneH n y)) a w ∧ (∀ g, (G.τ n).ownBlock = some g → Mine C G (ovr σ (goneH n y)) w g) ∧ (∀ z, Lv (ovr σ (goneH n y)) z → z ≠ y ∧ Lv σ z) := by
  have k := h.hd n _ _ _ _ _ hh
  obtain ⟨k1, _⟩ := k.own hy
  have hL := lesser_gone (σ := σ) n y
  have ne : ∀ z, Lv (ovr σ (goneH n y)) z → z ≠ y ∧ Lv σ z := fun z hz => by
    refine ⟨?_, hL.lv hz⟩
    rintro rfl
    unfold Lv at hz
    simp [ovr, goneH, fnd] at hz
  refine ⟨h.less hL, fun g hg => ?_, ne⟩
  have hg := (k1 g).2 hg
  refine ⟨(h.sep y g hy hg).1, (h.new y g hp hy hg).1, fun m hm => ?_, fun z hz hg' => ?_, fun c i e hi e' => ?_, fun p hpp e => (h.ob p hpp).nz y hy (e ▸ hg)⟩
  · have hm' : Nm σ m := by unfold Nm at hm ⊢; rw [← hL.nm]; exact hm
    exact (h.sep y g hy hg).2 m hm'
  · obtain ⟨a1, a2⟩ := ne z hz
    exact h.disj z y g a1 a2 hy hg' hg
  · obtain ⟨k', d1, d2⟩ := h.df
    rw [hL.df, d1] at e; cases e
    exact (d2.ok i hi).nz y hy (e' ▸ hg)
def rowsOc (rows : List (List D)) : Prop := ∀ r ∈ rows, ∀ x ∈ r, ocD x = true
def nzr (zs : List Nat) (rows : List (List D)) : List Nat := if rows.all (fun r => r.all D.isV) then [] else zs
theorem nzr_sub {zs : List Nat} {rows : List (List D)} {z : Nat} (h : z ∈ nzr zs rows) : z ∈ zs := by
  unfold nzr at h
  split at h
  · cases h
  · exact h
theorem nzr_rep {Z : List Nat → Zone} {zs : List Nat} {rows : List (List D)} {w : World} {v : Value} {r : List D} {x : D} {i j : Nat} (hi : rows[i]? = some r) (hj : r[j]? = some x) (h : RepD (Z zs) w v x) : RepD (Z (nzr zs rows)) w v x := by
  unfold nzr
  split
  · rename_i ha
    rw [List.all_eq_true] at ha
    have := ha r (List.mem_of_getElem? hi)
    rw [List.all_eq_true] at this
    exact D.isV_rep (this x (List.mem_of_getElem? hj)) h
  · exact h
theorem getD_app_left {xs ys : List Value} {k : Nat} (h : k < xs.length) : (xs ++ ys).getD k undef = xs.getD k undef := by simp [List.getD, List.getElem?_append_left h]
theorem getD_app_right {xs ys : List Value} {k : Nat} (h : xs.length ≤ k) : (xs ++ ys).getD k undef = ys.getD (k - xs.length) undef := by simp [List.getD, List.getElem?_append_right h]
theorem run_app {t ty e : TypeId} {ti ei : TI} (ht : T.f t = some ti) (hsh : ti.sh = .slice e) (he : T.f e = some ei) (hz : ei.zero.cells.size = ei.size) (hpos : 0 < ei.size) {Z Z' : Zone} {v ux : Value} {rows rows2 : List (List D)} {lean : Prop}
    (hrow : RowAt Z w v e ei.size rows lean) (hx : RepD Z' w ux (.s ei.size rows2)) (hoc : rowsOc rows2) (h63 : rows.length + rows2.length ≤ maxI) (hby : (rows.length + rows2.length) * ei.bytes ≤ 140737488355328) :
    ∃ v' w', (Builtin.append_ #[t, t] ty #[v, ux]).run P w = .ok v' w' ∧ w.grownBy w' v.ownBlock ∧ (v'.ownBlock = v.ownBlock ∨ v'.ownBlock = some w.heap.size) ∧
      ∃ vals, w'.ownsRow 0 e ei.size v' (rows ++ rows2).length vals ∧ (∀ u ∈ vals, u.oneCell' = true) ∧ (∀ (i : Nat) (r : List D), (rows ++ rows2)[i]? = some r → r.length = ei.size) ∧
        (lean → ∀ (i : Nat) (r : List D) (j : Nat) (x : D), (rows ++ rows2)[i]? = some r → r[j]? = some x → RepD Z w (vals.getD (i * ei.size + j) undef) x ∨ (∃ i' : Nat, rows2[i']? = some r ∧ RepD Z' w (vals.getD (i * ei.size + j) undef) x)) := by
  have hu := (T.ok t ti ht).slice hsh
  obtain ⟨inf, i1, i2, i3, i4⟩ := (T.ok e ei he).get
  obtain ⟨vals, k1, k2, k3, k4⟩ := hrow
  have grown0 : w.grownBy w v.ownBlock := ⟨rfl, rfl, rfl, Nat.le_refl _, fun _ _ _ => rfl⟩
  cases hx with
  | nil =>
    have hrun := run_append_owned_none (P := P) (w := w) 0 t ty e inf ei.size hu i1 v rows.length vals k1
    refine ⟨v, w, hrun, grown0, .inl rfl, vals, by simpa using k1, k2, by simpa using k3, fun hl i r j x hi hj => .inl (k4 hl i r j x (by simpa using hi) hj)⟩
  | emp ad cap sz hcap =>
    obtain ⟨v', w', hrun, q1, q2, q3, q4⟩ := run_append_own_at (P := P) w 0 t ty e inf ei.zero ei.size ei.bytes hu i1 i2 i3 i4 hz hpos v rows.length vals k1 ad 0 cap [] (by simp) (fun j u hj => by simp at hj) (by simp) (by simpa [maxLen, maxI] using h63) (by simpa using hby) (Nat.zero_le _)
    refine ⟨v', w', hrun, q2, q4, vals, by simpa using q1, k2, by simpa using k3, fun hl i r j x hi hj => .inl (k4 hl i r j x (by simpa using hi) hj)⟩
  | row g off n cap sz _ vf hn h1 h2 hl hc hr =>
    subst hn
    obtain ⟨news, hnews⟩ : ∃ news : List Value, news = (List.range (rows2.length * ei.size)).map fun k => vf (k / ei.size) (k % ei.size) := ⟨_, rfl⟩
    have cell : ∀ k, k < rows2.length * ei.size → ∃ r x, rows2[k / ei.size]? = some r ∧ r[k % ei.size]? = some x := fun k hk => by
      have hlt : k / ei.size < rows2.length := by rw [Nat.div_lt_iff_lt_mul hpos]; exact hk
      refine ⟨rows2[k / ei.size], (rows2[k / ei.size])[k % ei.size]'(by rw [hl _ _ (List.getElem?_eq_getElem hlt)]; exact Nat.mod_lt _ hpos), List.getElem?_eq_getElem hlt, List.getElem?_eq_getElem _⟩
    have nlen : news.length = rows2.length * ei.size := by rw [hnews]; simp
    have nget : ∀ k, k < rows2.length * ei.size → news[k]? = some (vf (k / ei.size) (k % ei.size)) := fun k hk => by rw [hnews]; simp [hk]
    obtain ⟨v', w', hrun, q1, q2, q3, q4⟩ := run_append_own_at (P := P) w 0 t ty e inf ei.zero ei.size ei.bytes hu i1 i2 i3 i4 hz hpos v rows.length vals k1 ⟨g, off, none⟩ rows2.length cap news nlen (fun k u hk => by
        have hk' : k < rows2.length * ei.size := by rw [← nlen]; exact (List.getElem?_eq_some_iff.1 hk).1
        rw [nget k hk', Option.some.injEq] at hk
        subst hk
        obtain ⟨r, x, c1, c2⟩ := cell k hk'
        have := (hc _ r _ x c1 c2).2
        rw [add_none]
        have e : k / ei.size * ei.size + k % ei.size = k := by rw [Nat.mul_comm]; exact Nat.div_add_mod k ei.size
        rwa [show off + k / ei.size * ei.size + k % ei.size = off + k by omega] at this) (fun u hu => by
        obtain ⟨k, hk⟩ := List.mem_iff_getElem?.1 hu
        have hk' : k < rows2.length * ei.size := by rw [← nlen]; exact (List.getElem?_eq_some_iff.1 hk).1
        rw [nget k hk', Option.some.injEq] at hk
        subst hk
        obtain ⟨r, x, c1, c2⟩ := cell k hk'
        exact ocD_ok (hoc r (List.mem_of_getElem? c1) x (List.mem_of_getElem? c2)) (hr _ r _ x c1 c2)) (by simpa [maxLen, maxI] using h63) hby (Nat.zero_le _)
    refine ⟨v', w', hrun, q2, q4, vals ++ news, by rw [List.length_append]; exact q1, fun u hu => ?_, fun i r hi => ?_, fun hl' i r j x hi hj => ?_⟩
    · rcases List.mem_append.1 hu with hu | hu
      · exact k2 u hu
      · obtain ⟨k, hk⟩ := List.mem_iff_getElem?.1 hu
        have hk' : k < rows2.length * ei.size := by rw [← nlen]; exact (List.getElem?_eq_some_iff.1 hk).1
        rw [nget k hk', Option.some.injEq] at hk
        subst hk
        obtain ⟨r, x, c1, c2⟩ := cell k hk'
        exact ocD_ok (hoc r (List.mem_of_getElem? c1) x (List.mem_of_getElem? c2)) (hr _ r _ x c1 c2)
    · by_cases hlt : i < rows.length
      · rw [List.getElem?_append_left hlt] at hi; exact k3 i r hi
      · rw [List.getElem?_append_right (by omega)] at hi; exact hl _ r hi
    · by_cases hlt : i < rows.length
      · rw [List.getElem?_append_left hlt] at hi
        have hj' : j < ei.size := by rw [← k3 i r hi]; exact (List.getElem?_eq_some_iff.1 hj).1
        have hle : (i + 1) * ei.size ≤ rows.length * ei.size := Nat.mul_le_mul_right _ hlt
        rw [Nat.add_mul, Nat.one_mul] at hle
        rw [getD_app_left (by rw [k1.1]; omega)]
        exact .inl (k4 hl' i r j x hi hj)
      · rw [List.getElem?_append_right (by omega)] at hi
        have hj' : j < ei.size := by rw [← hl _ r hi]; exact (List.getElem?_eq_some_iff.1 hj).1
        have hi2 : i - rows.length < rows2.length := (List.getElem?_eq_some_iff.1 hi).1
        have hle : (i - rows.length + 1) * ei.size ≤ rows2.length * ei.size := Nat.mul_le_mul_right _ hi2
        rw [Nat.add_mul, Nat.one_mul] at hle
        have he1 : rows.length * ei.size ≤ i * ei.size := Nat.mul_le_mul_right _ (by omega)
        have he2 : i * ei.size + j - rows.length * ei.size = (i - rows.length) * ei.size + j := by rw [Nat.sub_mul]; omega
        rw [getD_app_right (by rw [k1.1]; omega), k1.1, he2]
        have := nget ((i - rows.length) * ei.size + j) (by omega)
        have d1 : ((i - rows.length) * ei.size + j) / ei.size = i - rows.length := by rw [Nat.mul_comm, Nat.mul_add_div hpos, Nat.div_eq_of_lt hj']; simp
        have d2 : ((i - rows.length) * ei.size + j) % ei.size = j := by rw [Nat.mul_comm, Nat.mul_add_mod, Nat.mod_eq_of_lt hj']
        rw [d1, d2] at this
        refine .inr ⟨_, hi, ?_⟩
        rw [List.getD, this]
        exact hr _ r _ x hi hj
end

section
variable {P : Program} {C : Cx} {G : Gh} {σ : St} {a : Act} {w : World} {o : Oper} {L : St} {T : Tab P}
theorem grown_keeps {w w' : World} {row : Option Nat} (h : w.grownBy w' row) : Keeps (fun k => row ≠ some k) w w' := ⟨h.os, h.tape, h.output, h.size, fun k hk hn => h.block k hk (fun e => hn e.symm)⟩
def dst0 (L : St) (pz : List Nat) (esz : Nat) (E : TypeId) : AV → Option (Row × Row × List Nat × List (List D))
  | .own h => match L (.hd h) with
    | .hd (.own E' sz y zs rows) => if E' = E ∧ sz = esz ∧ isLv (L (.zn y)) ∧ (!pz.contains y) = true then some ([(.hd h, .hd (.own E' sz y zs rows)), (.zn y, .zn .live)], goneH h y, zs, rows) else none
    | _ => none
  | .c [] (.n _) => some ([], [], [], [])
  | .c [] (.v (.slice none 0 0)) => some ([], [], [], [])
  | _ => none
theorem dst0_rd {pz : List Nat} {esz : Nat} {E : TypeId} {x : AV} {r : Row} {y : Row × List Nat × List (List D)} (h : dst0 L pz esz E x = some (r, y)) : Rd L r := by
  unfold dst0 at h
  split at h
  · split at h
    · rename_i hh
      split at h
      · rename_i hc
        simp only [Option.some.injEq, Prod.mk.injEq] at h
        rw [← h.1]
        exact Rd.cons hh (Rd.cons (isLv_eq hc.2.2.1) Rd.nil)
      · cases h
    · cases h
  · simp only [Option.some.injEq, Prod.mk.injEq] at h; rw [← h.1]; exact Rd.nil
  · simp only [Option.some.injEq, Prod.mk.injEq] at h; rw [← h.1]; exact Rd.nil
  · cases h
theorem rowAt_nil (Z : Zone) (w : World) (E sz : Nat) (lean : Prop) : RowAt Z w (.slice none 0 0) E sz [] lean :=
  ⟨[], ⟨by simp, .inl ⟨rfl, rfl⟩⟩, by simp, fun i r h => by simp at h, fun _ i r j x h => by simp at h⟩
theorem dst0_ok {pz : List Nat} (hpz : C.pz = pz) {esz : Nat} {E : TypeId} {x : AV} {r gone : Row} {zs : List Nat} {rows : List (List D)} {v : Value} (h : dst0 L pz esz E x = some (r, gone, zs, rows)) (hA : ASG C G σ a w) (hr : Rd σ r) (hx : Rep G σ w v x) :
    ASG C G (ovr σ gone) a w ∧ (∀ z ∈ zs, Uz (ovr σ gone) z) ∧ RowAt (G.zu zs) w v E esz rows (∀ z ∈ zs, Lv (ovr σ gone) z) ∧ (∀ g, v.ownBlock = some g → Mine C G (ovr σ gone) w g) ∧ Lesser σ (ovr σ gone) := by
  unfold dst0 at h
  split at h
  · rename_i n
    split at h
    · rename_i E' sz y zs' rows' hh
      split at h
      · rename_i hc
        obtain ⟨rfl, rfl, hc⟩ := hc
        simp only [Option.some.injEq, Prod.mk.injEq] at h
        obtain ⟨rfl, rfl, rfl, rfl⟩ := h
        have h1 := hr.head
        have h2 : Lv σ y := hr.tail.head
        obtain ⟨g1, g2, g3⟩ := hA.gone h1 h2 (by rw [hpz]; simpa using hc.2)
        have k := hA.hd n _ _ _ _ _ h1
        have e : v = G.τ n := hx.rep ⟨_, _, _, _, _, h1⟩
        have hL := lesser_gone (σ := σ) n y
        refine ⟨g1, fun z hz => ?_, ?_, fun g hg => g2 g (by rw [← e]; exact hg), hL⟩
        · exact (hL.evo (G := G) (w := w)).uz z (k.uz z hz)
        · rw [e]
          obtain ⟨_, vals, q1, q2, q3, q4⟩ := k.own h2
          exact ⟨vals, q1, q2, q3, fun hl => q4 fun z hz => (g3 z (hl z hz)).2⟩
      · cases h
    · cases h
  · simp only [Option.some.injEq, Prod.mk.injEq] at h
    obtain ⟨rfl, rfl, rfl, rfl⟩ := h
    have := hx.rep (fun z hz => absurd hz (by simp))
    cases this
    rw [ovr_nil]
    exact ⟨hA, by simp, rowAt_nil _ _ _ _ _, (fun g hg => by cases hg), fun k => Or.inl rfl⟩
  · simp only [Option.some.injEq, Prod.mk.injEq] at h
    obtain ⟨rfl, rfl, rfl, rfl⟩ := h
    have := (hx.rep (fun z hz => absurd hz (by simp))).raw
    subst this
    rw [ovr_nil]
    exact ⟨hA, by simp, rowAt_nil _ _ _ _ _, (fun g hg => by cases hg), fun k => Or.inl rfl⟩
  · cases h
theorem dst0_free {pz : List Nat} {esz z : Nat} {E : TypeId} {x : AV} {r gone : Row} {zs : List Nat} {rows : List (List D)} (h : dst0 L pz esz E x = some (r, gone, zs, rows)) (hr : Rd σ r) (hz : σ (.zn z) = .zn .free) (hh : σ (.hd z) = .hd .free) : (ovr σ gone) (.zn z) = .zn .free ∧ (ovr σ gone) (.hd z) = .hd .free := by
  unfold dst0 at h
  split at h
  · rename_i n
    split at h
    · rename_i E' sz y zs' rows' _
      split at h
      · simp only [Option.some.injEq, Prod.mk.injEq] at h
        obtain ⟨rfl, rfl, rfl, rfl⟩ := h
        have h1 := hr.head
        have h2 : σ (.zn y) = .zn .live := hr.tail.head
        have ey : ¬ y = z := by rintro rfl; rw [hz] at h2; cases h2
        have en : ¬ n = z := by rintro rfl; rw [hh] at h1; cases h1
        refine ⟨?_, ?_⟩
        · simp only [ovr, goneH, fnd]
          rw [if_neg (by simp), if_neg (by simpa using ey)]
          exact hz
        · simp only [ovr, goneH, fnd]
          rw [if_neg (by simpa using en), if_neg (by simp)]
          exact hh
      · cases h
    · cases h
  · simp only [Option.some.injEq, Prod.mk.injEq] at h
    obtain ⟨rfl, rfl, rfl, rfl⟩ := h
    rw [ovr_nil]; exact ⟨hz, hh⟩
  · simp only [Option.some.injEq, Prod.mk.injEq] at h
    obtain ⟨rfl, rfl, rfl, rfl⟩ := h
    rw [ovr_nil]; exact ⟨hz, hh⟩
  · cases h
theorem op_append {t e : TypeId} {ti ei : TI} {s x : Operand} {r r0 r' gone : Row} {av : AV} {zs zs2 : List Nat} {rows rows2 : List (List D)} {z : Nat} (ho : o.op = .call { callee := .builtin .append, args := #[s, x], argTypes := #[t, t] }) (ht : T.f t = some ti) (hsh : ti.sh = .slice e) (he : T.f e = some ei)
    (hz0 : ei.zero.cells.size = ei.size) (hpos : 0 < ei.size) (hs : opd L s = some (r, av)) (hd0 : dst0 L C.pz ei.size e av = some (r0, gone, zs, rows)) (hx : ops L ei.size x = some (r', zs2, rows2)) (hoc : rowsOc rows2) (h63 : rows.length + rows2.length ≤ maxI) (hby : (rows.length + rows2.length) * ei.bytes ≤ 140737488355328)
    (z0 : z ∉ C.pz) (hd : ∀ d, o.dst = some d → d < C.N) :
    OpOk P C o ⟨(.zn z, .zn .free) :: (.hd z, .hd .free) :: (r ++ (r0 ++ r')), wr o.dst (.own z) ++ ([(.hd z, .hd (.own e ei.size z (zs ++ nzr zs2 rows2) (rows ++ rows2))), (.zn z, .zn .live)] ++ gone)⟩ := by
  intro σ a w K ⟨G, hA⟩ hr hK
  have hz' := hr.head
  have hh' := hr.tail.head
  have hr2 := hr.tail.tail
  obtain ⟨g1, g2, g3, g4, gL⟩ := dst0_ok rfl hd0 hA hr2.right.left (opd_ok hs hA hr2.left)
  obtain ⟨x1, x2, x3⟩ := ops_ok hx hA hr2.right.right
  obtain ⟨v', w', hrun, q1, q2, vals, q3, q4, q5, q6⟩ := run_app (P := P) (ty := o.type) ht hsh he hz0 hpos g3 x3 hoc h63 hby
  have er : (execOp a.eval o).run P w = .ok (.value v') w' := by
    simp only [execOp, ho, resolve, invoke, builtin]
    simp [hrun]
  have mine : ∀ g, (a.eval s).ownBlock = some g → Mine C G (ovr σ gone) w g := g4
  have hd1 : ∀ k i, (ovr σ gone) .df = .df k → i < k → (a.eval s).ownBlock ≠ some (G.δ i) := fun k i e hi h => (mine _ h).nd k i e hi rfl
  obtain ⟨h1, e1⟩ := g1.step (grown_keeps q1) (fun k hb h => (mine k h).nb hb) (fun n hn h => (mine _ h).nn n hn rfl) (fun y g hy hg h => (mine g h).nz y hy hg) hd1 (fun p hp h => (mine _ h).no p hp rfl)
  obtain ⟨zf, hf⟩ := dst0_free hd0 hr2.right.left hz' hh'
  have uz2 : ∀ y ∈ zs ++ nzr zs2 rows2, Uz (ovr σ gone) y := fun y hy => by
    rcases List.mem_append.1 hy with hy | hy
    · exact g2 y hy
    · exact (gL.evo (G := G) (w := w)).uz y (x1 y (nzr_sub hy))
  have own' : ∀ g, v'.ownBlock = some g → Soft w' g := fun g hg => by
    rcases q3.2 with ⟨rfl, _⟩ | ⟨g', cap, cur, rfl, _, e, _⟩
    · cases hg
    · simp only [Value.ownBlock, Option.some.injEq] at hg; subst hg; exact .mk e
  refine ⟨fun c => by simp [ho], .inl ⟨v', w', er, ?_⟩⟩
  have := h1.addown (z := z) (E := e) (sz := ei.size) (zs := zs ++ nzr zs2 rows2) (rows := rows ++ rows2) (v := v') (dst := o.dst) zf hf z0 uz2 (fun g hg => ?_) ⟨vals, q3, q4, q5, fun hl i r j x hi hj => ?_⟩ hd
  · rw [ovr_ovr] at this
    exact hK _ _ (by simpa using this)
  · rcases q2 with q2 | q2
    · have m := mine g (by rw [← q2]; exact hg)
      exact ⟨(own' g hg).lt, m.nb, m.nn, m.nz, m.nd, m.no⟩
    · rw [hg, Option.some.injEq] at q2
      subst q2
      exact g1.fresh (Nat.le_refl _) (own' _ hg).lt
  · rcases q6 (fun y hy => hl y (List.mem_append_left _ hy)) i r j x hi hj with h | ⟨i', hi', h⟩
    · refine h.evo fun g ⟨y, hy, hg⟩ hlt => ⟨⟨y, List.mem_append_left _ hy, hg⟩, ?_⟩
      have hly := hl y (List.mem_append_left _ hy)
      exact (grown_keeps q1).block g hlt fun e => (mine g e).nz y hly hg
    · refine (nzr_rep (Z := fun zs => G.zu zs) hi' hj h).evo fun g ⟨y, hy, hg⟩ hlt => ⟨⟨y, List.mem_append_right _ hy, hg⟩, ?_⟩
      have hly := hl y (List.mem_append_right _ hy)
      exact (grown_keeps q1).block g hlt fun e => (mine g e).nz y hly hg
end

section
variable {P : Program} {C : Cx} {G : Gh} {σ : St} {a : Act} {w : World} {o : Oper} {L : St} {T : Tab P}
theorem ASG.rehd (h : ASG C G σ a w) {n E sz y : Nat} {zs : List Nat} {rows : List (List D)} (hn : Lh σ n) (hk : HdOk G σ w n E sz y zs rows) : ASG C G (ovr σ [(.hd n, .hd (.own E sz y zs rows))]) a w := by
  obtain ⟨σ', hσ⟩ : ∃ σ', σ' = ovr σ [(.hd n, .hd (.own E sz y zs rows))] := ⟨_, rfl⟩
  rw [← hσ]
  have ko : ∀ kk, kk ≠ .hd n → σ' kk = σ kk := fun kk e => by rw [hσ]; exact ovr_one_ne _ _ _ e
  have ks : σ' (.hd n) = .hd (.own E sz y zs rows) := by rw [hσ]; exact ovr_one _ _ _
  have lv : ∀ y, Lv σ' y ↔ Lv σ y := fun y => by unfold Lv; rw [ko _ (by simp)]
  have uz : ∀ y, Uz σ' y ↔ Uz σ y := fun y => by unfold Uz; rw [ko _ (by simp)]
  have nm : ∀ m, Nm σ' m ↔ Nm σ m := fun m => by unfold Nm; rw [ko _ (by simp)]
  have ev : Evo G G σ σ' w w := by
    refine ⟨fun y hy => (uz y).2 hy, fun k hk => ?_, fun m hm => ⟨(nm m).2 hm, rfl⟩, fun y _ hl => ⟨(lv y).1 hl, rfl, fun _ _ => rfl⟩, fun k hk hl => ⟨?_, rfl⟩⟩
    · unfold Uh
      by_cases e : k = n
      · subst e; rw [ks]; simp
      · rw [ko _ (by simpa using e)]; exact hk
    · by_cases e : k = n
      · subst e; exact hn
      · unfold Lh at hl ⊢; rw [ko _ (by simpa using e)] at hl; exact hl
  obtain ⟨c, d1, d2⟩ := h.df
  refine ⟨h.fr, ⟨c, by rw [ko _ (by simp)]; exact d1, d2.eq, fun i hi => ⟨(d2.ok i hi).obj, (d2.ok i hi).nb, fun q hq => (d2.ok i hi).nn q ((nm q).1 hq), fun z hz => (d2.ok i hi).nz z ((lv z).1 hz)⟩, d2.inj⟩, h.sz, fun t x e => ?_, fun i t x e => ?_, fun n j x e => ?_, fun m hm => h.nm m ((nm m).1 hm), fun n m hn hm e => h.inj n m ((nm n).1 hn) ((nm m).1 hm) e,
    fun y g hl hg => ?_, fun y g h0 hl hg => h.new y g h0 ((lv y).1 hl) hg, fun y1 y2 g hne hy1 hy2 h1 h2 => h.disj y1 y2 g hne ((lv y1).1 hy1) ((lv y2).1 hy2) h1 h2, fun h' E' sz' y' zs' rows' e => ?_, fun y hy hl => h.zz y hy ((lv y).1 hl), fun p hp => ⟨(h.ob p hp).obj, (h.ob p hp).nb, fun n hn => (h.ob p hp).nn n ((nm n).1 hn), fun z hz => (h.ob p hp).nz z ((lv z).1 hz)⟩, fun n hn => (h.sf n ((nm n).1 hn)).of_ko (ko _ (by simp))⟩
  · rw [ko _ (by simp)] at e
    obtain ⟨v, a, b⟩ := h.tmp t x e; exact ⟨v, a, b.evo ev⟩
  · rw [ko _ (by simp)] at e
    exact (h.vt i t x e).evo ev
  · rw [ko _ (by simp)] at e
    obtain ⟨a, v, b, c, d⟩ := h.cell n j x e
    exact ⟨(nm n).2 a, v, b, c, d.evo ev⟩
  · obtain ⟨a, b⟩ := h.sep y g ((lv y).1 hl) hg
    exact ⟨a, fun n hn => b n ((nm n).1 hn)⟩
  · by_cases e1 : h' = n
    · subst e1
      rw [ks] at e
      simp only [KV.hd.injEq, HS.own.injEq] at e
      obtain ⟨rfl, rfl, rfl, rfl, rfl⟩ := e
      exact hk.evo ev rfl
    · rw [ko _ (by simpa using e1)] at e
      exact (h.hd h' _ _ _ _ _ e).evo ev rfl
theorem op_over {x y : Operand} {f : FuncId} {args : Array Operand} {rest : List Operand} {ats : Array TypeId} {r r0 : Row} {zs zs1 : List Nat} {ds : List DV} {n E sz yz z : Nat} {rows rows' : List (List D)} (ho : o.op = .call { callee := .value x, args := args, argTypes := ats }) (hal : args.toList = y :: rest)
    (hy : opd L y = some (r0, .own n)) {r1 : Row} (hl1 : zr L zs1 = some r1)
    (hcd : callD L x rest = some (r, zs, f, ds)) (hf : callOk P f = true) (hc : Ku P f ds E sz rows rows') (hne : (zs1 ++ zs).contains yz = false) (hp : yz ∉ C.pz) (z0 : z ∉ C.pz) (hzy : z ≠ yz) (hd : ∀ d, o.dst = some d → d < C.N) :
    OpOk P C o ⟨(.zn z, .zn .free) :: (.hd n, .hd (.own E sz yz zs1 rows)) :: (.zn yz, .zn .live) :: (r0 ++ (r1 ++ r)), wr o.dst (.c [] (.v (.tuple #[]))) ++ [(.hd n, .hd (.own E sz z (zs1 ++ zs) rows')), (.zn z, .zn .live), (.zn yz, .zn .dead)]⟩ := by
  intro σ a w K ⟨G, hA⟩ hr hK
  have hz := hr.head
  have hh := hr.tail.head
  have hyl : Lv σ yz := hr.tail.tail.head
  have hr3 := hr.tail.tail.tail
  have hz1 := zr_ok hl1 hr3.right.left
  have k := hA.hd n _ _ _ _ _ hh
  obtain ⟨k1, k2⟩ := k.own hyl
  have ey : a.eval y = G.τ n := (opd_ok hy hA hr3.left).rep ⟨_, _, _, _, _, hh⟩
  have hni : ∀ z' ∈ zs1 ++ zs, z' ≠ yz := fun z' hz' e => by
    subst e
    rw [Bool.eq_false_iff] at hne
    exact hne (by simpa using hz')
  -- the call
  have hcall : (∀ z ∈ zs, Lv σ z) ∧ ∃ vs, (execOp a.eval o).run P w = .ok (.enter f (#[a.eval y] ++ vs)) w ∧ Reps (G.zu zs) w vs ds := by
    unfold callD at hcd
    split at hcd
    · rename_i q1 zq1 f1 cs q2 zq2 ds2 h1 h2
      simp only [Option.some.injEq, Prod.mk.injEq] at hcd
      obtain ⟨rfl, rfl, rfl, rfl⟩ := hcd
      obtain ⟨a1, caps, a2, a3⟩ := clz_ok h1 hA hr3.right.right.left
      obtain ⟨b0, b1, b2⟩ := argsOf_ok h2 hA hr3.right.right.right
      have hrun := run_call (P := P) ho rfl a2 hf w
      have eargs : args.map a.eval ++ caps = #[a.eval y] ++ ((rest.map a.eval).toArray ++ caps) := by
        apply Array.ext'
        simp [hal]
      dsimp only at hrun
      rw [eargs] at hrun
      have b3 : Reps (G.zu zq2) w (rest.map a.eval).toArray ds2 := ⟨by simpa using b1, fun i x hi => by
        have e : (rest.map a.eval).toArray.getD i undef = (rest.map a.eval).getD i undef := by simp [Array.getD_eq_getD_getElem?, List.getD]
        rw [e]; exact b2 i x hi⟩
      refine ⟨fun z hz => ?_, _, hrun, (b3.app a3).mono fun g hg => ?_⟩
      · rcases List.mem_append.1 hz with hz | hz
        · exact b0 z hz
        · exact a1 z hz
      · rcases hg with ⟨z, hz, hg⟩ | ⟨z, hz, hg⟩
        · exact ⟨z, List.mem_append_left _ hz, hg⟩
        · exact ⟨z, List.mem_append_right _ hz, hg⟩
    · cases hcd
  obtain ⟨hl, vs, e, hrep⟩ := hcall
  have hlv : ∀ z' ∈ zs1 ++ zs, Lv σ z' := fun z' hz' => by
    rcases List.mem_append.1 hz' with h | h
    · exact hz1 z' h
    · exact hl z' h
  have hZ : ∀ g, (a.eval y).ownBlock = some g → ¬ G.zu (zs1 ++ zs) g := fun g hg ⟨z', hz', hg'⟩ => by
    rw [ey] at hg
    exact hA.disj z' yz g (hni z' hz') (hlv z' hz') hyl hg' ((k1 g).2 hg)
  have row0 : RowAt (G.zu (zs1 ++ zs)) w (a.eval y) E sz rows True := by
    rw [ey]
    obtain ⟨vals, p1, p2, p3, p4⟩ := k2
    exact ⟨vals, p1, p2, p3, fun _ i r j x hi hj => (p4 hz1 i r j x hi hj).mono fun g ⟨z', hz', hg⟩ => ⟨z', List.mem_append_left _ hz', hg⟩⟩
  refine ⟨fun c => by simp [ho], .inr (.inr ⟨f, _, w, e, (hc _ w _ vs row0 hZ (hrep.mono fun g ⟨z', hz', hg⟩ => ⟨z', List.mem_append_right _ hz', hg⟩)).mono ?_⟩)⟩
  rintro e w' ⟨rfl, hk, hrow'⟩
  refine ⟨_, rfl, hK _ _ ?_⟩
  have hL : Lesser σ (ovr σ [(.zn yz, .zn .dead)]) := lesser_dead (σ := σ) [yz]
  have g0 : ASG C G (ovr σ [(.zn yz, .zn .dead)]) a w := hA.less hL
  have gne : ∀ z', Lv (ovr σ [(.zn yz, .zn .dead)]) z' → z' ≠ yz ∧ Lv σ z' := fun z' h' => by
    refine ⟨?_, hL.lv h'⟩
    rintro rfl
    unfold Lv at h'; rw [ovr_one] at h'; cases h'
  have mine : ∀ g, (a.eval y).ownBlock = some g → Mine C G (ovr σ [(.zn yz, .zn .dead)]) w g := fun g hg => by
    rw [ey] at hg
    have hg := (k1 g).2 hg
    refine ⟨(hA.sep yz g hyl hg).1, (hA.new yz g hp hyl hg).1, fun m hm => ?_, fun z hz hg' => ?_, fun c i e hi e' => ?_, fun p hpp e => (hA.ob p hpp).nz yz hyl (e ▸ hg)⟩
    · have hm' : Nm σ m := by unfold Nm at hm ⊢; rw [← hL.nm]; exact hm
      exact (hA.sep yz g hyl hg).2 m hm'
    · obtain ⟨a1, a2⟩ := gne z hz
      exact hA.disj z yz g a1 a2 hyl hg' hg
    · obtain ⟨k', d1, d2⟩ := hA.df
      rw [hL.df, d1] at e; cases e
      exact (d2.ok i hi).nz yz hyl (e' ▸ hg)
  obtain ⟨g1, e1⟩ := g0.step hk (fun k hb h => (mine k h).nb hb) (fun m hm h => (mine _ h).nn m hm rfl) (fun y' g hy' hg h => (mine g h).nz y' hy' hg) (fun k i e hi h => (mine _ h).nd k i e hi rfl) (fun p hp h => (mine _ h).no p hp rfl)
  have soft : ∀ g, (a.eval y).ownBlock = some g → Soft w' g := fun g hg => by
    obtain ⟨vals, q3, _⟩ := hrow'
    rcases q3.2 with ⟨h, _⟩ | ⟨g', cap, cur, h, _, e, _⟩
    · rw [h] at hg; cases hg
    · rw [h] at hg; simp only [Value.ownBlock, Option.some.injEq] at hg; subst hg; exact .mk e
  have zf : (ovr σ [(.zn yz, .zn .dead)]) (.zn z) = .zn .free := by rw [ovr_one_ne _ _ _ (by simpa using hzy)]; exact hz
  obtain ⟨g2, e2⟩ := g1.addzone z0 zf (fun g => (a.eval y).ownBlock = some g) fun g hg => ⟨⟨(soft g hg).lt, (mine g hg).nb, (mine g hg).nn, (mine g hg).nz, (mine g hg).nd, (mine g hg).no⟩, soft g hg⟩
  have hnz : ∀ z' ∈ zs1 ++ zs, z' ≠ z := fun z' hz' e => by
    have := hlv z' hz'; rw [e] at this; unfold Lv at this; rw [hz] at this; cases this
  have g3 := g2.rehd (n := n) (E := E) (sz := sz) (y := z) (zs := zs1 ++ zs) (rows := rows') ⟨E, sz, yz, zs1, rows, by rw [ovr_one_ne _ _ _ (by simp), ovr_one_ne _ _ _ (by simp)]; exact hh⟩ ?_
  · have g4 := g3.put (dst := o.dst) (v := .tuple #[]) (x := .c [] (.v (.tuple #[]))) hd (rep_raw _)
    rw [ovr_ovr, ovr_ovr, ovr_ovr] at g4
    exact ⟨_, by simpa using g4⟩
  · refine ⟨by unfold Uz; rw [ovr_one]; simp, fun z' hz' => e2.uz z' (e1.uz z' ((hL.evo (G := G) (w := w)).uz z' (hlv z' hz').used)), fun _ => ⟨fun g => by simp [ey], ?_⟩⟩
    obtain ⟨vals, p1, p2, p3, p4⟩ := hrow'
    rw [ey] at p1
    refine ⟨vals, p1, p2, p3, fun hl' i r j x hi hj => ?_⟩
    exact (p4 trivial i r j x hi hj).mono fun g ⟨z', hz', hg⟩ => ⟨z', hz', by simpa [hnz z' hz'] using hg⟩
def capN (L : St) : List Operand → Option (Row × List Nat)
  | [] => some ([], [])
  | x :: xs => match opd L x, capN L xs with
    | some (r, .ptr n 0), some (r', ns) => some (r ++ r', n :: ns)
    | _, _ => none
theorem capN_rd : ∀ {xs : List Operand} {r : Row} {ns : List Nat}, capN L xs = some (r, ns) → Rd L r
  | [], r, ns, h => by simp only [capN, Option.some.injEq, Prod.mk.injEq] at h; rw [← h.1]; exact Rd.nil
  | x :: xs, r, ns, h => by
    unfold capN at h
    split at h
    · rename_i h1 h2
      simp only [Option.some.injEq, Prod.mk.injEq] at h
      rw [← h.1]; exact Rd.app (opd_rd h1) (capN_rd h2)
    · cases h
theorem capN_ok : ∀ {xs : List Operand} {r : Row} {ns : List Nat}, capN L xs = some (r, ns) → ASG C G σ a w → Rd σ r → (∀ n ∈ ns, Nm σ n) ∧ xs.map a.eval = ns.map fun n => Value.pointer (some ⟨G.ρ n, 0, none⟩)
  | [], r, ns, h, _, _ => by simp only [capN, Option.some.injEq, Prod.mk.injEq] at h; rw [← h.2]; simp
  | x :: xs, r, ns, h, hA, hr => by
    unfold capN at h
    split at h
    · rename_i h1 h2
      simp only [Option.some.injEq, Prod.mk.injEq] at h
      obtain ⟨rfl, rfl⟩ := h
      have e := opd_ok h1 hA hr.left
      obtain ⟨k1, k2⟩ := capN_ok h2 hA hr.right
      refine ⟨fun n hn => ?_, ?_⟩
      · rcases List.mem_cons.1 hn with rfl | hn
        · exact e.ok
        · exact k1 n hn
      · rw [List.map_cons, List.map_cons, k2, show a.eval x = _ from e.rep]
    · cases h
def capD (L : St) : List Operand → Option (Row × List Nat × List D)
  | [] => some ([], [], [])
  | x :: xs => match opd L x with
    | some (r, y) => match hdd L y, capD L xs with
      | some (r1, zs, d), some (r2, zs', ds) => some (r ++ (r1 ++ r2), zs ++ zs', d :: ds)
      | _, _ => none
    | none => none
theorem capD_rd : ∀ {xs : List Operand} {r : Row} {y : List Nat × List D}, capD L xs = some (r, y) → Rd L r
  | [], r, y, h => by simp only [capD, Option.some.injEq, Prod.mk.injEq] at h; rw [← h.1]; exact Rd.nil
  | x :: xs, r, y, h => by
    unfold capD at h
    split at h
    · rename_i h0
      split at h
      · rename_i h1 h2
        simp only [Option.some.injEq, Prod.mk.injEq] at h
        rw [← h.1]; exact Rd.app (opd_rd h0) (Rd.app (hdd_rd h1) (capD_rd h2))
      · cases h
    · cases h
theorem capD_ok : ∀ {xs : List Operand} {r : Row} {zs : List Nat} {ds : List D}, capD L xs = some (r, zs, ds) → ASG C G σ a w → Rd σ r → (∀ z ∈ zs, Uz σ z) ∧ ((∀ z ∈ zs, Lv σ z) → xs.length = ds.length ∧ ∀ (i : Nat) (d : D), ds[i]? = some d → RepD (G.zu zs) w ((xs.map a.eval).getD i undef) d)
  | [], r, zs, ds, h, _, _ => by simp only [capD, Option.some.injEq, Prod.mk.injEq] at h; obtain ⟨_, rfl, rfl⟩ := h; simp
  | x :: xs, r, zs, ds, h, hA, hr => by
    unfold capD at h
    split at h
    · rename_i r0 y h0
      split at h
      · rename_i r1 z1 d r2 z2 ds' h1 h2
        simp only [Option.some.injEq, Prod.mk.injEq] at h
        obtain ⟨rfl, rfl, rfl⟩ := h
        obtain ⟨e1, e2⟩ := hdd_ok h1 hA hr.right.left (opd_ok h0 hA hr.left)
        obtain ⟨k1, k2⟩ := capD_ok h2 hA hr.right.right
        refine ⟨fun z hz => ?_, fun hl => ?_⟩
        · rcases List.mem_append.1 hz with hz | hz
          · exact e1 z hz
          · exact k1 z hz
        · obtain ⟨q1, q2⟩ := k2 fun z hz => hl z (List.mem_append_right _ hz)
          refine ⟨by simp [q1], fun i d' hi => ?_⟩
          cases i with
          | zero =>
            simp only [List.getElem?_cons_zero, Option.some.injEq] at hi; subst hi
            exact (e2 fun z hz => hl z (List.mem_append_left _ hz)).mono fun g ⟨z, hz, hg⟩ => ⟨z, List.mem_append_left _ hz, hg⟩
          | succ i =>
            have := q2 i d' (by simpa using hi)
            exact RepD.mono (Z := G.zu z2) (by simpa using this) fun g ⟨z, hz, hg⟩ => ⟨z, List.mem_append_right _ hz, hg⟩
      · cases h
    · cases h
theorem run_makeFunc {f : FuncId} {fi ca : Array Operand} (ho : o.op = .makeFunc (.func f) fi ca) (hfi : fi.toList = []) (w : World) : (execOp a.eval o).run P w = .ok (.value (.func (.func f) #[] (ca.map a.eval))) w := by
  obtain rfl : fi = #[] := by apply Array.ext'; simpa using hfi
  simp [execOp, ho, Instr.makeFunc]
theorem op_fn {f : FuncId} {fi ca : Array Operand} {r : Row} {ns : List Nat} (ho : o.op = .makeFunc (.func f) fi ca) (hfi : fi.toList = []) (hc : capN L ca.toList = some (r, ns)) (hd : ∀ d, o.dst = some d → d < C.N) : OpOk P C o ⟨r, wr o.dst (.fn f ns)⟩ := by
  refine OpOk.pure (fun c => by simp [ho]) hd fun G σ a w hA hr => ?_
  obtain ⟨k1, k2⟩ := capN_ok hc hA hr
  refine ⟨_, run_makeFunc ho hfi w, k1, ?_⟩
  show Value.func _ _ _ = Value.func _ _ _
  rw [← k2]
  congr 1
  apply Array.ext'
  simp
theorem op_fnd {f : FuncId} {fi ca : Array Operand} {r : Row} {zs : List Nat} {ds : List D} (ho : o.op = .makeFunc (.func f) fi ca) (hfi : fi.toList = []) (hc : capD L ca.toList = some (r, zs, ds)) (hd : ∀ d, o.dst = some d → d < C.N) : OpOk P C o ⟨r, wr o.dst (.c zs (.f f ds))⟩ := by
  refine OpOk.pure (fun c => by simp [ho]) hd fun G σ a w hA hr => ?_
  obtain ⟨k1, k2⟩ := capD_ok hc hA hr
  refine ⟨_, run_makeFunc ho hfi w, k1, fun hl => ?_⟩
  obtain ⟨q1, q2⟩ := k2 hl
  refine .f f ds _ (by simpa using q1) fun i x hi => ?_
  have e : (ca.map a.eval).getD i undef = (ca.toList.map a.eval).getD i undef := by simp [Array.getD_eq_getD_getElem?, List.getD]
  rw [e]; exact q2 i x hi
theorem op_fn0 {f : FuncId} {fi ca : Array Operand} (ho : o.op = .makeFunc (.func f) fi ca) (hfi : fi.toList = []) (hc : ca.toList = []) (hd : ∀ d, o.dst = some d → d < C.N) : OpOk P C o ⟨[], wr o.dst (.c [] (.v (.func (.func f) #[] #[])))⟩ := by
  obtain rfl : ca = #[] := by apply Array.ext'; simpa using hc
  refine OpOk.pure (fun c => by simp [ho]) hd fun G σ a w hA hr => ?_
  have := run_makeFunc (P := P) (a := a) ho hfi w
  exact ⟨_, this, by simpa using rep_raw _⟩
end

def setV (vals : List Value) (off : Nat) : List Value → List Value
  | [] => vals
  | v :: vs => setV (vals.set off v) (off + 1) vs
theorem setV_get : ∀ (vs vals : List Value) (off k : Nat), off + vs.length ≤ vals.length → (setV vals off vs).getD k undef = if off ≤ k ∧ k < off + vs.length then vs.getD (k - off) undef else vals.getD k undef
  | [], vals, off, k, _ => by rw [setV, if_neg (by simp)]
  | v :: vs, vals, off, k, h => by
    simp only [List.length_cons] at h
    rw [setV, setV_get vs _ _ _ (by simp; omega)]
    by_cases e : k = off
    · subst e
      rw [if_neg (by omega), if_pos (by simp)]
      have : k < vals.length := by omega
      simp [List.getD, this]
    · by_cases h1 : off + 1 ≤ k ∧ k < off + 1 + vs.length
      · rw [if_pos h1, if_pos (by simp; omega), show k - off = (k - (off + 1)) + 1 by omega]
        simp [List.getD]
      · rw [if_neg h1, if_neg (by simp; omega)]
        simp only [List.getD]
        rw [List.getElem?_set_ne (by omega)]
theorem setV_one : ∀ (vs vals : List Value) (off : Nat), (∀ u ∈ vals, u.oneCell' = true) → (∀ u ∈ vs, u.oneCell' = true) → ∀ u ∈ setV vals off vs, u.oneCell' = true
  | [], _, _, h, _ => h
  | v :: vs, vals, off, h, k => by
    rw [setV]
    refine setV_one vs _ _ (fun u hu => ?_) (fun u hu => k u (List.mem_cons_of_mem _ hu))
    rcases List.mem_or_eq_of_mem_set hu with hu | rfl
    · exact h u hu
    · exact k _ List.mem_cons_self
def setD (row : List D) (j : Nat) (ds : List D) : List D := row.take j ++ (ds ++ row.drop (j + ds.length))
theorem setD_len {row : List D} {j : Nat} {ds : List D} (h : j + ds.length ≤ row.length) : (setD row j ds).length = row.length := by
  simp [setD]; omega
theorem setD_get {row : List D} {j : Nat} {ds : List D} (h : j + ds.length ≤ row.length) (k : Nat) : (setD row j ds)[k]? = if j ≤ k ∧ k < j + ds.length then ds[k - j]? else row[k]? := by
  unfold setD
  by_cases h1 : k < j
  · rw [if_neg (by omega), List.getElem?_append_left (by simp; omega), List.getElem?_take, if_pos h1]
  · rw [List.getElem?_append_right (by simp; omega)]
    have e : k - (row.take j).length = k - j := by simp; omega
    rw [e]
    by_cases h2 : k < j + ds.length
    · rw [if_pos (by omega), List.getElem?_append_left (by omega)]
    · rw [if_neg (by omega), List.getElem?_append_right (by omega), List.getElem?_drop]
      congr 1
      omega
section
variable {P : Program} {C : Cx} {G : Gh} {σ : St} {a : Act} {w : World} {o : Oper} {L : St} {T : Tab P}
theorem HdOk.at_ {h E sz y : Nat} {zs : List Nat} {rows : List (List D)} (k : HdOk G σ w h E sz y zs rows) (hy : Lv σ y) (hr : 0 < rows.length) : ∃ g cap, G.τ h = .slice (some ⟨g, 0, none⟩) rows.length cap ∧ G.ζ y g := by
  obtain ⟨k1, vals, k2, _⟩ := k.own hy
  rcases k2.2 with ⟨_, e⟩ | ⟨g, cap, cur, e, _⟩
  · omega
  · exact ⟨g, cap, e, (k1 g).2 (by rw [e]; rfl)⟩
theorem op_oiaddr {t e : TypeId} {ti ei : TI} {x ix : Operand} {r r' : Row} {h E sz y : Nat} {zs : List Nat} {rows : List (List D)} {k : IntKind} {n : Int} {j : Nat} (ho : o.op = .indexAddr t x ix) (ht : T.f t = some ti) (hsh : ti.sh = .slice e) (he : T.f e = some ei)
    (hx : opd L x = some (r, .own h)) (hh : L (.hd h) = .hd (.own E sz y zs rows)) (hy : L (.zn y) = .zn .live) (hsz : sz = ei.size) (hi : opr L ix = some (r', .int k n)) (hj : n = (j : Int)) (hrow : j < rows.length) (hd : ∀ d, o.dst = some d → d < C.N) :
    OpOk P C o ⟨(.hd h, .hd (.own E sz y zs rows)) :: (.zn y, .zn .live) :: (r ++ r'), wr o.dst (.optr h sz j 0)⟩ := by
  refine OpOk.pure (fun c => by simp [ho]) hd fun G σ a w hA hr => ?_
  have hhd := hr.head
  have hy : Lv σ y := hr.tail.head
  have hr := hr.tail.tail
  have hx' := opd_ok hx hA hr.left
  have ei' := opr_ok hi hA hr.right
  obtain ⟨g, cap, e1, hg⟩ := (hA.hd h _ _ _ _ _ hhd).at_ hy (by omega)
  have hu := (T.ok t ti ht).slice hsh
  have hs := (T.ok e ei he).run_size w
  refine ⟨.pointer (some ⟨g, 0 + j * ei.size, none⟩), ?_, hx'.ok, fun _ => ⟨g, by rw [e1]; rfl, by subst hsz; simp⟩⟩
  subst hj
  have c1 : (0 : Int) ≤ (j : Int) ∧ (j : Int) < (rows.length : Int) := by omega
  have e2 : a.eval x = .slice (some ⟨g, 0, none⟩) rows.length cap := (hx'.rep ⟨_, _, _, _, _, hhd⟩).trans e1
  simp [execOp, ho, Instr.indexAt, e2, ei', asIntOf, run_underlying hu, c1, hs, add_none]
  omega
theorem op_ofaddr {s : TypeId} {si : TI} {fs : List (Nat × TypeId)} {f fo : Nat} {ft : TypeId} {fi : TI} {x : Operand} {r : Row} {h E sz y i j : Nat} {zs : List Nat} {rows : List (List D)} (ho : o.op = .fieldAddr s x f) (hs : T.f s = some si) (hsh : si.sh = .struct fs) (hf : fs[f]? = some (fo, ft)) (hft : T.f ft = some fi) (hne : fi.size ≠ 0)
    (hx : opd L x = some (r, .optr h sz i j)) (hh : L (.hd h) = .hd (.own E sz y zs rows)) (hd : ∀ d, o.dst = some d → d < C.N) : OpOk P C o ⟨(.hd h, .hd (.own E sz y zs rows)) :: r, wr o.dst (.optr h sz i (j + fo))⟩ := by
  refine OpOk.pure (fun c => by simp [ho]) hd fun G σ a w hA hr => ?_
  have e := opd_ok hx hA hr.tail
  obtain ⟨g, e1, e2⟩ := e.rep ⟨_, _, _, _, _, hr.head⟩
  refine ⟨.pointer (some ⟨g, i * sz + j + fo, none⟩), ?_, e.ok, fun _ => ⟨g, e1, by rw [Nat.add_assoc]⟩⟩
  simp only [execOp, ho]
  rw [e2]
  simp [run_fieldAt (w := w) hs hsh hf hft hne]
theorem optr_cells {h E sz y i j : Nat} {zs : List Nat} {rows : List (List D)} {row : List D} {v : Value} (hA : ASG C G σ a w) (hh : σ (.hd h) = .hd (.own E sz y zs rows)) (hy : Lv σ y) (hz : ∀ z ∈ zs, Lv σ z) (hrow : rows[i]? = some row) (hx : AV.rep G σ w v (.optr h sz i j)) :
    ∃ g, v = .pointer (some ⟨g, i * sz + j, none⟩) ∧ ∀ (k : Nat) (x : D), (row.drop j)[k]? = some x → ∃ u, w.cell? ⟨g, i * sz + j + k, none⟩ = some u ∧ RepD (G.zu zs) w u x := by
  obtain ⟨g, e1, e2⟩ := hx ⟨_, _, _, _, _, hh⟩
  refine ⟨g, e2, fun k x hk => ?_⟩
  obtain ⟨k1, vals, k2, k3, k4, k5⟩ := (hA.hd h _ _ _ _ _ hh).own hy
  rw [List.getElem?_drop] at hk
  have hlt : j + k < row.length := (List.getElem?_eq_some_iff.1 hk).1
  have hil : i < rows.length := (List.getElem?_eq_some_iff.1 hrow).1
  have hrl := k4 i row hrow
  have hb : i * sz + (j + k) < rows.length * sz := by
    have : (i + 1) * sz ≤ rows.length * sz := Nat.mul_le_mul_right _ hil
    rw [Nat.succ_mul] at this
    omega
  rcases k2.2 with ⟨_, e⟩ | ⟨g', cap, cur, e, _⟩
  · omega
  · rw [e] at e1 k2
    simp only [Value.ownBlock, Option.some.injEq] at e1
    subst e1
    have hc := World.ownsRow.cellAt k2 (i * sz + (j + k)) hb
    have hvl : i * sz + (j + k) < vals.length := by rw [k2.1]; exact hb
    refine ⟨vals.getD (i * sz + (j + k)) undef, ?_, k5 hz i row (j + k) x hrow hk⟩
    rw [Nat.add_assoc, hc]
    simp [List.getD, hvl]
theorem op_oload_row {t : TypeId} {ti : TI} {x : Operand} {r r' : Row} {h E sz y i j : Nat} {zs : List Nat} {rows : List (List D)} {row : List D} (ho : o.op = .load t x) (ht : T.f t = some ti) (hg : ti.sh.agg = true) (hx : opd L x = some (r, .optr h sz i j)) (hh : L (.hd h) = .hd (.own E sz y zs rows)) (hz : zr L (y :: zs) = some r') (hrow : rows[i]? = some row) (hl : ti.size ≤ (row.drop j).length) (hd : ∀ d, o.dst = some d → d < C.N) :
    OpOk P C o ⟨(.hd h, .hd (.own E sz y zs rows)) :: (r ++ r'), wr o.dst (.agg (((row.drop j).take ti.size).map fun x => (nz zs x, x)))⟩ := by
  refine OpOk.pure (fun c => by simp [ho]) hd fun G σ a w hA hr => ?_
  have hhd := hr.head
  have hr := hr.tail
  have e := opd_ok hx hA hr.left
  have lz := zr_ok hz hr.right
  obtain ⟨g, e1, k⟩ := optr_cells hA hhd (lz y List.mem_cons_self) (fun z hz => lz z (List.mem_cons_of_mem _ hz)) hrow e.rep
  generalize row.drop j = ds at *
  have hf : ∀ q (h : q < ti.size), ∃ u, w.cell? ⟨g, i * sz + j + q, none⟩ = some u ∧ RepD (G.zu zs) w u (ds[q]'(by omega)) := fun q h => k q (ds[q]'(by omega)) (List.getElem?_eq_getElem (by omega))
  let f : Nat → Value := fun q => if h : q < ti.size then (hf q h).choose else undef
  have hf1 : ∀ q (h : q < ti.size), f q = (hf q h).choose := fun q h => dif_pos h
  refine ⟨.agg ((List.range ti.size).map f).toArray, ?_, ?_⟩
  · have := run_load_agg (w := w) ht hg g (i * sz + j) f (fun q hj => by rw [hf1 q hj]; exact (hf q hj).choose_spec.1)
    simp only [execOp, ho]
    rw [e1]
    simp [this]
  · refine rep_agg (fun q zs' d hi => ?_) (by simp; omega)
    have hi' : q < ti.size := by
      have := (List.getElem?_eq_some_iff.1 hi).1
      simp at this
      omega
    have e2 : ((List.range ti.size).map f).toArray.getD q undef = f q := by simp [Array.getD_eq_getD_getElem?, hi']
    rw [e2, hf1 q hi']
    simp only [List.getElem?_map, List.getElem?_take, if_pos hi', List.getElem?_eq_getElem (show q < ds.length by omega), Option.map_some, Option.some.injEq, Prod.mk.injEq] at hi
    obtain ⟨rfl, rfl⟩ := hi
    exact ⟨fun z hz => (lz z (List.mem_cons_of_mem _ (nz_sub _ _ hz))).used, fun _ => nz_rep (hf q hi').choose_spec.2⟩
theorem op_oload_one {t : TypeId} {ti : TI} {x : Operand} {r r' : Row} {h E sz y i j : Nat} {zs : List Nat} {rows : List (List D)} {row : List D} {d : D} {ds : List D} (ho : o.op = .load t x) (ht : T.f t = some ti) (hg : ti.sh.agg = false) (hx : opd L x = some (r, .optr h sz i j)) (hh : L (.hd h) = .hd (.own E sz y zs rows)) (hz : zr L (y :: zs) = some r') (hrow : rows[i]? = some row) (hl : row.drop j = d :: ds) (hd : ∀ d, o.dst = some d → d < C.N) :
    OpOk P C o ⟨(.hd h, .hd (.own E sz y zs rows)) :: (r ++ r'), wr o.dst (.c (nz zs d) d)⟩ := by
  refine OpOk.pure (fun c => by simp [ho]) hd fun G σ a w hA hr => ?_
  have hhd := hr.head
  have hr := hr.tail
  have e := opd_ok hx hA hr.left
  have lz := zr_ok hz hr.right
  obtain ⟨g, e1, k⟩ := optr_cells hA hhd (lz y List.mem_cons_self) (fun z hz => lz z (List.mem_cons_of_mem _ hz)) hrow e.rep
  rw [hl] at k
  obtain ⟨u, k1, k2⟩ := k 0 d rfl
  refine ⟨u, ?_, rep_nz (fun z hz => (lz z (List.mem_cons_of_mem _ hz)).used) k2⟩
  simp only [execOp, ho]
  rw [e1]
  simp [run_load_word (w := w) ht hg g (i * sz + j) u k1]
theorem run_ostores {g n cap E sz : Nat} : ∀ (vs : List Value) (base i : Nat) (w : World) (vals : List Value), w.ownsRow 0 E sz (.slice (some ⟨g, 0, none⟩) n cap) n vals → base + i + vs.length ≤ n * sz → (∀ u ∈ vs, u.oneCell' = true) →
    ∃ w', (storeCells ⟨g, base, none⟩ vs i).run P w = .ok () w' ∧ w'.ownsRow 0 E sz (.slice (some ⟨g, 0, none⟩) n cap) n (setV vals (base + i) vs) ∧ Keeps (fun b => b ≠ g) w w'
  | [], base, i, w, vals, h, _, _ => ⟨w, rfl, h, Keeps.refl _ _⟩
  | v :: vs, base, i, w, vals, h, hb, h1 => by
    simp only [List.length_cons] at hb
    obtain ⟨q1, q2⟩ := World.ownsRow.stored h (base + i) v
    obtain ⟨w', k1, k2, k3⟩ := run_ostores vs base (i + 1) (w.setCell ⟨g, base + i, none⟩ v) _ q1 (by omega) (fun u hu => h1 u (List.mem_cons_of_mem _ hu))
    refine ⟨w', ?_, by rw [setV]; rw [show base + i + 1 = base + (i + 1) by omega]; exact k2, Keeps.trans ⟨q2.os, q2.tape, q2.output, q2.size, fun k hk hne => q2.block k hk fun e => hne (Option.some.inj e)⟩ k3⟩
    have hc := World.ownsRow.cellAt h (base + i) (by omega)
    have hv : base + i < vals.length := by rw [h.1]; omega
    rw [List.getElem?_eq_getElem hv] at hc
    have hfz := World.ownsRow.frozenAt h (base + i)
    have hst : (store ((⟨g, base, none⟩ : Addr).add i) v).run P w = .ok () (w.setCell ⟨g, base + i, none⟩ v) := by
      rw [add_none, run_store P w _ v _ (h1 v List.mem_cons_self), hc]
      simp [hfz]
    simp only [storeCells, Sem.run_bind, hst, Result.andThen_ok]
    exact k1
theorem ASG.over (hA : ASG C G σ a w) {n E sz yz z : Nat} {zs1 zs' : List Nat} {rows rows' : List (List D)} {w' : World} (hh : σ (.hd n) = .hd (.own E sz yz zs1 rows)) (hyl : Lv σ yz) (hp : yz ∉ C.pz) (z0 : z ∉ C.pz) (hz : σ (.zn z) = .zn .free) (hlv : ∀ z' ∈ zs', Lv σ z')
    (hk : Keeps (fun b => (G.τ n).ownBlock ≠ some b) w w') (hrow' : RowAt (G.zu zs') w' (G.τ n) E sz rows' True) : AS C (ovr σ [(.hd n, .hd (.own E sz z zs' rows')), (.zn z, .zn .live), (.zn yz, .zn .dead)]) a w' := by
  have hzy : z ≠ yz := fun e => by subst e; unfold Lv at hyl; rw [hz] at hyl; cases hyl
  obtain ⟨k1, k2⟩ := (hA.hd n _ _ _ _ _ hh).own hyl
  have hL : Lesser σ (ovr σ [(.zn yz, .zn .dead)]) := lesser_dead (σ := σ) [yz]
  have g0 : ASG C G (ovr σ [(.zn yz, .zn .dead)]) a w := hA.less hL
  have gne : ∀ z', Lv (ovr σ [(.zn yz, .zn .dead)]) z' → z' ≠ yz ∧ Lv σ z' := fun z' h' => by
    refine ⟨?_, hL.lv h'⟩
    rintro rfl
    unfold Lv at h'; rw [ovr_one] at h'; cases h'
  have mine : ∀ g, (G.τ n).ownBlock = some g → Mine C G (ovr σ [(.zn yz, .zn .dead)]) w g := fun g hg => by
    have hg := (k1 g).2 hg
    refine ⟨(hA.sep yz g hyl hg).1, (hA.new yz g hp hyl hg).1, fun m hm => ?_, fun z hz hg' => ?_, fun c i e hi e' => ?_, fun p hpp e => (hA.ob p hpp).nz yz hyl (e ▸ hg)⟩
    · have hm' : Nm σ m := by unfold Nm at hm ⊢; rw [← hL.nm]; exact hm
      exact (hA.sep yz g hyl hg).2 m hm'
    · obtain ⟨a1, a2⟩ := gne z hz
      exact hA.disj z yz g a1 a2 hyl hg' hg
    · obtain ⟨k', d1, d2⟩ := hA.df
      rw [hL.df, d1] at e; cases e
      exact (d2.ok i hi).nz yz hyl (e' ▸ hg)
  obtain ⟨g1, e1⟩ := g0.step hk (fun k hb h => (mine k h).nb hb) (fun m hm h => (mine _ h).nn m hm rfl) (fun y' g hy' hg h => (mine g h).nz y' hy' hg) (fun k i e hi h => (mine _ h).nd k i e hi rfl) (fun p hp h => (mine _ h).no p hp rfl)
  have soft : ∀ g, (G.τ n).ownBlock = some g → Soft w' g := fun g hg => by
    obtain ⟨vals, q3, _⟩ := hrow'
    rcases q3.2 with ⟨h, _⟩ | ⟨g', cap, cur, h, _, e, _⟩
    · rw [h] at hg; cases hg
    · rw [h] at hg; simp only [Value.ownBlock, Option.some.injEq] at hg; subst hg; exact .mk e
  have zf : (ovr σ [(.zn yz, .zn .dead)]) (.zn z) = .zn .free := by rw [ovr_one_ne _ _ _ (by simpa using hzy)]; exact hz
  obtain ⟨g2, e2⟩ := g1.addzone z0 zf (fun g => (G.τ n).ownBlock = some g) fun g hg => ⟨⟨(soft g hg).lt, (mine g hg).nb, (mine g hg).nn, (mine g hg).nz, (mine g hg).nd, (mine g hg).no⟩, soft g hg⟩
  have hnz : ∀ z' ∈ zs', z' ≠ z := fun z' hz' e => by
    have := hlv z' hz'; rw [e] at this; unfold Lv at this; rw [hz] at this; cases this
  have g3 := g2.rehd (n := n) (E := E) (sz := sz) (y := z) (zs := zs') (rows := rows') ⟨E, sz, yz, zs1, rows, by rw [ovr_one_ne _ _ _ (by simp), ovr_one_ne _ _ _ (by simp)]; exact hh⟩ ?_
  · rw [ovr_ovr, ovr_ovr] at g3
    exact ⟨_, by simpa using g3⟩
  · refine ⟨by unfold Uz; rw [ovr_one]; simp, fun z' hz' => e2.uz z' (e1.uz z' ((hL.evo (G := G) (w := w)).uz z' (hlv z' hz').used)), fun _ => ⟨fun g => by simp, ?_⟩⟩
    obtain ⟨vals, p1, p2, p3, p4⟩ := hrow'
    refine ⟨vals, p1, p2, p3, fun hl' i r j x hi hj => ?_⟩
    exact (p4 trivial i r j x hi hj).mono fun g ⟨z', hz', hg⟩ => ⟨z', hz', by simpa [hnz z' hz'] using hg⟩
theorem op_ostore {t : TypeId} {ti : TI} {x v : Operand} {r r1 r2 r3 r4 : Row} {h E sz y i j z : Nat} {zs : List Nat} {rows : List (List D)} {row : List D} {av : AV} {cs : List (List Nat × D)} (ho : o.op = .store t x v) (hdst : o.dst = none) (ht : T.f t = some ti) (hx : opd L x = some (r, .optr h sz i j)) (hh : L (.hd h) = .hd (.own E sz y zs rows)) (hy : L (.zn y) = .zn .live) (hzs : zr L zs = some r3)
    (hv : opd L v = some (r1, av)) (hs : spreadD L av = some (r2, cs)) (hzc : zr L (zsAll cs) = some r4) (hl : cs.length = ti.size) (hoc : cs.all (fun c => ocD c.2) = true) (hrow : rows[i]? = some row) (hj : j + cs.length ≤ row.length) (hny : (zs ++ zsAll cs).contains y = false) (hp : y ∉ C.pz) (z0 : z ∉ C.pz) (hf : L (.zn z) = .zn .free) :
    OpOk P C o ⟨(.zn z, .zn .free) :: (.hd h, .hd (.own E sz y zs rows)) :: (.zn y, .zn .live) :: (r ++ (r1 ++ (r2 ++ (r3 ++ r4)))), [(.hd h, .hd (.own E sz z (zs ++ zsAll cs) (rows.set i (setD row j (cs.map (·.2)))))), (.zn z, .zn .live), (.zn y, .zn .dead)]⟩ := by
  intro σ a w K ⟨G, hA⟩ hr hK
  have hzf := hr.head
  have hhd := hr.tail.head
  have hyl : Lv σ y := hr.tail.tail.head
  have hrr := hr.tail.tail.tail
  have ex := opd_ok hx hA hrr.left
  have ev := opd_ok hv hA hrr.right.left
  obtain ⟨c1, c2⟩ := spreadD_ok hs hA hrr.right.right.left ev
  have lzs := zr_ok hzs hrr.right.right.right.left
  have lzc := zr_ok hzc hrr.right.right.right.right
  have hlv : ∀ z' ∈ zs ++ zsAll cs, Lv σ z' := fun z' hz' => by
    rcases List.mem_append.1 hz' with h | h
    · exact lzs z' h
    · exact lzc z' h
  have mem : ∀ (q : Nat) (zz : List Nat) (d : D), cs[q]? = some (zz, d) → ∀ z' ∈ zz, z' ∈ zsAll cs := fun q zz d hq z' hz' => List.mem_flatMap.2 ⟨(zz, d), List.mem_of_getElem? hq, hz'⟩
  obtain ⟨g, e1, e2⟩ := ex.rep ⟨_, _, _, _, _, hhd⟩
  obtain ⟨k1, vals, k2, k3, k4, k5⟩ := (hA.hd h _ _ _ _ _ hhd).own hyl
  have hrl := k4 i row hrow
  have hil : i < rows.length := (List.getElem?_eq_some_iff.1 hrow).1
  have hb : i * sz + sz ≤ rows.length * sz := by
    have : (i + 1) * sz ≤ rows.length * sz := Nat.mul_le_mul_right _ hil
    rwa [Nat.succ_mul] at this
  rcases k2.2 with ⟨_, e⟩ | ⟨g', cap, cur, e, _⟩
  · omega
  have eb : (G.τ h).ownBlock = some g := e1
  rw [e] at e1
  simp only [Value.ownBlock, Option.some.injEq] at e1
  subst e1
  rw [e] at k2
  have c3 : (a.eval v).cells.toList.length = cs.length := by simpa using c1
  have one : ∀ u ∈ (a.eval v).cells.toList, u.oneCell' = true := fun u hu => by
    obtain ⟨q, hq⟩ := List.mem_iff_getElem?.1 hu
    have hql : q < cs.length := by have := (List.getElem?_eq_some_iff.1 hq).1; omega
    have hcq := c2 q cs[q].1 cs[q].2 (List.getElem?_eq_getElem hql)
    have : (a.eval v).cells.getD q undef = u := by
      have h2 : (a.eval v).cells[q]? = some u := by rw [← Array.getElem?_toList]; exact hq
      simp [Array.getD_eq_getD_getElem?, h2]
    rw [this] at hcq
    refine ocD_ok (List.all_eq_true.1 hoc _ (List.getElem_mem hql)) (hcq.2 fun z' hz' => lzc z' (mem q _ _ (List.getElem?_eq_getElem hql) z' hz'))
  obtain ⟨w', s1, s2, s3⟩ := run_ostores (P := P) (a.eval v).cells.toList (i * sz + j) 0 w vals k2 (by omega) one
  have er : (execOp a.eval o).run P w = .ok .skip w' := by
    have hsz := (T.ok t ti ht).run_size w
    have hne : (a.eval v).cells.size = ti.size := by rw [c1, hl]
    simp only [execOp, ho]
    rw [e2]
    simp [Instr.storeAt, Instr.sureAddr, storeVar, hsz, hne, s1]
  have hbel : KeptZ (G.zu (zs ++ zsAll cs)) (G.zu (zs ++ zsAll cs)) w w' := fun b ⟨z', hz', hb'⟩ hlt => ⟨⟨z', hz', hb'⟩, s3.block b hlt fun eq => by
    subst eq
    have : z' ≠ y := fun e => by subst e; rw [Bool.eq_false_iff] at hny; exact hny (by simpa using hz')
    exact hA.disj z' y _ this (hlv z' hz') hyl hb' ((k1 _).2 eb)⟩
  refine ⟨fun c => by simp [ho], .inr (.inl ⟨w', er, ?_⟩)⟩
  rw [hdst]
  refine hK _ _ (hA.over hhd hyl hp z0 hzf hlv ⟨s3.os, s3.tape, s3.output, s3.size, fun b hb hne => s3.block b hb fun eq => by subst eq; exact hne eb⟩ ?_)
  have rl : (rows.set i (setD row j (cs.map (·.2)))).length = rows.length := by simp
  have dl : (cs.map (·.2)).length = cs.length := by simp
  refine ⟨setV vals (i * sz + j) (a.eval v).cells.toList, by rw [rl, e]; simpa using s2, setV_one _ _ _ k3 one, fun q rr hq => ?_, fun _ q rr p d hq hp' => ?_⟩
  · by_cases hqi : q = i
    · subst hqi
      rw [List.getElem?_set_self (by omega)] at hq
      cases hq
      rw [setD_len (by omega)]
      exact hrl
    · rw [List.getElem?_set_ne (fun e => hqi e.symm)] at hq
      exact k4 q rr hq
  · have hvl := k2.1
    rw [setV_get _ _ _ _ (by omega)]
    by_cases hqi : q = i
    · subst hqi
      rw [List.getElem?_set_self (by omega)] at hq
      cases hq
      rw [setD_get (by omega)] at hp'
      by_cases hin : j ≤ p ∧ p < j + cs.length
      · rw [if_pos (by omega)] at hp'
        rw [if_pos (by omega), show q * sz + p - (q * sz + j) = p - j by omega]
        rw [List.getElem?_map, Option.map_eq_some_iff] at hp'
        obtain ⟨⟨zz, d'⟩, h1, rfl⟩ := hp'
        have := (c2 (p - j) zz d' h1).2 fun z' hz' => lzc z' (mem _ _ _ h1 z' hz')
        have e4 : (a.eval v).cells.toList.getD (p - j) undef = (a.eval v).cells.getD (p - j) undef := by simp [List.getD, Array.getD_eq_getD_getElem?]
        rw [e4]
        exact (this.mono fun b ⟨z', hz', hb'⟩ => ⟨z', List.mem_append_right _ (mem _ _ _ h1 z' hz'), hb'⟩).evo hbel
      · rw [if_neg (by omega)] at hp'
        rw [if_neg (by omega)]
        exact ((k5 lzs q row p d hrow hp').mono fun b ⟨z', hz', hb'⟩ => ⟨z', List.mem_append_left _ hz', hb'⟩).evo hbel
    · rw [List.getElem?_set_ne (fun e => hqi e.symm)] at hq
      have hpl : p < sz := by have := (List.getElem?_eq_some_iff.1 hp').1; have := k4 q rr hq; omega
      rw [if_neg]
      · exact ((k5 lzs q rr p d hq hp').mono fun b ⟨z', hz', hb'⟩ => ⟨z', List.mem_append_left _ hz', hb'⟩).evo hbel
      · rintro ⟨h1, h2⟩
        rcases Nat.lt_or_gt_of_ne hqi with hlt | hlt
        · have : (q + 1) * sz ≤ i * sz := Nat.mul_le_mul_right _ hlt
          rw [Nat.succ_mul] at this
          omega
        · have : (i + 1) * sz ≤ q * sz := Nat.mul_le_mul_right _ hlt
          rw [Nat.succ_mul] at this
          omega
end
end Go.Proofs.Ytlkdkhmdmgchbaa
