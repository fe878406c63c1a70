/- The second logic: a range over a function. -/
import Derived.Test.YtlkdkhmdmgchbaaJB
import Derived.Test.YtlkdkhmdmgchbaaH2
namespace Go.Proofs.Ytlkdkhmdmgchbaa
set_option linter.unusedSimpArgs false
set_option linter.unusedVariables false
open Go.RowKit

/-- what an iterator asks of a round: its blocks stay. -/
def KZ (Z : Zone) (w A B : World) : Prop := ∀ g, Z g → g < w.heap.size → B.heap[g]? = A.heap[g]?
theorem KZ.trans {Z : Zone} {w A B C : World} (h : KZ Z w A B) (k : KZ Z w B C) : KZ Z w A C := fun g h1 h2 => (k g h1 h2).trans (h g h1 h2)
theorem Iter.mono {P : Program} {g : Nat} {lb : Array Value} {α : Type} {encs : α → Array Value} {K : Nat → Prop} {Pre Pre' : World → Prop} {Kp Kp' : World → World → Prop} {Sx Sx' : List α → α → Prop} {S S' Sp Sp' : List α → Prop}
    (h : Iter P g lb encs K Pre Kp Sx S Sp) (h1 : ∀ W, Pre' W → Pre W) (h2 : ∀ A B, Kp' A B → Kp A B) (h3 : ∀ l x, Sx l x → Sx' l x) (h4 : ∀ l, S l → S' l) (h5 : ∀ l, Sp l → Sp' l) : Iter P g lb encs K Pre' Kp' Sx' S' Sp' := by
  intro l J Jx W hp j1 j2 hy h0
  refine (h l J Jx W (h1 W hp) j1 j2 (fun pre x W1 hj hs => (hy pre x W1 hj (h3 _ _ hs)).mono ?_) h0).mono ?_
  · rintro e w (⟨a, b, c⟩ | h)
    · exact .inl ⟨a, b, h2 _ _ c⟩
    · exact .inr h
  · rintro e w ⟨a, (⟨xs, b, c⟩ | ⟨xs, b, c⟩)⟩
    · exact ⟨a, .inl ⟨xs, h4 _ b, c⟩⟩
    · exact ⟨a, .inr ⟨xs, h5 _ b, c⟩⟩
/-- a function that tells these rows of data, one behind the other; it changes nothing, and leans on blocks that stay. -/
def ItOk (P : Program) (l : List (List DV)) (Z : Zone) (w : World) (v : Value) : Prop := ∃ gf lb, v = .func (.func gf) #[] lb ∧ (∀ args w, (callFunc gf args).run P w = .ok (.enter gf args) w) ∧
  Iter P gf lb (fun vs => vs) (fun _ => True) (fun W => KZ Z w w W) (fun A B => KZ Z w A B) (fun pre vs => ∃ x, l[pre.length]? = some x ∧ Reps (fun g => Z g ∧ g < w.heap.size) w vs x) (fun xs => xs.length = l.length) (fun _ => True)
def itP (P : Program) (l : List (List DV)) : SP where
  p := ItOk P l
  evo := by
    rintro Z Z' w w' v ⟨gf, lb, e, h1, h2⟩ hz
    have lt : ∀ g, Z g → g < w.heap.size → g < w'.heap.size := fun g hg hl => by
      obtain ⟨_, b⟩ := hz g hg hl
      rw [Array.getElem?_eq_getElem hl] at b
      exact (Array.getElem?_eq_some_iff.1 b).1
    refine ⟨gf, lb, e, h1, h2.mono (fun W h g hg hl => ?_) (fun A B h g hg hl => h g (hz g hg hl).1 (lt g hg hl)) (fun pre vs ⟨x, a, b⟩ => ⟨x, a, b.1, fun i y hi => (b.2 i y hi).evo fun g ⟨hg, hl⟩ hl' => ⟨⟨(hz g hg hl).1, lt g hg hl⟩, (hz g hg hl).2⟩⟩) (fun _ h => h) (fun _ h => h)⟩
    rw [h g (hz g hg hl).1 (lt g hg hl)]
    exact (hz g hg hl).2
  one := by
    rintro Z w v ⟨gf, lb, rfl, _⟩
    rfl

/-- the frame's slots as older slots; and back. -/
def vtOf : Row → Row
  | [] => []
  | (.tmp t, v) :: L => (.vt 0 t, v) :: vtOf L
  | (.vt _ _, _) :: L => vtOf L
  | kv :: L => kv :: vtOf L
def tmOf : Row → Row
  | [] => []
  | (.vt 0 t, v) :: L => (.tmp t, v) :: tmOf L
  | (.vt _ _, _) :: L => tmOf L
  | (.tmp _, _) :: L => tmOf L
  | kv :: L => kv :: tmOf L
theorem lk_vtOf : ∀ (L : Row) (k : Key), lk (vtOf L) k = match k with | .tmp _ => .unk | .vt 0 t => lk L (.tmp t) | .vt _ _ => .unk | k => lk L k
  | [], k => by cases k <;> first | rfl | (rename_i i t; cases i <;> rfl)
  | (.tmp t, v) :: L, k => by
    have ih := lk_vtOf L k
    cases k with
    | vt i t' =>
      cases i with
      | zero =>
        simp only [vtOf, lk, Key.vt.injEq, Key.tmp.injEq, true_and] at ih ⊢
        rw [ih]
      | succ i => simp only [vtOf, lk] at ih ⊢; rw [if_neg (by simp)]; exact ih
    | _ => simp only [vtOf, lk] at ih ⊢; rw [ih]; simp
  | (.vt i t, v) :: L, k => by
    have ih := lk_vtOf L k
    cases k with
    | vt i' t' =>
      cases i' with
      | zero => simp only [vtOf, lk] at ih ⊢; rw [ih]; simp
      | succ i' => simp only [vtOf, lk] at ih ⊢; exact ih
    | _ => simp only [vtOf, lk] at ih ⊢; rw [ih]; try simp
  | (.cell a b, v) :: L, k => by
    have ih := lk_vtOf L k
    cases k with
    | vt i' t' => cases i' <;> (simp only [vtOf, lk] at ih ⊢; rw [ih]; try simp)
    | _ => simp only [vtOf, lk] at ih ⊢; rw [ih]; try simp
  | (.zn a, v) :: L, k => by
    have ih := lk_vtOf L k
    cases k with
    | vt i' t' => cases i' <;> (simp only [vtOf, lk] at ih ⊢; rw [ih]; try simp)
    | _ => simp only [vtOf, lk] at ih ⊢; rw [ih]; try simp
  | (.nm a, v) :: L, k => by
    have ih := lk_vtOf L k
    cases k with
    | vt i' t' => cases i' <;> (simp only [vtOf, lk] at ih ⊢; rw [ih]; try simp)
    | _ => simp only [vtOf, lk] at ih ⊢; rw [ih]; try simp
  | (.hd a, v) :: L, k => by
    have ih := lk_vtOf L k
    cases k with
    | vt i' t' => cases i' <;> (simp only [vtOf, lk] at ih ⊢; rw [ih]; try simp)
    | _ => simp only [vtOf, lk] at ih ⊢; rw [ih]; try simp
  | (.df, v) :: L, k => by
    have ih := lk_vtOf L k
    cases k with
    | vt i' t' => cases i' <;> (simp only [vtOf, lk] at ih ⊢; rw [ih]; try simp)
    | _ => simp only [vtOf, lk] at ih ⊢; rw [ih]; try simp
theorem lk_tmOf : ∀ (L : Row) (k : Key), lk (tmOf L) k = match k with | .tmp t => lk L (.vt 0 t) | .vt _ _ => .unk | k => lk L k
  | [], k => by cases k <;> rfl
  | (.vt 0 t, v) :: L, k => by
    have ih := lk_tmOf L k
    cases k with
    | tmp t' => simp only [tmOf, lk, Key.vt.injEq, Key.tmp.injEq, true_and] at ih ⊢; rw [ih]
    | _ => simp only [tmOf, lk] at ih ⊢; rw [ih]; try simp
  | (.vt (i + 1) t, v) :: L, k => by
    have ih := lk_tmOf L k
    cases k with
    | tmp t' => simp only [tmOf, lk] at ih ⊢; rw [ih]; simp
    | _ => simp only [tmOf, lk] at ih ⊢; rw [ih]; try simp
  | (.tmp t, v) :: L, k => by
    have ih := lk_tmOf L k
    cases k <;> (simp only [tmOf, lk] at ih ⊢; rw [ih]; try simp)
  | (.cell a b, v) :: L, k => by
    have ih := lk_tmOf L k
    cases k <;> (simp only [tmOf, lk] at ih ⊢; rw [ih]; try simp)
  | (.zn a, v) :: L, k => by
    have ih := lk_tmOf L k
    cases k <;> (simp only [tmOf, lk] at ih ⊢; rw [ih]; try simp)
  | (.nm a, v) :: L, k => by
    have ih := lk_tmOf L k
    cases k <;> (simp only [tmOf, lk] at ih ⊢; rw [ih]; try simp)
  | (.hd a, v) :: L, k => by
    have ih := lk_tmOf L k
    cases k <;> (simp only [tmOf, lk] at ih ⊢; rw [ih]; try simp)
  | (.df, v) :: L, k => by
    have ih := lk_tmOf L k
    cases k <;> (simp only [tmOf, lk] at ih ⊢; rw [ih]; try simp)
/-- the slots of a round at its start: those of the loop's, and what is told. -/
def parRows (zs : List Nat) : List Nat → List DV → Row
  | p :: ps, d :: ds => (.tmp p, .av (atz zs d)) :: parRows zs ps ds
  | _, _ => []
def vtKeys : Row → List Nat
  | [] => []
  | (.vt 0 t, _) :: L => t :: vtKeys L
  | _ :: L => vtKeys L
theorem mem_vtKeys : ∀ {L : Row} {t : Nat}, lk L (.vt 0 t) ≠ .unk → t ∈ vtKeys L
  | [], t, h => absurd rfl h
  | (k, v) :: L, t, h => by
    by_cases e : k = .vt 0 t
    · subst e; simp [vtKeys]
    · simp only [lk, if_neg e] at h
      have := mem_vtKeys h
      unfold vtKeys
      split <;> simp_all
theorem lk_par {zs : List Nat} : ∀ {ps : List Nat} {ds : List DV} {k : Key} {r : Row}, (∀ p ∈ ps, k ≠ .tmp p) → lk (parRows zs ps ds ++ r) k = lk r k
  | [], ds, k, r, h => by cases ds <;> rfl
  | p :: ps, [], k, r, h => rfl
  | p :: ps, d :: ds, k, r, h => by
    simp only [parRows, List.cons_append, lk]
    rw [if_neg (fun e => h p (by simp) e.symm)]
    exact lk_par fun q hq => h q (by simp [hq])
theorem lk_par_at {zs : List Nat} : ∀ {ps : List Nat} {ds : List DV} {t : Nat} {r : Row} {x : AV}, lk (parRows zs ps ds ++ r) (.tmp t) = .av x → (∃ (i : Nat) (d : DV), ps[i]? = some t ∧ ds[i]? = some d ∧ x = atz zs d ∧ ∀ j, j < i → ps[j]? ≠ some t) ∨ lk r (.tmp t) = .av x
  | [], ds, t, r, x, h => by cases ds <;> exact .inr h
  | p :: ps, [], t, r, x, h => .inr h
  | p :: ps, d :: ds, t, r, x, h => by
    simp only [parRows, List.cons_append, lk, Key.tmp.injEq] at h
    by_cases e : p = t
    · subst e
      rw [if_pos rfl] at h
      simp only [KV.av.injEq] at h
      exact .inl ⟨0, d, rfl, rfl, h.symm, fun j hj => by omega⟩
    · rw [if_neg e] at h
      rcases lk_par_at h with ⟨i, d', h1, h2, h3, h4⟩ | h
      · refine .inl ⟨i + 1, d', by simpa using h1, by simpa using h2, h3, fun j hj => ?_⟩
        cases j with
        | zero => simp; exact e
        | succ j => simpa using h4 j (by omega)
      · exact .inr h
section
variable {P : Program} {C C1 C2 : Cx} {G : Gh} {σ σ' : St} {a a' : Act} {w w' : World}
/-- the same state, told of another start. -/
theorem ASG.rebase (h : ASG C1 G σ a w) (hW : C2.W0 = w) (hN : C2.N = C1.N) (hpv : ∀ i t x, σ (.vt i t) = .av x → Rep G σ w (C2.pv i t) x) (hz : ∀ z ∈ C2.pz, Lv σ z → ∀ g, G.ζ z g ↔ C2.Zp z g) (hB1 : ∀ n, Nm σ n → ¬ C2.B (G.ρ n))
    (hB2 : ∀ z g, z ∉ C2.pz → Lv σ z → G.ζ z g → ¬ C2.B g ∧ Soft w g) (hdf : σ .df = .df 0) (hob : C2.ob = []) : ASG C2 G σ a w := by
  obtain ⟨k, d1, d2⟩ := h.df
  rw [hdf] at d1; cases d1
  exact ⟨by rw [hW]; exact Keeps.refl _ _, ⟨0, hdf, d2.eq, fun i hi => by omega, fun i j hi => by omega⟩, by rw [hN]; exact h.sz, h.tmp, hpv, h.cell, fun n hn => ⟨hB1 n hn, (h.nm n hn).2⟩, h.inj, h.sep, hB2, h.disj, h.hd, hz, by rw [hob]; simp, h.sf⟩
/-- the same memory, told of another act. -/
theorem ASG.react (h : ASG C G σ a w) (hk : ∀ key, (∀ t, key ≠ .tmp t) → σ' key = σ key) (hs : a'.tmps.size = C.N) (hd : a'.defers = a.defers) (ht : ∀ t x, σ' (.tmp t) = .av x → ∃ v, a'.tmps[t]? = some v ∧ Rep G σ w v x) : ASG C G σ' a' w := by
  have lv : ∀ z, Lv σ' z ↔ Lv σ z := fun z => by unfold Lv; rw [hk _ (by simp)]
  have nm : ∀ z, Nm σ' z ↔ Nm σ z := fun z => by unfold Nm; rw [hk _ (by simp)]
  have ev : Evo G G σ σ' w w := by
    refine ⟨fun z h => ?_, fun z h => ?_, fun m hm => ⟨(nm m).2 hm, rfl⟩, fun z _ hl => ⟨(lv z).1 hl, rfl, fun _ _ => rfl⟩, fun z _ hl => ⟨?_, rfl⟩⟩
    · unfold Uz; rw [hk _ (by simp)]; exact h
    · unfold Uh; rw [hk _ (by simp)]; exact h
    · unfold Lh at hl ⊢; rw [hk _ (by simp)] at hl; exact hl
  obtain ⟨k, d1, d2⟩ := h.df
  refine ⟨h.fr, ⟨k, (hk _ (by simp)).trans d1, hd.trans d2.eq, fun i hi => ⟨(d2.ok i hi).obj, (d2.ok i hi).nb, fun q hq => (d2.ok i hi).nn q ((nm q).1 hq), fun z hz => (d2.ok i hi).nz z ((lv z).1 hz)⟩, d2.inj⟩, hs, fun t x e => ?_, fun i t x e => ?_, fun n j x e => ?_, fun n hn => h.nm n ((nm n).1 hn), fun n m hn hm => h.inj n m ((nm n).1 hn) ((nm m).1 hm),
    fun z g hl hg => ?_, fun z g h0 hl hg => h.new z g h0 ((lv z).1 hl) hg, fun y z g hne hy hz => h.disj y z g hne ((lv y).1 hy) ((lv z).1 hz), fun h' E sz y zs rows e => ?_, fun z hz hl => h.zz z hz ((lv z).1 hl), fun p hp => ⟨(h.ob p hp).obj, (h.ob p hp).nb, fun n hn => (h.ob p hp).nn n ((nm n).1 hn), fun z hz => (h.ob p hp).nz z ((lv z).1 hz)⟩, fun n hn => h.sf n ((nm n).1 hn)⟩
  · obtain ⟨v, h1, h2⟩ := ht t x e
    exact ⟨v, h1, h2.evo ev⟩
  · rw [hk _ (by simp)] at e; exact (h.vt i t x e).evo ev
  · rw [hk _ (by simp)] at e
    obtain ⟨h1, v, h2, h3, h4⟩ := h.cell n j x e
    exact ⟨(nm n).2 h1, v, h2, h3, h4.evo ev⟩
  · obtain ⟨h1, h2⟩ := h.sep z g ((lv z).1 hl) hg
    exact ⟨h1, fun n hn => h2 n ((nm n).1 hn)⟩
  · rw [hk _ (by simp)] at e
    exact (h.hd h' E sz y zs rows e).evo ev rfl
theorem wpIn_n {c : Code} {Q : Exit → Act → World → Prop} {r : Option Nat} {n m : Nat} (h : c.wpIn (Fr r) n P Q a w) : c.wpIn (Fr r) m P Q a w := fun b k cs h1 h2 _ => h b k cs h1 h2 (fun d hd => by cases hd)
theorem size_params (ps : List Nat) : ∀ (vs : List Value) (tm : Array Value), ((ps.zip vs).foldl (fun t (p, v) => t.setIfInBounds p v) tm).size = tm.size := by
  induction ps with
  | nil => intro vs tm; rfl
  | cons p ps ih =>
    intro vs tm
    cases vs with
    | nil => rfl
    | cons v vs => simp only [List.zip_cons_cons, List.foldl_cons]; rw [ih]; simp
theorem get_params {t : Nat} : ∀ (ps : List Nat) (vs : List Value) (tm : Array Value), t ∉ ps → ((ps.zip vs).foldl (fun t (p, v) => t.setIfInBounds p v) tm)[t]? = tm[t]?
  | [], vs, tm, h => rfl
  | p :: ps, [], tm, h => rfl
  | p :: ps, v :: vs, tm, h => by
    simp only [List.zip_cons_cons, List.foldl_cons]
    rw [get_params ps vs _ (fun h' => h (by simp [h'])), Array.getElem?_setIfInBounds_ne (fun e => h (by simp [e]))]
theorem at_params {t : Nat} : ∀ (ps : List Nat) (vs : List Value) (tm : Array Value) (i : Nat) (v : Value), ps.Nodup → ps[i]? = some t → vs[i]? = some v → t < tm.size → ((ps.zip vs).foldl (fun t (p, v) => t.setIfInBounds p v) tm)[t]? = some v
  | [], vs, tm, i, v, _, h, _, _ => by simp at h
  | p :: ps, [], tm, i, v, _, _, h, _ => by simp at h
  | p :: ps, u :: vs, tm, i, v, nd, h1, h2, hs => by
    simp only [List.zip_cons_cons, List.foldl_cons]
    rw [List.nodup_cons] at nd
    cases i with
    | zero =>
      simp at h1 h2
      subst h1; subst h2
      rw [get_params ps vs _ nd.1]
      simp [hs]
    | succ i => exact at_params ps vs _ i v nd.2 (by simpa using h1) (by simpa using h2) (by simpa using hs)
end
end Go.Proofs.Ytlkdkhmdmgchbaa
namespace Go.Proofs.Ytlkdkhmdmgchbaa
set_option linter.unusedSimpArgs false
set_option linter.unusedVariables false
open Go.RowKit

theorem range_wide2 {P : Program} {α : Type} {g : Operand} {ps : Array Tmp} {assign body : Code} {Q : Exit → Act → World → Prop} {a : Act} {w : World}
    {gf : Nat} {lb : Array Value} (hg : a.eval g = .func (.func gf) #[] lb) (eg : ∀ args w, (callFunc gf args).run P w = .ok (.enter gf args) w)
    {encs : α → Array Value} {K : Nat → Prop} {Pre : World → Prop} {Kp : World → World → Prop} {Sx : List α → α → Prop} {S Sp : List α → Prop}
    (hseq : Iter P gf lb encs K Pre Kp Sx S Sp) (hPre : ∀ W, Below w.heap.size w W → Pre W) (hK : K w.heap.size ∧ K (w.heap.size + 1))
    (hKt : ∀ {A B C : World}, Kp A B → Kp B C → Kp A C) (hKb : ∀ (W : World) (o : Obj), Kp W (W.putObj (w.heap.size + 1) o)) (hps : ∀ pre x, Sx pre x → (encs x).size = ps.size)
    (I : List α → World → Prop) (Ix : Code → List α → World → Prop) (Ia : List α → α → Act → World → Prop)
    (hI : ∀ pre W W', I pre W → Keeps (fun k => K k ∧ k ≠ w.heap.size ∧ k ≠ w.heap.size + 1) W W' → I pre W')
    (hIx : ∀ c pre W W', Ix c pre W → Keeps (fun k => K k ∧ k ≠ w.heap.size ∧ k ≠ w.heap.size + 1) W W' → Ix c pre W')
    (hIa : ∀ pre x a W W', Ia pre x a W → Keeps (fun k => K k ∧ k ≠ w.heap.size ∧ k ≠ w.heap.size + 1) W W' → Ia pre x a W')
    (h0 : I [] w)
    (hassign : ∀ (l : Nat) (pre : List α) (x : α) (W : World), I pre W → Sx pre x → w.heap.size + 2 ≤ W.heap.size →
      assign.wpIn (Fence.wide.inRound l) 8 P (Exit.then (fun a₁ W' => KeepsAt w.heap.size W W' ∧ Kp W W' ∧ W.heap.size ≤ W'.heap.size ∧ Ia pre x a₁ W') (fun _ _ _ => False)) { tmps := (ps.zip (encs x)).foldl (fun t (p, v) => t.setIfInBounds p v) a.tmps, defers := [] } W)
    (hbody : ∀ (l : Nat) (pre : List α) (x : α) (a₁ : Act) (W : World), Ia pre x a₁ W → Sx pre x → w.heap.size + 2 ≤ W.heap.size →
      body.wpIn (Fence.wide.inRound l) 8 P (roundEnd w.heap.size Kp I Ix (pre ++ [x]) W) a₁ W)
    (hdone : ∀ (xs : List α) (W : World), S xs → I xs W → W.heap[w.heap.size]? = some (.deferred (some [])) → Q .normal { a with defers := { target := .collected w.heap.size, args := #[] } :: a.defers } W)
    (hstop : ∀ (c : Code) (pre : List α) (W : World), Sp pre → Ix c pre W → W.heap[w.heap.size]? = some (.deferred (some [])) → c.wpIn Fence.wide 10 P Q { a with defers := { target := .collected w.heap.size, args := #[] } :: a.defers } W) :
    (Code.rangeFunc g ps assign body).wpIn Fence.wide 10 P Q a w := by
  refine wpIn_rangeFunc ?_
  intro fn hfn
  obtain ⟨rec, hrec⟩ : ∃ rec : LoopState → Option Code → Loop, rec = fun st pe => { state := st, pending := pe, fn, tmps := a.tmps, params := ps, assign, body, defers := w.heap.size } := ⟨_, rfl⟩
  obtain ⟨W1, hW1⟩ : ∃ W1, (w.alloc (.deferred (some []))).alloc (.loop (rec .ready none)) = W1 := ⟨_, rfl⟩
  have hL1 : W1.heap[w.heap.size + 1]? = some (.loop (rec .ready none)) := by
    rw [← hW1]; have := World.alloc_heap_new (w.alloc (.deferred (some []))) (.loop (rec .ready none)); rwa [World.size_alloc] at this
  have hK1 : W1.heap[w.heap.size]? = some (.deferred (some [])) := by
    rw [← hW1]; exact (Below.heap_alloc _ _ _ (by simp)).trans (World.alloc_heap_new w _)
  have hI1 : I [] W1 := by
    rw [← hW1]; exact hI _ _ _ h0 (((Keeps.refl _ w).alloc _).alloc _)
  have hb1 : Below w.heap.size w W1 := by
    rw [← hW1]; exact ((Below.refl _ w).alloc (Nat.le_refl _) _).alloc (by simp) _
  have lt_of : ∀ {W : World} {k : Nat} {o : Obj}, W.heap[k]? = some o → k < W.heap.size := fun h => (Array.getElem?_eq_some_iff.1 h).1
  have kpu : ∀ (W : World) (o : Obj), Keeps (fun k => K k ∧ k ≠ w.heap.size ∧ k ≠ w.heap.size + 1) W (W.putObj (w.heap.size + 1) o) := fun W o => putObj_keeps W _ o (by simp)
  refine ⟨w.heap.size + 1, [{ target := .collected w.heap.size, args := #[] }], W1, { target := .fn (.func gf) lb, args := #[.func (.yield (w.heap.size + 1)) #[] #[]] }, W1, gf,
    #[.func (.yield (w.heap.size + 1)) #[] #[]] ++ lb, W1, ?_, ?_, ?_, ?_, fun _ => by omega, ?_⟩
  · rw [← hW1, hrec]; exact run_enterLoop_outer _ _ _ _ _
  · simp only [resolve, hg]
    simp [go_sem]
  · intro f' _; trivial
  · simp [invoke, go_sem, eg]
  refine (hseq (w.heap.size + 1)
    (fun pre W => I pre W ∧ W.heap[w.heap.size + 1]? = some (.loop (rec .ready none)) ∧ W.heap[w.heap.size]? = some (.deferred (some [])))
    (fun pre W => ∃ c, Ix c pre W ∧ W.heap[w.heap.size + 1]? = some (.loop (rec .done (some c))) ∧ W.heap[w.heap.size]? = some (.deferred (some [])))
    W1 (hPre _ hb1)
    (fun pre W W' hs hk => ⟨hI _ _ _ hs.1 ⟨hk.os, hk.tape, hk.output, hk.size, fun k h1 h2 => hk.block k h1 h2.1⟩, (hk.block _ (lt_of hs.2.1) hK.2).trans hs.2.1, (hk.block _ (lt_of hs.2.2) hK.1).trans hs.2.2⟩)
    (fun pre W W' hs hk => by
      obtain ⟨c, hc, hl, hd⟩ := hs
      exact ⟨c, hIx _ _ _ _ hc ⟨hk.os, hk.tape, hk.output, hk.size, fun k h1 h2 => hk.block k h1 h2.1⟩, (hk.block _ (lt_of hl) hK.2).trans hl, (hk.block _ (lt_of hd) hK.1).trans hd⟩)
    ?_ ⟨hI1, hL1, hK1⟩).mono ?_
  · rintro pre x W ⟨hi, hl, hd⟩ hx
    have hlt := lt_of hl
    have hy := run_yield (P := P) (args := encs x) hl (by rw [hrec]; exact hps _ x hx)
    rw [hrec] at hy
    refine ⟨fn, _, assign, body, hy, roundIn_of_wpIn hfn (wpIn_mono (hassign _ pre x W hi hx hlt) ?_)⟩
    intro e a₁ W2 hp
    cases e with
    | normal =>
      obtain ⟨hk2, hkp2, hsz, hia⟩ := hp
      have hl2 := hk2.2.trans hl
      have hd2 := hk2.1.trans hd
      refine ⟨_, run_beginRound hl2 (by rw [hrec]), ?_⟩
      have hl3 : (W2.putObj (w.heap.size + 1) (.loop { rec .ready none with state := .busy })).heap[w.heap.size + 1]? = some (.loop { rec .ready none with state := .busy }) := World.putObj_heap_same (lt_of hl2)
      have hd3 : (W2.putObj (w.heap.size + 1) (.loop { rec .ready none with state := .busy })).heap[w.heap.size]? = some (.deferred (some [])) := (World.putObj_heap_other (by omega)).trans hd2
      refine wpIn_mono (hbody _ pre x _ _ (hIa _ _ _ _ _ hia (kpu _ _)) hx (by simp; omega)) ?_
      have fin : ∀ (jump : Option Code) (W4 : World), KeepsAt w.heap.size (W2.putObj (w.heap.size + 1) (.loop { rec .ready none with state := .busy })) W4 →
          (Instr.endRound (w.heap.size + 1) jump).run P W4 = .ok (.bool jump.isNone) (W4.putObj (w.heap.size + 1) (.loop (rec (if jump.isNone then .ready else .done) jump))) ∧
          (W4.putObj (w.heap.size + 1) (.loop (rec (if jump.isNone then .ready else .done) jump))).heap[w.heap.size + 1]? = some (.loop (rec (if jump.isNone then .ready else .done) jump)) ∧
          (W4.putObj (w.heap.size + 1) (.loop (rec (if jump.isNone then .ready else .done) jump))).heap[w.heap.size]? = some (.deferred (some [])) := fun jump W4 hk4 => by
        have hl4 := hk4.2.trans hl3
        have := run_endRound (P := P) jump hl4
        rw [hrec] at this ⊢
        exact ⟨this, World.putObj_heap_same (lt_of hl4), (World.putObj_heap_other (by omega)).trans (hk4.1.trans hd3)⟩
      rintro e a3 W3 hp
      cases e with
      | normal =>
        obtain ⟨hk3, hkp3, hi3⟩ := hp
        obtain ⟨hr, hl4, hd4⟩ := fin none W3 hk3
        exact ⟨_, _, hr, .inl ⟨rfl, ⟨hI _ _ _ hi3 (kpu _ _), hl4, hd4⟩, hKt hkp2 (hKt (hKb _ _) (hKt hkp3 (hKb _ _)))⟩⟩
      | ret =>
        obtain ⟨hk3, hi3⟩ := hp
        obtain ⟨hr, hl4, hd4⟩ := fin (some .ret) W3 hk3
        exact ⟨_, _, hr, .inr ⟨rfl, .ret, hIx _ _ _ _ hi3 (kpu _ _), hl4, hd4⟩⟩
      | exit id =>
        obtain ⟨hk3, hi3⟩ := hp
        obtain ⟨hr, hl4, hd4⟩ := fin (some (.exit id)) W3 hk3
        exact ⟨_, _, hr, .inr ⟨rfl, .exit id, hIx _ _ _ _ hi3 (kpu _ _), hl4, hd4⟩⟩
      | goto t =>
        obtain ⟨hk3, hi3⟩ := hp
        obtain ⟨hr, hl4, hd4⟩ := fin (some (.goto t)) W3 hk3
        exact ⟨_, _, hr, .inr ⟨rfl, .goto t, hIx _ _ _ _ hi3 (kpu _ _), hl4, hd4⟩⟩
      | panic ch => exact hp.elim
      | outgrown => exact hp.elim
    | ret => exact hp.elim
    | exit id => exact hp.elim
    | goto t => exact hp.elim
    | panic ch => exact hp.elim
    | outgrown => exact hp.elim
  · rintro e W2 ⟨⟨v, rfl⟩, (⟨xs, hS, hi, hl, hd⟩ | ⟨pre, hSp, c, hi, hl, hd⟩)⟩
    · exact ⟨none, _, by have := run_endLoop (P := P) hl (by rw [hrec]; simp); rw [hrec] at this; exact this, hdone xs _ hS (hI _ _ _ hi (kpu _ _)) ((World.putObj_heap_other (by omega)).trans hd)⟩
    · exact ⟨some c, _, by have := run_endLoop (P := P) hl (by rw [hrec]; simp); rw [hrec] at this; exact this, hstop c pre _ hSp (hIx _ _ _ _ hi (kpu _ _)) ((World.putObj_heap_other (by omega)).trans hd)⟩

/-- the slots of a round: those of the frame around it. -/
def tmB : Row → Row
  | [] => []
  | (.vt 0 t, v) :: L => (.tmp t, v) :: (.vt 0 t, v) :: tmB L
  | kv :: L => kv :: tmB L
def noT : Row → Bool
  | [] => true
  | (.tmp _, _) :: _ => false
  | _ :: L => noT L
theorem noT_lk : ∀ {L : Row}, noT L = true → ∀ t, lk L (.tmp t) = .unk
  | [], _, _ => rfl
  | (k, v) :: L, h, t => by
    cases k <;> first | (simp [noT] at h; done) | (simp only [noT] at h; simp only [lk]; rw [if_neg (by simp)]; exact noT_lk h t)
theorem lk_tmB : ∀ {L : Row}, noT L = true → ∀ k : Key, lk (tmB L) k = match k with | .tmp t => lk L (.vt 0 t) | k => lk L k
  | [], _, k => by cases k <;> rfl
  | (.vt 0 t, v) :: L, h, k => by
    have ih := lk_tmB (L := L) h k
    cases k with
    | tmp t' => simp only [tmB, lk, Key.vt.injEq, Key.tmp.injEq, true_and] at ih ⊢; rw [ih]; simp
    | vt i t' => simp only [tmB, lk] at ih ⊢; rw [ih]; simp
    | _ => simp only [tmB, lk] at ih ⊢; rw [ih]; simp
  | (.vt (i + 1) t, v) :: L, h, k => by
    have ih := lk_tmB (L := L) h k
    cases k with
    | tmp t' => simp only [tmB, lk] at ih ⊢; rw [ih]; simp
    | _ => simp only [tmB, lk] at ih ⊢; rw [ih]
  | (.tmp t, v) :: L, h, k => by simp [noT] at h
  | (.cell a b, v) :: L, h, k => by
    have ih := lk_tmB (L := L) h k
    cases k <;> (simp only [tmB, lk] at ih ⊢; rw [ih]; try simp)
  | (.zn a, v) :: L, h, k => by
    have ih := lk_tmB (L := L) h k
    cases k <;> (simp only [tmB, lk] at ih ⊢; rw [ih]; try simp)
  | (.nm a, v) :: L, h, k => by
    have ih := lk_tmB (L := L) h k
    cases k <;> (simp only [tmB, lk] at ih ⊢; rw [ih]; try simp)
  | (.hd a, v) :: L, h, k => by
    have ih := lk_tmB (L := L) h k
    cases k <;> (simp only [tmB, lk] at ih ⊢; rw [ih]; try simp)
  | (.df, v) :: L, h, k => by
    have ih := lk_tmB (L := L) h k
    cases k <;> (simp only [tmB, lk] at ih ⊢; rw [ih]; try simp)
def liveB : KV → Bool
  | .zn .live => true
  | _ => false
theorem liveB_ok {k : KV} (h : liveB k = true) : k = .zn .live := by
  unfold liveB at h
  split at h
  · rfl
  · cases h
def df0B : KV → Bool
  | .df 0 => true
  | _ => false
theorem df0B_ok {k : KV} (h : df0B k = true) : k = .df 0 := by
  unfold df0B at h
  split at h
  · rfl
  · cases h
/-- what a state between rounds has to be like. -/
def okM (N : Nat) (ps zs : List Nat) (L : Row) : Bool := noT L && ((vtKeys L).all fun t => decide (t < N) && !ps.contains t) && (zs.all fun z => liveB (lk L (.zn z))) && df0B (lk L .df)
structure OkM (N : Nat) (ps zs : List Nat) (L : Row) : Prop where
  nt : noT L = true
  vt : ∀ t, lk L (.vt 0 t) ≠ .unk → t < N ∧ t ∉ ps
  lv : ∀ z ∈ zs, Lv (lk L) z
  df : lk L .df = .df 0
theorem okM_ok {N : Nat} {ps zs : List Nat} {L : Row} (h : okM N ps zs L = true) : OkM N ps zs L := by
  unfold okM at h
  simp only [Bool.and_eq_true, List.all_eq_true] at h
  obtain ⟨⟨⟨h1, h2⟩, h3⟩, h4⟩ := h
  refine ⟨h1, fun t ht => ?_, fun z hz => liveB_ok (h3 z hz), df0B_ok h4⟩
  have := h2 t (mem_vtKeys ht)
  simpa using this
/-- a round's context. -/
def ctxR (C : Cx) (G0 : Gh) (zs : List Nat) (D : Nat) (a : Act) (W : World) : Cx where
  W0 := W
  B := fun g => g < W.heap.size ∧ (C.B g ∨ G0.zu zs g ∨ g = D ∨ g = D + 1)
  N := C.N
  pv := fun _ t => a.tmps.getD t undef
  pz := C.pz ++ zs
  Zp := fun z g => (if z ∈ zs then G0.ζ z g else C.Zp z g) ∧ g < D
  ob := []
  hB := fun _ h => h.1
def RB (C : Cx) (M : Nat → Row) (Mx : Code → Nat → Option Row) (k : Nat) : Exit → Act → World → Prop
  | .normal, a, w => AS C (lk (M (k + 1))) a w
  | .ret, a, w => ∃ L, Mx .ret k = some L ∧ AS C (lk L) a w
  | .exit i, a, w => ∃ L, Mx (.exit i) k = some L ∧ AS C (lk L) a w
  | _, _, _ => False
def RN (C : Cx) (L1 : Row) : Exit → Act → World → Prop := fun e a w => e = .normal ∧ AS C (lk L1) a w
section
variable {P : Program} {C : Cx} {G0 G : Gh} {σ : St} {a a1 : Act} {w W W1 W2 : World} {zs : List Nat}
/-- a round's context, later. -/
theorem ASG.mv (h : ASG (ctxR C G0 zs w.heap.size a W) G σ a1 W1) (hdf : σ .df = .df 0) (hC : C.W0.heap.size ≤ w.heap.size) (hZ : ∀ g, G0.zu zs g → g < w.heap.size) (hW : w.heap.size ≤ W.heap.size)
    (hD : ∀ g, g < W1.heap.size → (g = w.heap.size ∨ g = w.heap.size + 1) → g < W.heap.size) (hk : Keeps (fun k => k ≠ w.heap.size ∧ k ≠ w.heap.size + 1) W1 W2) : ASG (ctxR C G0 zs w.heap.size a W2) G σ a1 W2 := by
  have hs := hk.size
  have cB : ∀ g, C.B g → g < w.heap.size := fun g hg => Nat.lt_of_lt_of_le (C.hB g hg) hC
  have hn : ∀ n, Nm σ n → ¬ C.B (G.ρ n) ∧ ¬ G0.zu zs (G.ρ n) ∧ G.ρ n ≠ w.heap.size ∧ G.ρ n ≠ w.heap.size + 1 := fun n hn => by
    obtain ⟨q1, q2⟩ := h.nm n hn
    refine ⟨fun e => q1 ⟨by have := cB _ e; omega, .inl e⟩, fun e => q1 ⟨by have := hZ _ e; omega, .inr (.inl e)⟩, fun e => q1 ⟨hD _ q2 (.inl e), .inr (.inr (.inl e))⟩, fun e => q1 ⟨hD _ q2 (.inr e), .inr (.inr (.inr e))⟩⟩
  have hz : ∀ z g, z ∉ C.pz ++ zs → Lv σ z → G.ζ z g → ¬ C.B g ∧ ¬ G0.zu zs g ∧ g ≠ w.heap.size ∧ g ≠ w.heap.size + 1 := fun z g h0 hl hg => by
    have q2 := (h.sep z g hl hg).1
    have q1 := (h.new z g h0 hl hg).1
    refine ⟨fun e => q1 ⟨by have := cB _ e; omega, .inl e⟩, fun e => q1 ⟨by have := hZ _ e; omega, .inr (.inl e)⟩, fun e => q1 ⟨hD _ q2 (.inl e), .inr (.inr (.inl e))⟩, fun e => q1 ⟨hD _ q2 (.inr e), .inr (.inr (.inr e))⟩⟩
  have hp : ∀ z g, z ∈ C.pz ++ zs → Lv σ z → G.ζ z g → g < w.heap.size := fun z g h0 hl hg => ((h.zz z h0 hl g).1 hg).2
  have hB2 : ∀ g, ¬ C.B g ∧ ¬ G0.zu zs g → ¬ (g < W1.heap.size ∧ (C.B g ∨ G0.zu zs g)) := fun g q e => e.2.elim q.1 q.2
  have h1 : ASG { ctxR C G0 zs w.heap.size a W with W0 := W1, B := fun g => g < W1.heap.size ∧ (C.B g ∨ G0.zu zs g), hB := fun _ h => h.1 } G σ a1 W1 :=
    h.rebase rfl rfl (fun i t x e => h.vt i t x e) (fun z h0 hl g => h.zz z h0 hl g) (fun n q => hB2 _ ⟨(hn n q).1, (hn n q).2.1⟩) (fun z g h0 hl hg => ⟨hB2 _ ⟨(hz z g h0 hl hg).1, (hz z g h0 hl hg).2.1⟩, (h.new z g h0 hl hg).2⟩) hdf rfl
  have h2 := (h1.step hk (fun g hg => by
      have : g < w.heap.size := hg.2.elim (cB g) (hZ g)
      constructor <;> omega)
    (fun n q => ⟨(hn n q).2.2.1, (hn n q).2.2.2⟩)
    (fun z g hl hg => by
      by_cases h0 : z ∈ C.pz ++ zs
      · have := hp z g h0 hl hg
        constructor <;> omega
      · exact ⟨(hz z g h0 hl hg).2.2.1, (hz z g h0 hl hg).2.2.2⟩)
    (fun k i e hi => by rw [hdf] at e; cases e; omega) (fun p q => by cases q)).1
  exact h2.rebase rfl rfl (fun i t x e => h2.vt i t x e) (fun z h0 hl g => h2.zz z h0 hl g)
    (fun n q e => by
      obtain ⟨a1, a2, a3, a4⟩ := hn n q
      rcases e.2 with e | e | e | e <;> contradiction)
    (fun z g h0 hl hg => ⟨fun e => by
      obtain ⟨a1, a2, a3, a4⟩ := hz z g h0 hl hg
      rcases e.2 with e | e | e | e <;> contradiction, (h2.new z g h0 hl hg).2⟩) hdf rfl
/-- a frame's state as that of a round to come. -/
theorem ASG.toR {L : Row} (h : ASG C G0 (lk L) a w) (hlv : ∀ z ∈ zs, Lv (lk L) z) (hdf : lk L .df = .df 0) : ASG (ctxR C G0 zs w.heap.size a w) G0 (lk (vtOf L)) { tmps := a.tmps, defers := [] } w := by
  have ke : ∀ key, (∀ t, key ≠ .tmp t) → (∀ i t, key ≠ .vt i t) → lk (vtOf L) key = lk L key := fun key k1 k2 => by
    rw [lk_vtOf]
    cases key <;> first | (exact absurd rfl (k1 _)) | (exact absurd rfl (k2 _ _)) | rfl
  have lv : ∀ z, Lv (lk (vtOf L)) z ↔ Lv (lk L) z := fun z => by unfold Lv; rw [ke _ (by simp) (by simp)]
  have nm : ∀ z, Nm (lk (vtOf L)) z ↔ Nm (lk L) z := fun z => by unfold Nm; rw [ke _ (by simp) (by simp)]
  have ev : Evo G0 G0 (lk L) (lk (vtOf L)) w w := by
    refine ⟨fun z h => ?_, fun z h => ?_, fun m hm => ⟨(nm m).2 hm, rfl⟩, fun z _ hl => ⟨(lv z).1 hl, rfl, fun _ _ => rfl⟩, fun z _ hl => ⟨?_, rfl⟩⟩
    · unfold Uz; rw [ke _ (by simp) (by simp)]; exact h
    · unfold Uh; rw [ke _ (by simp) (by simp)]; exact h
    · unfold Lh at hl ⊢; rw [ke _ (by simp) (by simp)] at hl; exact hl
  have hC : C.W0.heap.size ≤ w.heap.size := h.fr.size
  have cB : ∀ g, C.B g → g < w.heap.size := fun g hg => Nat.lt_of_lt_of_le (C.hB g hg) hC
  have zu : ∀ g, G0.zu zs g → g < w.heap.size := fun g ⟨z, hz, hg⟩ => (h.sep z g (hlv z hz) hg).1
  refine ⟨Keeps.refl _ _, ⟨0, ?_, rfl, fun i hi => by omega, fun i j hi => by omega⟩, h.sz, fun t x e => ?_, fun i t x e => ?_, fun n j x e => ?_, fun n hn => ⟨fun e => ?_, (h.nm n ((nm n).1 hn)).2⟩, fun n m hn hm => h.inj n m ((nm n).1 hn) ((nm m).1 hm),
    fun z g hl hg => ?_, fun z g h0 hl hg => ?_, fun y z g hne hy hz => h.disj y z g hne ((lv y).1 hy) ((lv z).1 hz), fun h' E sz y zs rows e => ?_, fun z hz hl g => ?_, fun p hp => by simp [ctxR] at hp, fun n hn => h.sf n ((nm n).1 hn)⟩
  · rw [ke _ (by simp) (by simp)]; exact hdf
  · rw [lk_vtOf] at e; cases e
  · rw [lk_vtOf] at e
    cases i with
    | zero =>
      obtain ⟨v, h1, h2⟩ := h.tmp t x e
      have : (ctxR C G0 zs w.heap.size a w).pv 0 t = v := by simp [ctxR, Array.getD_eq_getD_getElem?, h1]
      rw [this]; exact h2.evo ev
    | succ i => cases e
  · rw [ke _ (by simp) (by simp)] at e
    obtain ⟨h1, v, h2, h3, h4⟩ := h.cell n j x e
    exact ⟨(nm n).2 h1, v, h2, h3, h4.evo ev⟩
  · have hn' := (nm n).1 hn
    have hlt := (h.nm n hn').2
    rcases e.2 with e | ⟨z, hz, hg⟩ | e | e
    · exact (h.nm n hn').1 e
    · exact (h.sep z _ (hlv z hz) hg).2 n hn' rfl
    · omega
    · omega
  · obtain ⟨h1, h2⟩ := h.sep z g ((lv z).1 hl) hg
    exact ⟨h1, fun n hn => h2 n ((nm n).1 hn)⟩
  · have hl' := (lv z).1 hl
    have h0' : z ∉ C.pz ∧ z ∉ zs := by simpa [ctxR] using h0
    obtain ⟨h1, h2⟩ := h.new z g h0'.1 hl' hg
    refine ⟨fun e => ?_, h2⟩
    have hlt := (h.sep z g hl' hg).1
    rcases e.2 with e | ⟨y, hy, hg'⟩ | e | e
    · exact h1 e
    · exact h.disj y z g (fun e => h0'.2 (e ▸ hy)) (hlv y hy) hl' hg' hg
    · omega
    · omega
  · rw [ke _ (by simp) (by simp)] at e
    exact (h.hd h' E sz y zs rows e).evo ev rfl
  · have hl' := (lv z).1 hl
    show _ ↔ (if z ∈ zs then G0.ζ z g else C.Zp z g) ∧ g < w.heap.size
    by_cases hz' : z ∈ zs
    · rw [if_pos hz']
      exact ⟨fun hg => ⟨hg, (h.sep z g hl' hg).1⟩, fun hg => hg.1⟩
    · rw [if_neg hz']
      have hzp : z ∈ C.pz := by simpa [ctxR, hz'] using hz
      exact ⟨fun hg => ⟨(h.zz z hzp hl' g).1 hg, (h.sep z g hl' hg).1⟩, fun hg => (h.zz z hzp hl' g).2 hg.1⟩
/-- a round's state at its end, as that of the frame behind the loop. -/
theorem ASG.back {L L' : Row} {ps : List Nat} (h0 : ASG C G0 (lk L) a w) (hdf : lk L .df = .df 0) (hlv : ∀ z ∈ zs, Lv (lk L) z) (hZp : ∀ z g, C.Zp z g → g < C.W0.heap.size) (hO : C.ob = []) (hm : OkM C.N ps zs L')
    (hk : Keeps C.B C.W0 W)  (kz : KZ (G0.zu zs) w w W) (hd : W.heap[w.heap.size]? = some (.deferred (some [])))
    (h : ASG (ctxR C G0 zs w.heap.size a W) G (lk L') { tmps := a.tmps, defers := [] } W) : AS C (lk ((.df, .df 1) :: tmOf L')) { a with defers := { target := .collected w.heap.size, args := #[] } :: a.defers } W := by
  have hC : C.W0.heap.size ≤ w.heap.size := h0.fr.size
  have cB : ∀ g, C.B g → g < w.heap.size := fun g hg => Nat.lt_of_lt_of_le (C.hB g hg) hC
  obtain ⟨L2, hL2⟩ : ∃ L2, L2 = (.df, .df 1) :: tmOf L' := ⟨_, rfl⟩
  rw [← hL2]
  have ke : ∀ key, (∀ t, key ≠ .tmp t) → (∀ i t, key ≠ .vt i t) → key ≠ .df → lk L2 key = lk L' key := fun key k1 k2 k3 => by
    rw [hL2]
    simp only [lk]
    rw [if_neg (fun e => k3 e.symm), lk_tmOf]
    cases key <;> first | (exact absurd rfl (k1 _)) | (exact absurd rfl (k2 _ _)) | rfl
  have ket : ∀ t, lk L2 (.tmp t) = lk L' (.vt 0 t) := fun t => by rw [hL2]; simp only [lk]; rw [if_neg (by simp), lk_tmOf]
  have kev : ∀ i t, lk L2 (.vt i t) = .unk := fun i t => by rw [hL2]; simp only [lk]; rw [if_neg (by simp), lk_tmOf]
  have ked : lk L2 .df = .df 1 := by rw [hL2]; simp [lk]
  have lv : ∀ z, Lv (lk L2) z ↔ Lv (lk L') z := fun z => by unfold Lv; rw [ke _ (by simp) (by simp) (by simp)]
  have nm : ∀ z, Nm (lk L2) z ↔ Nm (lk L') z := fun z => by unfold Nm; rw [ke _ (by simp) (by simp) (by simp)]
  have ev : Evo G { G with δ := fun _ => w.heap.size } (lk L') (lk L2) W W := by
    refine ⟨fun z h => ?_, fun z h => ?_, fun m hm => ⟨(nm m).2 hm, rfl⟩, fun z _ hl => ⟨(lv z).1 hl, rfl, fun _ _ => rfl⟩, fun z _ hl => ⟨?_, rfl⟩⟩
    · unfold Uz; rw [ke _ (by simp) (by simp) (by simp)]; exact h
    · unfold Uh; rw [ke _ (by simp) (by simp) (by simp)]; exact h
    · unfold Lh at hl ⊢; rw [ke _ (by simp) (by simp) (by simp)] at hl; exact hl
  have hdf0 : a.defers = [] := by
    obtain ⟨k, d1, d2⟩ := h0.df
    rw [hdf] at d1; cases d1
    exact d2.eq
  have bB : ∀ g, g < W.heap.size → ¬ (ctxR C G0 zs w.heap.size a W).B g → ¬ C.B g ∧ g ≠ w.heap.size := fun g hg q => ⟨fun e => q ⟨hg, .inl e⟩, fun e => q ⟨hg, .inr (.inr (.inl e))⟩⟩
  refine ⟨{ G with δ := fun _ => w.heap.size }, hk, ⟨1, ked, by simp [marks, hdf0], fun i hi => ⟨hd, fun e => ?_, fun n hn => ?_, fun z hl hg => ?_⟩, fun i j hi hj _ => by omega⟩, h0.sz, fun t x e => ?_, fun i t x e => ?_, fun n j x e => ?_, fun n hn => ?_, fun n m hn hm => h.inj n m ((nm n).1 hn) ((nm m).1 hm),
    fun z g hl hg => ?_, fun z g h1 hl hg => ?_, fun y z g hne hy hz => h.disj y z g hne ((lv y).1 hy) ((lv z).1 hz), fun h' E sz y zs rows e => ?_, fun z hz hl g => ?_, fun p hp => by rw [hO] at hp; simp at hp, fun n hn => h.sf n ((nm n).1 hn)⟩
  · have := cB _ e; simp at this
  · obtain ⟨q1, q2⟩ := h.nm n ((nm n).1 hn)
    exact (bB _ q2 q1).2
  · have hl' := (lv z).1 hl
    by_cases hz : z ∈ C.pz ++ zs
    · have := ((h.zz z hz hl' _).1 hg).2
      simp at this
    · exact (bB _ (h.sep z _ hl' hg).1 (h.new z _ hz hl' hg).1).2 rfl
  · rw [ket] at e
    have hlt := (hm.vt t (by rw [e]; simp)).1
    have h1 := h.vt 0 t x e
    have hs : t < a.tmps.size := by rw [h0.sz]; exact hlt
    have e2 : (ctxR C G0 zs w.heap.size a W).pv 0 t = a.tmps[t] := by simp [ctxR, Array.getD_eq_getD_getElem?, hs]
    rw [e2] at h1
    exact ⟨_, by simp [hs], h1.evo ev⟩
  · rw [kev] at e; cases e
  · rw [ke _ (by simp) (by simp) (by simp)] at e
    obtain ⟨h1, v, h2, h3, h4⟩ := h.cell n j x e
    exact ⟨(nm n).2 h1, v, h2, h3, h4.evo ev⟩
  · obtain ⟨q1, q2⟩ := h.nm n ((nm n).1 hn)
    exact ⟨(bB _ q2 q1).1, q2⟩
  · obtain ⟨h1, h2⟩ := h.sep z g ((lv z).1 hl) hg
    exact ⟨h1, fun n hn => h2 n ((nm n).1 hn)⟩
  · have hl' := (lv z).1 hl
    by_cases hz' : z ∈ zs
    · have hg0 := ((h.zz z (by simp [ctxR, hz']) hl' g).1 hg).1
      rw [if_pos hz'] at hg0
      obtain ⟨q1, q2⟩ := h0.new z g h1 (hlv z hz') hg0
      exact ⟨q1, q2.of_eq (kz g ⟨z, hz', hg0⟩ (h0.sep z g (hlv z hz') hg0).1)⟩
    · have hz : z ∉ C.pz ++ zs := by simp [h1, hz']
      obtain ⟨q1, q2⟩ := h.new z g hz hl' hg
      exact ⟨(bB _ (h.sep z g hl' hg).1 q1).1, q2⟩
  · rw [ke _ (by simp) (by simp) (by simp)] at e
    exact (h.hd h' E sz y zs rows e).evo ev rfl
  · have hl' := (lv z).1 hl
    have := h.zz z (by simp [ctxR, hz]) hl' g
    refine this.trans ?_
    show (if z ∈ zs then G0.ζ z g else C.Zp z g) ∧ g < w.heap.size ↔ _
    by_cases hz' : z ∈ zs
    · rw [if_pos hz', h0.zz z hz (hlv z hz') g]
      exact ⟨fun e => e.1, fun e => ⟨e, Nat.lt_of_lt_of_le (hZp z g e) hC⟩⟩
    · rw [if_neg hz']
      exact ⟨fun e => e.1, fun e => ⟨e, Nat.lt_of_lt_of_le (hZp z g e) hC⟩⟩
/-- a round's first state. -/
theorem ASG.par {L' : Row} {ps : List Nat} {vs : Array Value} {x : List DV} (hm : OkM C.N ps zs L') (hnd : ps.Nodup) (hs : a.tmps.size = C.N) (hps : ∀ p ∈ ps, p < C.N) (hx : Reps (G.zu zs) W vs x)
    (h : ASG (ctxR C G0 zs w.heap.size a W) G (lk L') { tmps := a.tmps, defers := [] } W) :
    ASG (ctxR C G0 zs w.heap.size a W) G (lk (parRows zs ps x ++ tmB L')) { tmps := (ps.zip vs.toList).foldl (fun t (p, v) => t.setIfInBounds p v) a.tmps, defers := [] } W := by
  refine h.react (fun key hk => ?_) (by rw [size_params]; exact hs) rfl (fun t y e => ?_)
  · rw [lk_par (fun p _ => hk p), lk_tmB hm.nt]
    cases key <;> first | exact absurd rfl (hk _) | rfl
  · rcases lk_par_at e with ⟨i, d, e1, e2, e3, e4⟩ | e
    · have hi : i < vs.size := by rw [hx.1]; exact (List.getElem?_eq_some_iff.1 e2).1
      refine ⟨vs[i], at_params ps vs.toList a.tmps i _ hnd e1 (by simp [hi]) (by rw [hs]; exact hps t (List.mem_of_getElem? e1)), ?_⟩
      rw [e3]
      have := hx.2 i d e2
      rw [Array.getD_eq_getD_getElem?, Array.getElem?_eq_getElem hi] at this
      have r := atz_rep (σ := lk L') (fun z hz => (hm.lv z hz).used) this
      exact r
    · rw [lk_tmB hm.nt] at e
      have e : lk L' (.vt 0 t) = .av y := e
      obtain ⟨h1, h2⟩ := hm.vt t (by rw [e]; simp)
      have hlt : t < a.tmps.size := by rw [hs]; exact h1
      rw [get_params ps vs.toList a.tmps h2]
      have r := h.vt 0 t y e
      have e2 : (ctxR C G0 zs w.heap.size a W).pv 0 t = a.tmps[t] := by simp [ctxR, Array.getD_eq_getD_getElem?, hlt]
      rw [e2] at r
      exact ⟨_, by simp [hlt], r⟩
/-- a range over a function that tells rows of data. -/
theorem AW.range {o : Operand} {ps : Array Tmp} {asg body : Code} {Q : Exit → Act → World → Prop} {L rr rz : Row} {l : List (List DV)} (hO : C.ob = []) (hZp : ∀ z g, C.Zp z g → g < C.W0.heap.size) (hdf : lk L .df = .df 0)
    (ho : opd (lk L) o = some (rr, .c zs (.st (itP P l)))) (hz : zr (lk L) zs = some rz) (hps : ∀ x ∈ l, x.length = ps.size) (hnd : ps.toList.Nodup) (hpN : ∀ p ∈ ps.toList, p < C.N)
    (M : Nat → Row) (Mx : Code → Nat → Option Row) (hM : ∀ k, okM C.N ps.toList zs (M k) = true) (hMx : ∀ c k L', Mx c k = some L' → okM C.N ps.toList zs L' = true)
    (h0 : ∀ C' : Cx, C'.pz = C.pz ++ zs → C'.N = C.N → ∀ a w, AS C' (lk (vtOf L)) a w → AS C' (lk (M 0)) a w)
    (hr : ∀ (k : Nat) (x : List DV), l[k]? = some x → ∃ L1, df0B (lk L1 .df) = true ∧ (∀ ln, ∀ C' : Cx, C'.pz = C.pz ++ zs → C'.N = C.N → AW P C' (some ln) asg (RN C' L1) (parRows zs ps.toList x ++ tmB (M k))) ∧
      ∀ ln, ∀ C' : Cx, C'.pz = C.pz ++ zs → C'.N = C.N → AW P C' (some ln) body (RB C' M Mx k) L1)
    (hdone : NX C Q .normal ((.df, .df 1) :: tmOf (M l.length)))
    (hstop : ∀ c k L', Mx c k = some L' → k < l.length → AW P C none c Q ((.df, .df 1) :: tmOf L')) : AW P C none (.rangeFunc o ps asg body) Q L := by
  rintro a w ⟨G0, hG⟩
  have hv := opd_ok ho hG (opd_rd ho)
  have hlv := zr_ok hz (zr_rd hz)
  have hit := hv.rep hlv
  have hi : ItOk P l (G0.zu zs) w (a.eval o) := by
    generalize a.eval o = v at hit
    cases hit with
    | st φ v h => exact h
  obtain ⟨gf, lb, he, eg, hI⟩ := hi
  have hC : C.W0.heap.size ≤ w.heap.size := hG.fr.size
  have cB : ∀ g, C.B g → g < w.heap.size := fun g hg => Nat.lt_of_lt_of_le (C.hB g hg) hC
  have hZ : ∀ g, G0.zu zs g → g < w.heap.size := fun g ⟨z, hz, hg⟩ => (hG.sep z g (hlv z hz) hg).1
  have keepR : ∀ {W W' : World} {σ : St} {a' : Act} {G : Gh}, ASG (ctxR C G0 zs w.heap.size a W) G σ a' W' → Keeps C.B C.W0 W → KZ (G0.zu zs) w w W → w.heap.size ≤ W.heap.size →
      Keeps C.B C.W0 W' ∧ KZ (G0.zu zs) w w W' ∧ KZ (G0.zu zs) w W W' ∧ W.heap.size ≤ W'.heap.size ∧ (w.heap.size + 2 ≤ W.heap.size → KeepsAt w.heap.size W W') := by
    intro W W' σ a' G h k1 k2 hW
    have f := h.fr
    have b : ∀ g, G0.zu zs g → W'.heap[g]? = W.heap[g]? := fun g hg => f.block g (by have := hZ g hg; show g < W.heap.size; omega) ⟨by have := hZ g hg; omega, .inr (.inl hg)⟩
    refine ⟨k1.trans ⟨f.os, f.tape, f.output, f.size, fun g hg hb => f.block g hg ⟨hg, .inl hb⟩⟩, fun g hg hl => (b g hg).trans (k2 g hg hl), fun g hg hl => b g hg, f.size, fun hs => ⟨f.block _ (by show _ < W.heap.size; omega) ⟨by omega, .inr (.inr (.inl rfl))⟩, f.block _ (by show _ < W.heap.size; omega) ⟨by omega, .inr (.inr (.inr rfl))⟩⟩⟩
  have keepK : ∀ {W W' : World}, Keeps C.B C.W0 W → KZ (G0.zu zs) w w W → w.heap.size ≤ W.heap.size → Keeps (fun k => True ∧ k ≠ w.heap.size ∧ k ≠ w.heap.size + 1) W W' → Keeps C.B C.W0 W' ∧ KZ (G0.zu zs) w w W' ∧ w.heap.size ≤ W'.heap.size := by
    intro W W' k1 k2 hW hk
    have hs := hk.size
    refine ⟨k1.trans ⟨hk.os, hk.tape, hk.output, hk.size, fun g hg hb => hk.block g hg ⟨trivial, ?_, ?_⟩⟩, fun g hg hl => (hk.block g (by omega) ⟨trivial, ?_, ?_⟩).trans (k2 g hg hl), by omega⟩
    · have := cB g hb; omega
    · have := cB g hb; omega
    · have := hZ g hg; omega
    · have := hZ g hg; omega
  let a0 : Act := { tmps := a.tmps, defers := [] }
  let IS : Row → Act → World → Prop := fun Lk b W => Keeps C.B C.W0 W ∧ KZ (G0.zu zs) w w W ∧ w.heap.size ≤ W.heap.size ∧ (∃ G, ASG (ctxR C G0 zs w.heap.size a W) G (lk Lk) b W) ∧ lk Lk .df = .df 0
  have isK : ∀ {Lk : Row} {b : Act} {W W' : World}, IS Lk b W → Keeps (fun k => True ∧ k ≠ w.heap.size ∧ k ≠ w.heap.size + 1) W W' → IS Lk b W' := by
    rintro Lk b W W' ⟨k1, k2, k3, ⟨G, h⟩, k5⟩ hk
    obtain ⟨q1, q2, q3⟩ := keepK k1 k2 k3 hk
    exact ⟨q1, q2, q3, ⟨G, h.mv k5 hC hZ k3 (fun g hg _ => hg) ⟨hk.os, hk.tape, hk.output, hk.size, fun g hg hb => hk.block g hg ⟨trivial, hb.1, hb.2⟩⟩⟩, k5⟩
  have isR : ∀ {Lk : Row} {b : Act} {W W' : World}, Keeps C.B C.W0 W → KZ (G0.zu zs) w w W → w.heap.size + 2 ≤ W.heap.size → lk Lk .df = .df 0 → AS (ctxR C G0 zs w.heap.size a W) (lk Lk) b W' →
      KeepsAt w.heap.size W W' ∧ KZ (G0.zu zs) w W W' ∧ W.heap.size ≤ W'.heap.size ∧ IS Lk b W' := by
    rintro Lk b W W' k1 k2 k3 k5 ⟨G, h⟩
    obtain ⟨q1, q2, q3, q4, q5⟩ := keepR h k1 k2 (by omega)
    exact ⟨q5 k3, q3, q4, q1, q2, by omega, ⟨G, h.mv k5 hC hZ (by omega) (fun g _ e => by omega) (Keeps.refl _ _)⟩, k5⟩
  have is0 : ∀ {Lk : Row} {b : Act} {W : World}, okM C.N ps.toList zs Lk = true → IS Lk b W → IS Lk a0 W := by
    rintro Lk b W hm ⟨k1, k2, k3, ⟨G, h⟩, k5⟩
    have m := okM_ok hm
    refine ⟨k1, k2, k3, ⟨G, h.react (fun _ _ => rfl) hG.sz ?_ (fun t x e => by rw [noT_lk m.nt] at e; cases e)⟩, k5⟩
    obtain ⟨k, d1, d2⟩ := h.df
    rw [k5] at d1; cases d1
    exact d2.eq.symm
  refine wpIn_n (n := 10) ?_
  refine range_wide2 (hg := he) (eg := eg) hI (K := fun _ => True) (fun W hb g hg hl => hb.block g hl) ⟨trivial, trivial⟩ (fun h k => h.trans k)
    (fun W o' g hg hl => World.putObj_heap_other (by omega)) (fun pre vs ⟨x, h1, h2⟩ => by rw [h2.1]; exact hps x (List.mem_of_getElem? h1))
    (fun xs W => IS (M xs.length) a0 W) (fun c xs W => ∃ k Lx, k < l.length ∧ Mx c k = some Lx ∧ IS Lx a0 W)
    (fun pre vs a₁ W => ∃ (x : List DV) (L1 : Row), l[pre.length]? = some x ∧ (∀ ln, ∀ C' : Cx, C'.pz = C.pz ++ zs → C'.N = C.N → AW P C' (some ln) body (RB C' M Mx pre.length) L1) ∧ IS L1 a₁ W)
    (fun pre W W' h hk => isK h hk) (fun c pre W W' ⟨k, Lx, h1, h2, h3⟩ hk => ⟨k, Lx, h1, h2, isK h3 hk⟩) (fun pre x a₁ W W' ⟨y, L1, h1, h2, h3⟩ hk => ⟨y, L1, h1, h2, isK h3 hk⟩)
    ?_ ?_ ?_ ?_ ?_
  · refine ⟨hG.fr, fun g _ _ => rfl, Nat.le_refl _, ?_, (okM_ok (hM 0)).df⟩
    exact h0 (ctxR C G0 zs w.heap.size a w) rfl rfl a0 w ⟨G0, hG.toR hlv hdf⟩
  · rintro ln pre vs W ⟨k1, k2, k3, ⟨G, h⟩, k5⟩ ⟨x, hx, hxr⟩ hW
    obtain ⟨L1, d1, r1, r2⟩ := hr pre.length x hx
    have hm := okM_ok (hM pre.length)
    have hx' : Reps (G.zu zs) W vs x := ⟨hxr.1, fun i y hy => (hxr.2 i y hy).evo fun g ⟨hg, hl⟩ _ => ⟨by
      obtain ⟨z, hz, hg'⟩ := hg
      exact ⟨z, hz, (h.zz z (by simp [ctxR, hz]) (hm.lv z hz) g).2 ⟨by rw [if_pos hz]; exact hg', hl⟩⟩, k2 g hg hl⟩⟩
    have hp := h.par hm hnd hG.sz hpN hx'
    rw [← Array.toList_zip, Array.foldl_toList] at hp
    refine wpIn_n (wpIn_mono (r1 ln (ctxR C G0 zs w.heap.size a W) rfl rfl _ W ⟨G, hp⟩) ?_)
    rintro e a₁ W2 ⟨rfl, hA⟩
    obtain ⟨q1, q2, q3, q4⟩ := isR k1 k2 hW (df0B_ok d1) hA
    exact ⟨q1, q2, q3, x, L1, hx, r2, q4⟩
  · rintro ln pre vs a₁ W ⟨x, L1, hx, r2, k1, k2, k3, hA, k5⟩ hs hW
    refine wpIn_n (wpIn_mono (r2 ln (ctxR C G0 zs w.heap.size a W) rfl rfl a₁ W hA) ?_)
    intro e a2 W2 hq
    have hlt : pre.length < l.length := (List.getElem?_eq_some_iff.1 hx).1
    have el : (pre ++ [vs]).length = pre.length + 1 := by simp
    cases e with
    | normal =>
      have hm := hM (pre.length + 1)
      obtain ⟨q1, q2, q3, q4⟩ := isR k1 k2 hW (okM_ok hm).df hq
      refine ⟨q1, q2, ?_⟩
      show IS (M (pre ++ [vs]).length) a0 W2
      rw [el]
      exact is0 hm q4
    | ret =>
      obtain ⟨Lx, h1, h2⟩ := hq
      have hm := hMx _ _ _ h1
      obtain ⟨q1, q2, q3, q4⟩ := isR k1 k2 hW (okM_ok hm).df h2
      exact ⟨q1, _, Lx, hlt, h1, is0 hm q4⟩
    | exit i =>
      obtain ⟨Lx, h1, h2⟩ := hq
      have hm := hMx _ _ _ h1
      obtain ⟨q1, q2, q3, q4⟩ := isR k1 k2 hW (okM_ok hm).df h2
      exact ⟨q1, _, Lx, hlt, h1, is0 hm q4⟩
    | _ => exact hq.elim
  · rintro xs W hS ⟨k1, k2, k3, ⟨G, h⟩, k5⟩ hd
    have hS : xs.length = l.length := hS
    rw [hS] at h
    exact hdone _ _ (hG.back hdf hlv hZp hO (okM_ok (hM l.length)) k1 k2 hd h)
  · rintro c pre W hS ⟨k, Lx, hlt, h1, k1, k2, k3, ⟨G, h⟩, k5⟩ hd
    exact hstop _ _ _ h1 hlt _ _ (hG.back hdf hlv hZp hO (okM_ok (hMx _ _ _ h1)) k1 k2 hd h)
end
end Go.Proofs.Ytlkdkhmdmgchbaa
