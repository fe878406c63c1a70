/- The second logic: maps of pairs. -/
import Derived.Test.YtlkdkhmdmgchbaaJC
import Derived.Maps.OwnSet
import Derived.Maps.RangeWalk
import Derived.DeepKeys4
namespace Go.Proofs.Ytlkdkhmdmgchbaa
set_option linter.unusedSimpArgs false
set_option linter.unusedVariables false
open Go.RowKit
open Go.Maps (Keyed)
open Go.WideElems (Fit rd rg rd_key rd_val rg_of)
/-- a pair's value. -/
def pvv (p : Pr) : Value := .agg #[.int .u64 p.1, .int .u64 p.2]
set_option maxRecDepth 100000
theorem laidOut_try : laidOutB Try.prog = true := by kernel_rfl
theorem rowPair : (52 : TypeId) < Try.prog.types.size := of_decide_eq_true (by kernel_rfl)
theorem widePair : (match Try.prog.underlying 52 with | some (.array _ _) | some (.struct _) => true | _ => false) = true := by kernel_rfl
theorem keyedPair : Keyed Try.prog 52 := Keyed.of_law (deep_law_laid laidOut_try (m := 2) (by omega) rowPair (by kernel_rfl) widePair)
/-- a pair that is a key. -/
def wfP (p : Pr) : Prop := ∃ l, keyOf Try.prog 52 (pvv p) = some l
noncomputable def kL (p : Pr) : Lit := (keyOf Try.prog 52 (pvv p)).getD (.bool false)
theorem wfP.key {p : Pr} (h : wfP p) : keyOf Try.prog 52 (pvv p) = some (kL p) := by
  obtain ⟨l, h⟩ := h
  simp [kL, h]
theorem kL_inj {p q : Pr} (hp : wfP p) (hq : wfP q) (h : kL p = kL q) : p = q := by
  have := keyedPair.inj (hp.key) (h ▸ hq.key)
  simp only [pvv, Value.agg.injEq, Array.mk.injEq, List.cons.injEq, Value.int.injEq, true_and, and_true] at this
  exact Prod.ext this.1 this.2
theorem cells52 : Try.prog.cellsOf 52 = 2 := by kernel_rfl
theorem cellsU : Try.prog.cellsOf 50 = 1 := by kernel_rfl
theorem keyT : Try.prog.keyType 52 = true := by kernel_rfl
theorem sizeT : ∃ m, Try.prog.types.size = m + 1 := ⟨_, rfl⟩
theorem wfP_of {p : Pr} (h1 : (Lit.int .u64 p.1).wf = true) (h2 : (Lit.int .u64 p.2).wf = true) : wfP p := by
  obtain ⟨m, hm⟩ := sizeT
  unfold wfP keyOf pvv
  simp only [Try.underlying52]
  rw [if_pos (by simp [keyT, Value.formed, Try.underlying52, cells52]), hm]
  unfold Program.keyLits
  simp only [Try.underlying52, Value.cells]
  rw [if_pos ⟨by rw [cells52]; rfl, by kernel_rfl⟩]
  simp [Program.keyLits, Try.underlying50, h1, h2, cellsU]
theorem zeroInt (w : World) : (zeroValue 3).run Try.prog w = .ok (.int .i64 0) w := by kernel_rfl
end Go.Proofs.Ytlkdkhmdmgchbaa
namespace Go.Proofs.Ytlkdkhmdmgchbaa
set_option linter.unusedSimpArgs false
set_option linter.unusedVariables false
open Go.RowKit
open Go.Maps (Keyed)
open Go.WideElems (Fit rd rg rd_key rd_val rg_of)
open Go.ChangeMaps
set_option maxRecDepth 100000
noncomputable abbrev RE : Value → Option (DataW Unit × List MemPlace) := plainElem Try.prog 3
/-- entries: what they hold. -/
def LK (es : Array MapEntry) (f : Pr → Option Int) : Prop := (∀ e ∈ es.toList, ∃ p x, f p = some x ∧ wfP p ∧ e.key = pvv p ∧ e.val = .int .i64 x) ∧ ∀ p x, f p = some x → wfP p ∧ ∃ e ∈ es.toList, e.key = pvv p ∧ e.val = .int .i64 x
structure MapOk (n : Nat) (es : Array MapEntry) (clock : Nat) (f : Pr → Option Int) : Prop where
  fit : Fit Try.prog 52 RE es clock
  size : es.size ≤ n
  lk : LK es f
def updF (f : Pr → Option Int) (p : Pr) (x : Int) : Pr → Option Int := fun q => if q = p then some x else f q
theorem pvv_inj {p q : Pr} (h : pvv p = pvv q) : p = q := by
  simp only [pvv, Value.agg.injEq, Array.mk.injEq, List.cons.injEq, Value.int.injEq, true_and, and_true] at h
  exact Prod.ext h.1 h.2
theorem MapOk.empty : MapOk 0 #[] 0 (fun _ => none) := ⟨⟨by simp, Go.MapKept.stamped_empty 0, by simp⟩, by simp, by simp, fun p x h => by cases h⟩
theorem rg_int {e : MapEntry} {y : Lit × DataW Unit} {p : Pr} {x : Int} (hp : wfP p) (h : rd Try.prog 52 RE e = some y) (hy : y = (kL p, .lit (.int .i64 x))) : e.key = pvv p ∧ e.val = .int .i64 x := by
  subst hy
  refine ⟨keyedPair.inj (rd_key h) hp.key, ?_⟩
  obtain ⟨z, h1, h2⟩ := rd_val h
  obtain ⟨a, h3, h4, _⟩ := plainElem_int_inv Try.underlying3 h1
  rw [h4] at h2
  simp only [DataW.lit.injEq, Lit.int.injEq, true_and] at h2
  rw [h3, h2]
theorem rg_mk {e : MapEntry} {p : Pr} {x : Int} (hp : wfP p) (h1 : e.key = pvv p) (h2 : e.val = .int .i64 x) {y : Lit × DataW Unit} (h : rd Try.prog 52 RE e = some y) : y = (kL p, .lit (.int .i64 x)) := by
  have k1 := rd_key h
  rw [h1, hp.key] at k1
  obtain ⟨z, k2, k3⟩ := rd_val h
  rw [h2] at k2
  obtain ⟨a, h3, h4, _⟩ := plainElem_int_inv Try.underlying3 k2
  cases h3
  rw [h4] at k3
  exact Prod.ext (Option.some.inj k1).symm k3
theorem MapOk.put {w : World} {b n : Nat} {es : Array MapEntry} {clock : Nat} {f : Pr → Option Int} {p : Pr} {x : Int} (hb : w.heap[b]? = some (.map es clock)) (M : MapOk n es clock f) (hn : n < maxLen) (hp : wfP p) (hx : (Lit.int .i64 x).wf = true) :
    ∃ es' clock', (Instr.mapUpdate 151 (.map (some b)) (pvv p) (.int .i64 x)).run Try.prog w = .ok () (setBlock w b (.map es' clock')) ∧ MapOk (n + 1) es' clock' (updF f p x) := by
  obtain ⟨es', clock', hrun, F', hput, -, -, hwho⟩ := Maps.fit_store (R' := RE) keyedPair Try.underlying151 hb M.fit (Nat.lt_of_le_of_lt M.size hn) (fun _ _ _ _ hz => hz) hp.key (plainElem_int Try.underlying3 hx)
  have hmem : ∀ y, y ∈ es'.toList.map (rg Try.prog 52 RE) ↔ y = (kL p, .lit (.int .i64 x)) ∨ (y ∈ es.toList.map (rg Try.prog 52 RE) ∧ notKey (kL p) y = true) := fun y => by
    rw [← mem_sorted, hput]
    unfold putKey
    rw [(Go.WideShapes.insert_perm _ _).mem_iff, List.mem_cons, List.mem_filter, mem_sorted]
  refine ⟨es', clock', hrun, F', ?_, fun e he => ?_, fun q y hq => ?_⟩
  · have e1 : es'.size = ((es'.toList.map (rg Try.prog 52 RE)).foldr DataW.insert []).length := by rw [length_sorted]; simp
    rw [e1, hput]
    unfold putKey
    rw [length_insert]
    have e2 := List.length_filter_le (notKey (kL p)) ((es.toList.map (rg Try.prog 52 RE)).foldr DataW.insert [])
    rw [length_sorted] at e2
    have := M.size
    simp at e2
    omega
  · rcases hwho e he with ⟨h1, h2⟩ | ⟨h1, h2⟩
    · obtain ⟨q, y, k1, k2, k3, k4⟩ := M.lk.1 e h1
      refine ⟨q, y, ?_, k2, k3, k4⟩
      unfold updF
      rw [if_neg (fun e' => h2 (by rw [k3, e']))]
      exact k1
    · exact ⟨p, x, by simp [updF], hp, h1, h2⟩
  · unfold updF at hq
    have back : ∀ {q : Pr} {y : Int}, wfP q → (kL q, DataW.lit (.int .i64 y)) ∈ es'.toList.map (rg Try.prog 52 RE) → ∃ e ∈ es'.toList, e.key = pvv q ∧ e.val = .int .i64 y := fun {q y} hwq h => by
      obtain ⟨e, he, h3⟩ := List.mem_map.1 h
      obtain ⟨z, hz⟩ := F'.reads e he
      rw [rg_of hz] at h3
      exact ⟨e, he, rg_int hwq hz h3⟩
    by_cases e : q = p
    · subst e
      rw [if_pos rfl] at hq
      cases hq
      exact ⟨hp, back hp ((hmem _).2 (.inl rfl))⟩
    · rw [if_neg e] at hq
      obtain ⟨hwq, e0, h0, h1, h2⟩ := M.lk.2 q y hq
      obtain ⟨z, hz⟩ := M.fit.reads e0 h0
      have hzz := rg_mk hwq h1 h2 hz
      refine ⟨hwq, back hwq ((hmem _).2 (.inr ⟨List.mem_map.2 ⟨e0, h0, by rw [rg_of hz, hzz]⟩, ?_⟩))⟩
      unfold notKey
      rw [Bool.not_eq_true']
      exact Maps.sameKey_ne (fun h => e (kL_inj hwq hp h))
theorem MapOk.look {w : World} {b n : Nat} {es : Array MapEntry} {clock : Nat} {f : Pr → Option Int} {p : Pr} (hb : w.heap[b]? = some (.map es clock)) (M : MapOk n es clock f) (hp : wfP p) :
    (Instr.lookup 151 (.map (some b)) (pvv p) true).run Try.prog w = .ok (.tuple #[.int .i64 ((f p).getD 0), .bool (f p).isSome]) w := by
  rcases Maps.fit_look true keyedPair Try.underlying151 (zeroInt w) hb M.fit hp.key with ⟨hrun, hno, _⟩ | ⟨e0, y, he, hk, hrun, _⟩
  · have : f p = none := by
      cases hf : f p with
      | none => rfl
      | some x =>
        obtain ⟨_, e, he, h1, _⟩ := M.lk.2 p x hf
        exact absurd h1 (hno e he)
    rw [hrun, this]; rfl
  · obtain ⟨q, x, k1, _, k3, k4⟩ := M.lk.1 e0 he
    rw [hk] at k3
    obtain rfl := pvv_inj k3
    rw [hrun, k1, k4]; rfl
end Go.Proofs.Ytlkdkhmdmgchbaa
namespace Go.Proofs.Ytlkdkhmdmgchbaa
set_option linter.unusedSimpArgs false
set_option linter.unusedVariables false
open Go.RowKit
open Go.ChangeMaps (setBlock)
set_option maxRecDepth 100000
/-- a map, by its entries. -/
def mapC (b : Nat) (es : Array MapEntry) (clock : Nat) : SP where
  p := fun Z w v => v = .map (some b) ∧ Z b ∧ w.heap[b]? = some (.map es clock)
  evo := by
    rintro Z Z' w w' v ⟨rfl, h1, h2⟩ hz
    obtain ⟨a, c⟩ := hz b h1 (Array.getElem?_eq_some_iff.1 h2).1
    exact ⟨rfl, a, c.trans h2⟩
  one := by
    rintro Z w v ⟨rfl, _⟩
    rfl
/-- a map in a block, of at most n entries, that holds what f says. -/
def mapF (b n : Nat) (f : Pr → Option Int) : SP where
  p := fun Z w v => ∃ es clock, (mapC b es clock).p Z w v ∧ MapOk n es clock f
  evo := by
    rintro Z Z' w w' v ⟨es, clock, h, M⟩ hz
    exact ⟨es, clock, (mapC b es clock).evo _ _ _ _ _ h hz, M⟩
  one := by
    rintro Z w v ⟨es, clock, h, M⟩
    exact (mapC b es clock).one _ _ _ h
def mapE (n : Nat) (f : Pr → Option Int) : SP where
  p := fun Z w v => ∃ b, (mapF b n f).p Z w v
  evo := by
    rintro Z Z' w w' v ⟨b, h⟩ hz
    exact ⟨b, (mapF b n f).evo _ _ _ _ _ h hz⟩
  one := by
    rintro Z w v ⟨b, h⟩
    exact (mapF b n f).one _ _ _ h
/-- a range over a map. -/
def iterC (b since : Nat) (seen : Array Nat) (c0 : Nat) : SP where
  p := fun Z w v => ∃ r, v = .pointer (some ⟨r, 0, none⟩) ∧ Z r ∧ w.heap[r]? = some (.mapIter (some b) since seen c0)
  evo := by
    rintro Z Z' w w' v ⟨r, rfl, h1, h2⟩ hz
    obtain ⟨a, c⟩ := hz r h1 (Array.getElem?_eq_some_iff.1 h2).1
    exact ⟨r, rfl, a, c.trans h2⟩
  one := by
    rintro Z w v ⟨r, rfl, _⟩
    rfl
section
variable {P : Program} {C : Cx} {r : Option Nat} {Q : Exit → Act → World → Prop} {L : Row} {c : Code} {G : Gh} {σ σ' : St} {a : Act} {w : World}
/-- the same memory, slots and cells told otherwise. -/
theorem ASG.retell (h : ASG C G σ a w) (hk : ∀ key, (∀ t, key ≠ .tmp t) → (∀ n k, key ≠ .cell n k) → σ' key = σ key) (ht : ∀ t x, σ' (.tmp t) = .av x → ∃ v, a.tmps[t]? = some v ∧ Rep G σ w v x)
    (hc : ∀ n k x, σ' (.cell n k) = .av x → Nm σ n ∧ ∃ v, w.cell? ⟨G.ρ n, k, none⟩ = some v ∧ w.frozen? ⟨G.ρ n, k, none⟩ = false ∧ Rep G σ w v x) : ASG C G σ' a w := by
  have lv : ∀ z, Lv σ' z ↔ Lv σ z := fun z => by unfold Lv; rw [hk _ (by simp) (by simp)]
  have nm : ∀ z, Nm σ' z ↔ Nm σ z := fun z => by unfold Nm; rw [hk _ (by simp) (by simp)]
  have ev : Evo G G σ σ' w w := by
    refine ⟨fun z h => ?_, fun z h => ?_, fun m hm => ⟨(nm m).2 hm, rfl⟩, fun z _ hl => ⟨(lv z).1 hl, rfl, fun _ _ => rfl⟩, fun z _ hl => ⟨?_, rfl⟩⟩
    · unfold Uz; rw [hk _ (by simp) (by simp)]; exact h
    · unfold Uh; rw [hk _ (by simp) (by simp)]; exact h
    · unfold Lh at hl ⊢; rw [hk _ (by simp) (by simp)] at hl; exact hl
  obtain ⟨k, d1, d2⟩ := h.df
  refine ⟨h.fr, ⟨k, (hk _ (by simp) (by simp)).trans d1, d2.eq, fun i hi => ⟨(d2.ok i hi).obj, (d2.ok i hi).nb, fun q hq => (d2.ok i hi).nn q ((nm q).1 hq), fun z hz => (d2.ok i hi).nz z ((lv z).1 hz)⟩, d2.inj⟩, h.sz, fun t x e => ?_, fun i t x e => ?_, fun n j x e => ?_, fun n hn => h.nm n ((nm n).1 hn), fun n m hn hm => h.inj n m ((nm n).1 hn) ((nm m).1 hm),
    fun z g hl hg => ?_, fun z g h0 hl hg => h.new z g h0 ((lv z).1 hl) hg, fun y z g hne hy hz => h.disj y z g hne ((lv y).1 hy) ((lv z).1 hz), fun h' E sz y zs rows e => ?_, fun z hz hl => h.zz z hz ((lv z).1 hl), fun p hp => ⟨(h.ob p hp).obj, (h.ob p hp).nb, fun n hn => (h.ob p hp).nn n ((nm n).1 hn), fun z hz => (h.ob p hp).nz z ((lv z).1 hz)⟩, fun n hn => h.sf n ((nm n).1 hn)⟩
  · obtain ⟨v, h1, h2⟩ := ht t x e
    exact ⟨v, h1, h2.evo ev⟩
  · rw [hk _ (by simp) (by simp)] at e; exact (h.vt i t x e).evo ev
  · obtain ⟨h1, v, h2, h3, h4⟩ := hc n j x e
    exact ⟨(nm n).2 h1, v, h2, h3, h4.evo ev⟩
  · obtain ⟨h1, h2⟩ := h.sep z g ((lv z).1 hl) hg
    exact ⟨h1, fun n hn => h2 n ((nm n).1 hn)⟩
  · rw [hk _ (by simp) (by simp)] at e
    exact (h.hd h' E sz y zs rows e).evo ev rfl
/-- a slot's datum is opened: there is something of which it is told more. -/
theorem AW.openT {X : Type} (t : Nat) {zs : List Nat} {d : D} {ψ : X → D} (e : lk L (.tmp t) = .av (.c zs d)) (hz : ∀ z ∈ zs, lk L (.zn z) = .zn .live) (hd : ∀ Z w v, RepD Z w v d → ∃ x, RepD Z w v (ψ x))
    (h : ∀ x, AW P C r c Q ((.tmp t, .av (.c zs (ψ x))) :: L)) : AW P C r c Q L := fun a w ⟨G, hG⟩ => by
  obtain ⟨v, h1, h2⟩ := hG.tmp t _ e
  obtain ⟨x, hx⟩ := hd _ _ _ (h2.rep hz)
  refine h x a w ⟨G, hG.retell (fun key hk _ => ?_) (fun t' y hy => ?_) (fun n k y hy => ?_)⟩
  · simp only [lk]
    rw [if_neg (fun q => hk t q.symm)]
  · simp only [lk, Key.tmp.injEq] at hy
    by_cases ht : t = t'
    · subst ht
      rw [if_pos rfl] at hy
      cases hy
      exact ⟨v, h1, ⟨h2.ok, fun _ => hx⟩⟩
    · rw [if_neg ht] at hy
      exact hG.tmp t' y hy
  · simp only [lk] at hy
    rw [if_neg (by simp)] at hy
    exact hG.cell n k y hy
/-- a variable's. -/
theorem AW.openC {X : Type} (n k : Nat) {zs : List Nat} {d : D} {ψ : X → D} (e : lk L (.cell n k) = .av (.c zs d)) (hz : ∀ z ∈ zs, lk L (.zn z) = .zn .live) (hd : ∀ Z w v, RepD Z w v d → ∃ x, RepD Z w v (ψ x))
    (h : ∀ x, AW P C r c Q ((.cell n k, .av (.c zs (ψ x))) :: L)) : AW P C r c Q L := fun a w ⟨G, hG⟩ => by
  obtain ⟨h0, v, h1, hf, h2⟩ := hG.cell n k _ e
  obtain ⟨x, hx⟩ := hd _ _ _ (h2.rep hz)
  refine h x a w ⟨G, hG.retell (fun key _ hk => ?_) (fun t' y hy => ?_) (fun n' k' y hy => ?_)⟩
  · simp only [lk]
    rw [if_neg (fun q => hk n k q.symm)]
  · simp only [lk] at hy
    rw [if_neg (by simp)] at hy
    exact hG.tmp t' y hy
  · simp only [lk, Key.cell.injEq] at hy
    by_cases ht : n = n' ∧ k = k'
    · obtain ⟨rfl, rfl⟩ := ht
      rw [if_pos ⟨rfl, rfl⟩] at hy
      cases hy
      exact ⟨h0, v, h1, hf, ⟨h2.ok, fun _ => hx⟩⟩
    · rw [if_neg ht] at hy
      exact hG.cell n' k' y hy
/-- a block of a zone of one's own is turned into another thing: its zone is another one then; slots and cells that hold as told are told anew. -/
theorem ASG.turn {w' : World} {y zn : Nat} {o : Obj} {b : Nat} (hA : ASG C G σ a w) (ly : Lv σ y) (y0 : y ∉ C.pz) (fz : σ (.zn zn) = .zn .free) (zn0 : zn ∉ C.pz) (hb : G.ζ y b) (hsz : w'.heap.size = w.heap.size) (hos : w'.os = w.os) (htp : w'.tape = w.tape) (hout : w'.output = w.output)
    (blk : ∀ i, i ≠ b → w'.heap[i]? = w.heap[i]?) (hb' : w'.heap[b]? = some o) (so : SoftO o) :
    ASG C { G with ζ := fun q => if q = zn then G.ζ y else G.ζ q } (ovr σ [(.zn zn, .zn .live), (.zn y, .zn .dead)]) a w' ∧ y ≠ zn := by
  have ne : y ≠ zn := fun e => by subst e; unfold Lv at ly; rw [fz] at ly; cases ly
  have hA1 : ASG C G (ovr σ (deadZ [y])) a w' := by
    refine hA.kill (fun q hq => by simp at hq; subst hq; exact ly) (fun q hq => by simp at hq; subst hq; exact y0) ?_
    exact ⟨hos, htp, hout, by omega, fun i hi hbb => blk i (fun e => hbb (e ▸ ⟨y, by simp, hb⟩))⟩
  have dz : ∀ q, Lv (ovr σ (deadZ [y])) q → q ≠ y ∧ Lv σ q := fun q hq => by
    have := (lesser_dead (σ := σ) [y]).lv hq
    refine ⟨?_, this⟩
    rintro rfl
    unfold Lv at hq
    simp [ovr, fnd_dead] at hq
  obtain ⟨hA2, _⟩ := hA1.addzone (z := zn) zn0 (by simp only [ovr, fnd_dead]; rw [if_neg (by simp; exact fun e => ne e.symm)]; exact fz) (G.ζ y) (fun q hq => by
    refine ⟨⟨by rw [hsz]; exact (hA.sep y q ly hq).1, (hA.new y q y0 ly hq).1, fun m hm => (hA.sep y q ly hq).2 m ?_, fun b hb hg' => ?_, fun c i e hi e' => ?_, fun p hpp e => (hA.ob p hpp).nz y ly (e ▸ hq)⟩, ?_⟩
    · unfold Nm at hm ⊢; rw [← (lesser_dead (σ := σ) [y]).nm]; exact hm
    · obtain ⟨a1, a2⟩ := dz b hb
      exact hA.disj b y q a1 a2 ly hg' hq
    · obtain ⟨k', d1, d2⟩ := hA.df
      rw [(lesser_dead (σ := σ) [y]).df, d1] at e; cases e
      exact (d2.ok i hi).nz y ly (e' ▸ hq)
    · by_cases e : q = b
      · subst e
        exact ⟨_, hb', so⟩
      · exact (hA.new y q y0 ly hq).2.of_eq (blk q e))
  refine ⟨?_, ne⟩
  have e : ovr (ovr σ (deadZ [y])) [(.zn zn, .zn .live)] = ovr σ [(.zn zn, .zn .live), (.zn y, .zn .dead)] := by
    funext k
    simp only [ovr, deadZ, List.map_cons, List.map_nil, fnd]
    by_cases e1 : Key.zn zn = k
    · simp [e1]
    · simp [e1]
  rw [← e]
  exact hA2
end
end Go.Proofs.Ytlkdkhmdmgchbaa
namespace Go.Proofs.Ytlkdkhmdmgchbaa
set_option linter.unusedSimpArgs false
set_option linter.unusedVariables false
open Go.RowKit
open Go.ChangeMaps (setBlock)
set_option maxRecDepth 100000
section
variable {L : St}
theorem hatch_make {pz : List Nat} {d : Tmp} {z : Nat} {ty : TypeId} {s : String} {e : Array Edge} {g : Option (Nat × Bool)} {k : Trc → Prop} (hf : L (.zn z) = .zn .free)
    (hk : k ⟨[(.zn z, .zn .free)], wr (some d) (.c [z] (.st (mapE 0 fun _ => none))) ++ [(.zn z, .zn .live)]⟩) : stHatchZ Try.prog L pz z ⟨some d, .makeMap 151 none, ty, s, e, g⟩ k := by
  refine ⟨_, hk, Rd.cons hf Rd.nil, fun C hd hpz hzb => ?_⟩
  intro σ a w K ⟨G, hA⟩ hr hK
  have z0 : z ∉ C.pz := fun h => Nat.lt_irrefl _ (hzb _ h)
  obtain ⟨h1, e1⟩ := (hA.below (below_alloc w (.map #[] 0))).1.addzone z0 hr.head (fun g => g = w.heap.size) fun g hg => by
    subst hg
    exact ⟨hA.fresh (Nat.le_refl _) (by simp), ⟨_, heap_alloc_new w _, trivial⟩⟩
  have h2 := h1.put (dst := some d) (v := .map (some w.heap.size)) (x := .c [z] (.st (mapE 0 fun _ => none))) (dok_ok hd) ⟨fun y hy => by simp at hy; subst hy; unfold Uz; rw [ovr_one]; simp, fun _ => .st _ _ ⟨w.heap.size, #[], 0, ⟨rfl, ⟨z, by simp, by simp⟩, heap_alloc_new w _⟩, MapOk.empty⟩⟩
  rw [ovr_ovr] at h2
  exact ⟨fun c => by simp, .inl ⟨_, _, rfl, hK _ _ ⟨_, h2⟩⟩⟩
theorem hatch_look {pz : List Nat} {d : Tmp} {z b n : Nat} {f : Pr → Option Int} {p : Pr} {x y : Operand} {zs : List Nat} {r r1 r2 : Row} {ty : TypeId} {s : String} {e : Array Edge} {g : Option (Nat × Bool)} {k : Trc → Prop} (hx : opd L x = some (r, .c zs (.st (mapF b n f)))) (hz : zr L zs = some r1) (hy : opr L y = some (r2, pvv p)) (hp : wfP p)
    (hk : k ⟨r ++ (r1 ++ r2), wr (some d) (.tup [] [.c (.v (.int .i64 ((f p).getD 0))), .c (.v (.bool (f p).isSome))])⟩) : stHatchZ Try.prog L pz z ⟨some d, .lookup 151 x y true, ty, s, e, g⟩ k := by
  refine ⟨_, hk, Rd.app (opd_rd hx) (Rd.app (zr_rd hz) (opr_rd hy)), fun C hd _ _ => OpOk.pure (fun c => by simp) (dok_ok hd) fun G σ a w hA hr => ?_⟩
  have e1 := (opd_ok hx hA hr.left).rep (zr_ok hz hr.right.left)
  have e2 := opr_ok hy hA hr.right.right
  generalize ev : a.eval x = vx at e1
  cases e1 with
  | st _ _ h =>
    obtain ⟨es, clock, ⟨rfl, hb1, hb2⟩, M⟩ := h
    refine ⟨_, ?_, ⟨fun q hq => absurd hq (by simp), fun _ => ⟨#[.int .i64 ((f p).getD 0), .bool (f p).isSome], rfl, rfl, fun i x hi => ?_⟩⟩⟩
    · simp only [execOp, ev, e2]
      rw [Sem.run_bind, M.look hb2 hp]
      rfl
    · match i, hi with
      | 0, hi => cases hi; exact .v _
      | 1, hi => cases hi; exact .v _
/-- variables that hold a map. -/
def keptC (z : Nat) (d : D) (l : List (Nat × Nat)) : Row := l.map fun x => (.cell x.1 x.2, .av (.c [z] d))
theorem fnd_keptC_ne (z : Nat) (d : D) {k : Key} (h : ∀ n j, k ≠ .cell n j) : ∀ l : List (Nat × Nat), fnd (keptC z d l) k = none
  | [] => rfl
  | x :: l => by
    simp only [keptC, List.map_cons, fnd]
    rw [if_neg (fun e => h _ _ e.symm)]
    exact fnd_keptC_ne z d h l
theorem fnd_keptC (z : Nat) (d : D) (n j : Nat) : ∀ (l : List (Nat × Nat)) {y : KV}, fnd (keptC z d l) (.cell n j) = some y → (n, j) ∈ l ∧ y = .av (.c [z] d)
  | [], y, h => by cases h
  | x :: l, y, h => by
    simp only [keptC, List.map_cons, fnd, Key.cell.injEq] at h
    by_cases e : x.1 = n ∧ x.2 = j
    · rw [if_pos e] at h
      obtain ⟨rfl, rfl⟩ := e
      exact ⟨List.mem_cons_self, by cases h; rfl⟩
    · rw [if_neg e] at h
      obtain ⟨h1, h2⟩ := fnd_keptC z d n j l h
      exact ⟨List.mem_cons_of_mem _ h1, h2⟩
theorem keptC_rd {z : Nat} {d : D} : ∀ {l : List (Nat × Nat)}, (∀ x ∈ l, L (.cell x.1 x.2) = .av (.c [z] d)) → Rd L (keptC z d l)
  | [], _ => Rd.nil
  | x :: l, h => Rd.cons (h x List.mem_cons_self) (keptC_rd fun y hy => h y (List.mem_cons_of_mem _ hy))
theorem keptC_mem {z : Nat} {d : D} {σ : St} {l : List (Nat × Nat)} (h : Rd σ (keptC z d l)) : ∀ x ∈ l, σ (.cell x.1 x.2) = .av (.c [z] d) := by
  induction l with
  | nil => intro x hx; cases hx
  | cons y l ih =>
    intro x hx
    have h' : Rd σ ((.cell y.1 y.2, .av (.c [z] d)) :: keptC z d l) := h
    rcases List.mem_cons.1 hx with rfl | hx
    · exact h'.head
    · exact ih h'.tail x hx
theorem mapF_b {Z : Zone} {w : World} {v : Value} {b n : Nat} {f : Pr → Option Int} (h : RepD Z w v (.st (mapF b n f))) : v = .map (some b) ∧ Z b ∧ ∃ es clock, w.heap[b]? = some (.map es clock) ∧ MapOk n es clock f := by
  cases h with
  | st _ _ h =>
    obtain ⟨es, clock, ⟨rfl, h1, h2⟩, M⟩ := h
    exact ⟨rfl, h1, es, clock, h2, M⟩
theorem hatch_put {pz : List Nat} {ty : TypeId} {s : String} {e : Array Edge} {g : Option (Nat × Bool)} {x y v : Operand} {r r1 r2 : Row} {z zn b n : Nat} {f : Pr → Option Int} {p : Pr} {i : Int} {k : Trc → Prop} (l : List (Nat × Nat))
    (hx : opd L x = some (r, .c [z] (.st (mapF b n f)))) (hy : opr L y = some (r1, pvv p)) (hv : opr L v = some (r2, .int .i64 i)) (hl : L (.zn z) = .zn .live) (hf : L (.zn zn) = .zn .free) (hp : pz.contains z = false) (hk0 : ∀ c ∈ l, L (.cell c.1 c.2) = .av (.c [z] (.st (mapF b n f))))
    (hw : wfP p) (hi : (Lit.int .i64 i).wf = true) (hn : n < maxLen)
    (hk : k ⟨(.zn z, .zn .live) :: (.zn zn, .zn .free) :: (r ++ (r1 ++ (r2 ++ keptC z (.st (mapF b n f)) l))), keptC zn (.st (mapF b (n + 1) (updF f p i))) l ++ [(.zn zn, .zn .live), (.zn z, .zn .dead)]⟩) : stHatchZ Try.prog L pz zn ⟨none, .mapUpdate 151 x y v, ty, s, e, g⟩ k := by
  refine ⟨_, hk, Rd.cons hl (Rd.cons hf (Rd.app (opd_rd hx) (Rd.app (opr_rd hy) (Rd.app (opr_rd hv) (keptC_rd hk0))))), fun C hd hpz hzb => ?_⟩
  subst hpz
  intro σ a w K ⟨G, hA⟩ hr hK
  have z0 : z ∉ C.pz := fun h => by simp [h] at hp
  have zn0 : zn ∉ C.pz := fun h => Nat.lt_irrefl _ (hzb _ h)
  have lz : Lv σ z := hr.head
  have fz : σ (.zn zn) = .zn .free := hr.tail.head
  have hrr := hr.tail.tail
  obtain ⟨ex, ⟨z', hz', hgb⟩, es, clock, hb, M⟩ := mapF_b ((opd_ok hx hA hrr.left).rep (fun y hy => by simp at hy; subst hy; exact lz))
  simp at hz'; subst hz'
  have ey := opr_ok hy hA hrr.right.left
  have ev := opr_ok hv hA hrr.right.right.left
  have hkp := keptC_mem hrr.right.right.right
  obtain ⟨es', clock', hrun, M'⟩ := M.put hb hn hw hi
  refine ⟨fun c => by simp, .inr (.inl ⟨_, by simp only [execOp, ex, ey, ev]; rw [Sem.run_bind, hrun]; rfl, ?_⟩)⟩
  have hsame := Go.ChangeMaps.heap_setBlock_same hb (.map es' clock')
  have hoth := fun i hi => Go.ChangeMaps.heap_setBlock_other hb (.map es' clock') (i := i) hi
  obtain ⟨w', hw'⟩ : ∃ w', w' = setBlock w b (.map es' clock') := ⟨_, rfl⟩
  have hfr : ∀ x, w'.frozen? x = w.frozen? x := fun x => by rw [hw']; exact Go.ChangeMaps.frozen?_setBlock hb x
  have hsz : w'.heap.size = w.heap.size := by rw [hw']; simp [setBlock]
  rw [← hw'] at hsame hoth ⊢
  obtain ⟨hA2, ne⟩ := hA.turn lz z0 fz zn0 hgb hsz (by rw [hw']; rfl) (by rw [hw']; rfl) (by rw [hw']; rfl) hoth hsame trivial
  have hcell : ∀ q j u, Nm σ q → w.cell? ⟨G.ρ q, j, none⟩ = some u → w'.cell? ⟨G.ρ q, j, none⟩ = some u := fun q j u hq hu => by
    rw [← hu]
    exact World.cell?_of_block (w := w) (a := ⟨G.ρ q, j, none⟩) (hoth _ ((hA.sep _ b lz hgb).2 q hq))
  refine hK _ _ ⟨_, hA2.retell (fun key h1 h2 => ?_) (fun t q hq => ?_) (fun q j u hq => ?_)⟩
  · simp only [ovr, fnd_app, fnd_keptC_ne _ _ h2, Option.none_or]
  · simp only [ovr, fnd_app, fnd_keptC_ne _ _ (k := .tmp t) (fun n j => by simp), Option.none_or] at hq
    exact hA2.tmp t q hq
  · simp only [ovr, fnd_app] at hq
    cases hc : fnd (keptC zn (.st (mapF b (n + 1) (updF f p i))) l) (.cell q j) with
    | none =>
      rw [hc] at hq
      exact hA2.cell q j u hq
    | some yy =>
      rw [hc] at hq
      obtain ⟨hm, rfl⟩ := fnd_keptC _ _ _ _ _ hc
      simp only [Option.some_or, Option.getD_some, KV.av.injEq] at hq
      subst hq
      obtain ⟨h0, vv, h1, h2, h3⟩ := hA.cell q j _ (hkp _ hm)
      obtain ⟨rfl, _, _⟩ := mapF_b (h3.rep (fun y hy => by simp at hy; subst hy; exact lz))
      refine ⟨by unfold Nm at h0 ⊢; simpa [ovr, fnd] using h0, _, hcell q j _ h0 h1, by rw [hfr]; exact h2, ⟨fun y hy => ?_, fun _ => .st _ _ ⟨es', clock', ⟨rfl, ⟨zn, by simp, by simpa using hgb⟩, hsame⟩, M'⟩⟩⟩
      simp at hy; subst hy
      unfold Uz; simp [ovr, fnd]
theorem hatch_range {pz : List Nat} {d : Tmp} {z b : Nat} {es : Array MapEntry} {clock : Nat} {x : Operand} {zs : List Nat} {r r1 : Row} {ty : TypeId} {s : String} {e : Array Edge} {g : Option (Nat × Bool)} {k : Trc → Prop} (hf : L (.zn z) = .zn .free) (hx : opd L x = some (r, .c zs (.st (mapC b es clock)))) (hz : zr L zs = some r1)
    (hk : k ⟨(.zn z, .zn .free) :: (r ++ r1), wr (some d) (.c [z] (.st (iterC b clock #[] clock))) ++ [(.zn z, .zn .live)]⟩) : stHatchZ Try.prog L pz z ⟨some d, .range 151 x, ty, s, e, g⟩ k := by
  refine ⟨_, hk, Rd.cons hf (Rd.app (opd_rd hx) (zr_rd hz)), fun C hd hpz hzb => ?_⟩
  intro σ a w K ⟨G, hA⟩ hr hK
  have z0 : z ∉ C.pz := fun h => Nat.lt_irrefl _ (hzb _ h)
  have e1 := (opd_ok hx hA hr.tail.left).rep (zr_ok hz hr.tail.right)
  generalize ev : a.eval x = vx at e1
  cases e1 with
  | st _ _ h =>
    obtain ⟨rfl, hb1, hb2⟩ := h
    obtain ⟨h1, e1⟩ := (hA.below (below_alloc w (.mapIter (some b) clock #[] clock))).1.addzone z0 hr.head (fun g => g = w.heap.size) fun g hg => by
      subst hg
      exact ⟨hA.fresh (Nat.le_refl _) (by simp), ⟨_, heap_alloc_new w _, trivial⟩⟩
    have h2 := h1.put (dst := some d) (v := .pointer (some ⟨w.heap.size, 0, none⟩)) (x := .c [z] (.st (iterC b clock #[] clock))) (dok_ok hd) ⟨fun y hy => by simp at hy; subst hy; unfold Uz; rw [ovr_one]; simp, fun _ => .st _ _ ⟨w.heap.size, rfl, ⟨z, by simp, by simp⟩, heap_alloc_new w _⟩⟩
    rw [ovr_ovr] at h2
    refine ⟨fun c => by simp, .inl ⟨_, _, ?_, hK _ _ ⟨_, h2⟩⟩⟩
    simp only [execOp, ev]
    rw [Sem.run_bind, run_range_map w _ _ _ b es clock Try.underlying151 hb2]
    rfl
theorem hatch_entry {pz : List Nat} {d : Tmp} {z b since : Nat} {seen : Array Nat} {es : Array MapEntry} {clock : Nat} {en : MapEntry} {p : Pr} {i : Int} {x : Operand} {zs zm : List Nat} {r r1 r2 r3 : Row} {ty : TypeId} {s : String} {e : Array Edge} {g : Option (Nat × Bool)} {k : Trc → Prop} (m : Operand)
    (hx : opd L x = some (r, .c zs (.st (iterC b since (seen.push en.born) clock)))) (hz : zr L zs = some r1) (hm : opd L m = some (r2, .c zm (.st (mapC b es clock)))) (hzm : zr L zm = some r3) (he : en ∈ es.toList) (hn : (es.toList.map (·.born)).Nodup) (h1 : en.key = pvv p) (h2 : en.val = .int .i64 i)
    (hk : k ⟨r ++ (r1 ++ (r2 ++ r3)), wr (some d) (.tup [] [.agg [.v (.int .u64 p.1), .v (.int .u64 p.2)], .c (.v (.int .i64 i))])⟩) : stHatchZ Try.prog L pz z ⟨some d, .entry x, ty, s, e, g⟩ k := by
  refine ⟨_, hk, Rd.app (opd_rd hx) (Rd.app (zr_rd hz) (Rd.app (opd_rd hm) (zr_rd hzm))), fun C hd _ _ => OpOk.pure (fun c => by simp) (dok_ok hd) fun G σ a w hA hr => ?_⟩
  have e1 := (opd_ok hx hA hr.left).rep (zr_ok hz hr.right.left)
  have e2 := (opd_ok hm hA hr.right.right.left).rep (zr_ok hzm hr.right.right.right)
  generalize ev : a.eval x = vx at e1
  generalize em : a.eval m = vm at e2
  cases e1 with
  | st _ _ h =>
    cases e2 with
    | st _ _ h' =>
      obtain ⟨rr, rfl, hr1, hr2⟩ := h
      obtain ⟨rfl, hb1, hb2⟩ := h'
      refine ⟨.tuple #[en.key, en.val], ?_, ⟨fun q hq => absurd hq (by simp), fun _ => ⟨#[en.key, en.val], rfl, rfl, fun i x hi => ?_⟩⟩⟩
      · simp only [execOp, ev]
        rw [Sem.run_bind, run_entry_at w rr b since seen es clock en hr2 hb2 he hn]
        rfl
      · match i, hi with
        | 0, hi =>
          cases hi
          refine ⟨#[.int .u64 p.1, .int .u64 p.2], h1, rfl, fun j x hj => ?_⟩
          match j, hj with
          | 0, hj => cases hj; exact .v _
          | 1, hj => cases hj; exact .v _
        | 1, hi =>
          cases hi
          show RepD _ _ en.val _
          rw [h2]
          exact .v _
end
end Go.Proofs.Ytlkdkhmdmgchbaa
namespace Go.Proofs.Ytlkdkhmdmgchbaa
set_option linter.unusedSimpArgs false
set_option linter.unusedVariables false
open Go.RowKit
open Go.ChangeMaps (setBlock)
set_option maxRecDepth 100000
theorem lk_ovr (L : Row) : ∀ r : Row, lk (r ++ L) = ovr (lk L) r
  | [] => by rw [ovr_nil]; rfl
  | (k, v) :: r => by
    funext q
    simp only [List.cons_append, lk, ovr, fnd]
    by_cases h : k = q
    · simp [h]
    · rw [if_neg h, if_neg h, lk_ovr L r]; rfl
section
variable {C : Cx} {r : Option Nat} {Q : Exit → Act → World → Prop} {L : Row}
theorem first_op {ops : Array Oper} {i : Nat} {o : Oper} {K : Act → World → Prop} {a : Act} {w : World} (ho : ops[i]? = some o) (hg : o.guard = none) (h : Does Try.prog o a w K) : wpOpIn (Fr r) 10 Try.prog ops Q i K a w := by
  unfold wpOpIn
  have : Region.wanted o (yielded ops a.tmps) = true := by simp [Region.wanted, hg]
  simp only [ho, this, if_true]
  exact h.wpIn
/-- 'next', and whether there was one. -/
theorem AW.next {id d d2 it m : Nat} {z zn b since c0 : Nat} {seen : Array Nat} {es : Array MapEntry} {clock : Nat} {zm : List Nat} {ty1 ty2 : TypeId} {s1 s2 : String} {e1 e2 : Array Edge} {pz : List Nat} {N : Nat} (hP : C.pz = pz) (hN : C.N = N)
    (hit : lk L (.tmp it) = .av (.c [z] (.st (iterC b since seen c0)))) (hz : lk L (.zn z) = .zn .live) (hzn : lk L (.zn zn) = .zn .free) (hpz : (pz.contains z) = false) (hpn : pz.contains zn = false) (hmap : lk L (.tmp m) = .av (.c zm (.st (mapC b es clock)))) (hzm : ∀ y ∈ zm, lk L (.zn y) = .zn .live)
    (hd : d < N) (hd2 : d2 < N) (hold : ∀ x ∈ es.toList, x.born < since) (hsc : since ≤ c0) (hck : since ≤ clock)
    (done : (leftOf es seen).size = 0 → NX C Q .normal ((.tmp d2, .av (.c [] (.v (.bool false)))) :: (.tmp d, .av (.tup [] [.c (.v (.bool false))])) :: L))
    (round : ∀ e ∈ (leftOf es seen).toList, NX C Q .normal ((.tmp d2, .av (.c [] (.v (.bool true)))) :: (.tmp d, .av (.tup [] [.c (.v (.bool true)), .c (.v e.key), .c (.v e.val)])) :: (.tmp it, .av (.c [zn] (.st (iterC b since (seen.push e.born) clock)))) :: (.zn zn, .zn .live) :: (.zn z, .zn .dead) :: L)) :
    AW Try.prog C r (.region id #[⟨some d, .next (.tmp it) false, ty1, s1, e1, none⟩, ⟨some d2, .extract (.tmp d) 0, ty2, s2, e2, none⟩] false) Q L := by
  intro a w ⟨G, hA⟩
  subst hP hN
  have z0 : z ∉ C.pz := fun h => by simp [h] at hpz
  have zn0 : zn ∉ C.pz := fun h => by simp [h] at hpn
  refine wpIn_region ?_
  show wpOpsIn (Fr r) 10 Try.prog _ Q [0, 1] a w
  rw [wpOpsIn_cons]
  refine first_op rfl rfl ?_
  obtain ⟨v, hv, hrep⟩ := hA.tmp it _ hit
  have hrep' := hrep.rep (fun y hy => by simp at hy; subst hy; exact hz)
  obtain ⟨vm, hvm, hrepm⟩ := hA.tmp m _ hmap
  have hrepm' := hrepm.rep hzm
  have he : a.eval (.tmp it) = v := by simp [Act.eval, hv]
  have second : ∀ (t : Act) (u : World) (K : Row) (l : List DV) (x : Value), AS C (lk ((.tmp d, .av (.tup [] (.c (.v x) :: l))) :: K)) t u → (∀ a' w', AS C (lk ((.tmp d2, .av (.c [] (.v x))) :: (.tmp d, .av (.tup [] (.c (.v x) :: l))) :: K)) a' w' → Q .normal a' w') →
      wpOpsIn (Fr r) 10 Try.prog #[⟨some d, .next (.tmp it) false, ty1, s1, e1, none⟩, ⟨some d2, .extract (.tmp d) 0, ty2, s2, e2, none⟩] Q [1] t u := by
    intro t u K l x hAS hK
    rw [wpOpsIn_cons]
    refine first_op rfl rfl ?_
    have hx : opd (lk ((.tmp d, .av (.tup [] (.c (.v x) :: l))) :: K)) (.tmp d) = some ([(.tmp d, .av (.tup [] (.c (.v x) :: l)))], .tup [] (.c (.v x) :: l)) := by simp [opd, lk]
    refine op_extract (P := Try.prog) (C := C) (o := ⟨some d2, .extract (.tmp d) 0, ty2, s2, e2, none⟩) (d := .c (.v x)) rfl hx (r' := []) rfl rfl (fun d' hd' => by cases hd'; exact hd2) _ t u _ hAS (fun kv hkv => ?_) (fun a' w' h' => ?_)
    · simp at hkv; subst hkv; simp [lk]
    · refine hK a' w' ?_
      rw [show lk ((.tmp d2, .av (.c [] (.v x))) :: (.tmp d, .av (.tup [] (.c (.v x) :: l))) :: K) = ovr (lk ((.tmp d, .av (.tup [] (.c (.v x) :: l))) :: K)) (wr (some d2) (atz [] (.c (.v x)))) from lk_ovr _ [(.tmp d2, .av (.c [] (.v x)))]]
      exact h'
  cases hrep' with
  | st _ _ h =>
    cases hrepm' with
    | st _ _ hm =>
      obtain ⟨rr, rfl, ⟨z', hz', hgr⟩, hr⟩ := h
      simp at hz'; subst hz'
      obtain ⟨rfl, hb1, hb⟩ := hm
      rcases run_next_at (P := Try.prog) w ty1 rr b since c0 seen es clock hr hb hold hsc with ⟨h0, hrun⟩ | ⟨en, hen, w1, hal, hrun⟩
      · have er : (execOp a.eval ⟨some d, .next (.tmp it) false, ty1, s1, e1, none⟩).run Try.prog w = .ok (.value (.tuple #[.bool false])) w := by
          simp only [execOp, he]
          rw [Sem.run_bind, hrun]
          rfl
        refine ⟨fun c => by simp, .inl ⟨_, _, er, ?_⟩⟩
        refine second _ _ L [] (.bool false) ?_ (done h0)
        have := hA.put (dst := some d) (v := .tuple #[.bool false]) (x := .tup [] [.c (.v (.bool false))]) (fun d' hd' => by cases hd'; exact hd) ⟨fun y hy => absurd hy (by simp), fun _ => ⟨_, rfl, rfl, fun i x hi => by
          match i, hi with
          | 0, hi => cases hi; exact .v _⟩⟩
        exact ⟨G, by rw [show lk ((.tmp d, .av (.tup [] [.c (.v (.bool false))])) :: L) = ovr (lk L) (wr (some d) (.tup [] [.c (.v (.bool false))])) from lk_ovr L [(.tmp d, .av (.tup [] [.c (.v (.bool false))]))]]; exact this⟩
      · have er : (execOp a.eval ⟨some d, .next (.tmp it) false, ty1, s1, e1, none⟩).run Try.prog w = .ok (.value (.tuple #[.bool true, en.key, en.val])) (setBlock w1 rr (.mapIter (some b) since (seen.push en.born) clock)) := by
          simp only [execOp, he]
          rw [Sem.run_bind, hrun]
          rfl
        refine ⟨fun c => by simp, .inl ⟨_, _, er, ?_⟩⟩
        have hw1 : w1.heap = w.heap ∧ w1.os = w.os ∧ w1.tape = w.tape ∧ w1.output = w.output := by rcases hal with rfl | rfl <;> exact ⟨rfl, rfl, rfl, rfl⟩
        have hr1 : w1.heap[rr]? = some (.mapIter (some b) since seen c0) := by rw [hw1.1]; exact hr
        obtain ⟨w', hw'⟩ : ∃ w', w' = setBlock w1 rr (.mapIter (some b) since (seen.push en.born) clock) := ⟨_, rfl⟩
        have hset := Go.MapKept.heap_set (o' := .mapIter (some b) since (seen.push en.born) clock) hr1
        have hsame : w'.heap[rr]? = some (.mapIter (some b) since (seen.push en.born) clock) := by rw [hw']; exact hset.1
        have hoth : ∀ i, i ≠ rr → w'.heap[i]? = w.heap[i]? := fun i hi => by rw [hw']; exact (hset.2 i hi).trans (by rw [hw1.1])
        rw [← hw']
        obtain ⟨hA2, ne⟩ := hA.turn (zn := zn) hz z0 hzn zn0 hgr (by rw [hw']; simp [setBlock, hw1.1]) (by rw [hw']; exact hw1.2.1) (by rw [hw']; exact hw1.2.2.1) (by rw [hw']; exact hw1.2.2.2) hoth hsame trivial
        obtain ⟨G3, hA3⟩ : ∃ G3, ASG C G3 (ovr (lk L) ([(.tmp it, .av (.c [zn] (.st (iterC b since (seen.push en.born) clock))))] ++ [(.zn zn, .zn .live), (.zn z', .zn .dead)])) a w' := by
          refine ⟨_, hA2.retell (fun key h1 h2 => ?_) (fun t q hq => ?_) (fun q j u hq => ?_)⟩
          · simp only [ovr, fnd_app, fnd]
            rw [if_neg (fun e => h1 it e.symm)]
            rfl
          · by_cases ht : it = t
            · subst ht
              simp only [ovr, fnd_app, fnd, if_true, Option.some_or, Option.getD_some, KV.av.injEq] at hq
              subst hq
              refine ⟨_, hv, ⟨fun y hy => ?_, fun _ => .st _ _ ⟨rr, rfl, ⟨zn, by simp, by simpa using hgr⟩, hsame⟩⟩⟩
              simp at hy; subst hy
              unfold Uz; simp [ovr, fnd]
            · refine hA2.tmp t q ?_
              simpa [ovr, fnd, ht] using hq
          · refine hA2.cell q j u ?_
            simpa [ovr, fnd] using hq
        have hA4 := hA3.put (dst := some d) (v := .tuple #[.bool true, en.key, en.val]) (x := .tup [] [.c (.v (.bool true)), .c (.v en.key), .c (.v en.val)]) (fun d' hd' => by cases hd'; exact hd) ⟨fun y hy => absurd hy (by simp), fun _ => ⟨_, rfl, rfl, fun i x hi => by
          match i, hi with
          | 0, hi => cases hi; exact .v _
          | 1, hi => cases hi; exact .v _
          | 2, hi => cases hi; exact .v _⟩⟩
        rw [ovr_ovr] at hA4
        refine second (a.put (some d) (.tuple #[.bool true, en.key, en.val])) w' ((.tmp it, .av (.c [zn] (.st (iterC b since (seen.push en.born) clock)))) :: (.zn zn, .zn .live) :: (.zn z', .zn .dead) :: L) [.c (.v en.key), .c (.v en.val)] (.bool true) ⟨G3, ?_⟩ (round en hen)
        rw [show lk ((.tmp d, .av (.tup [] [.c (.v (.bool true)), .c (.v en.key), .c (.v en.val)])) :: (.tmp it, .av (.c [zn] (.st (iterC b since (seen.push en.born) clock)))) :: (.zn zn, .zn .live) :: (.zn z', .zn .dead) :: L) = ovr (lk L) _ from lk_ovr L [(.tmp d, .av (.tup [] [.c (.v (.bool true)), .c (.v en.key), .c (.v en.val)])), (.tmp it, .av (.c [zn] (.st (iterC b since (seen.push en.born) clock)))), (.zn zn, .zn .live), (.zn z', .zn .dead)]]
        exact hA4
end
end Go.Proofs.Ytlkdkhmdmgchbaa
