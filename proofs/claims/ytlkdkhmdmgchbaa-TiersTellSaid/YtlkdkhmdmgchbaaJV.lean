/- The second logic: slots told otherwise; numbers of which no more is told. -/
import Derived.Test.YtlkdkhmdmgchbaaJC
import Derived.Test.YtlkdkhmdmgchbaaJD
namespace Go.Proofs.Ytlkdkhmdmgchbaa
set_option linter.unusedSimpArgs false
set_option linter.unusedVariables false
open Go.RowKit
theorem AS.conv {C : Cx} {L : Row} {a : Act} {w : World} {t : Nat} {zs : List Nat} {d d' : D} (h : AS C (lk L) a w) (e : lk L (.tmp t) = .av (.c zs d)) (hd : ∀ Z v, RepD Z w v d → RepD Z w v d') :
    AS C (lk ((.tmp t, .av (.c zs d')) :: L)) a w := by
  obtain ⟨G, hG⟩ := h
  refine ⟨G, hG.react (fun key hk => ?_) hG.sz rfl (fun t' x hx => ?_)⟩
  · simp only [lk]
    rw [if_neg (fun q => hk t q.symm)]
  · simp only [lk, Key.tmp.injEq] at hx
    by_cases ht : t = t'
    · subst ht
      rw [if_pos rfl] at hx
      cases hx
      obtain ⟨v, h1, h2⟩ := hG.tmp t _ e
      exact ⟨v, h1, ⟨h2.ok, fun hl => hd _ _ (h2.rep hl)⟩⟩
    · rw [if_neg ht] at hx
      exact hG.tmp t' x hx
theorem AW.conv {P : Program} {C : Cx} {r : Option Nat} {x : Code} {Q : Exit → Act → World → Prop} {L : Row} (t : Nat) {zs : List Nat} {d d' : D} (e : lk L (.tmp t) = .av (.c zs d)) (hd : ∀ Z w v, RepD Z w v d → RepD Z w v d')
    (h : AW P C r x Q ((.tmp t, .av (.c zs d')) :: L)) : AW P C r x Q L := fun a w hA => h a w (hA.conv e fun Z v => hd Z w v)
end Go.Proofs.Ytlkdkhmdmgchbaa
namespace Go.Proofs.Ytlkdkhmdmgchbaa
set_option linter.unusedSimpArgs false
set_option linter.unusedVariables false
open Go.RowKit
/-- a number. -/
def isU : SP where
  p := fun _ _ v => ∃ n : Int, v = .int .u64 n
  evo := fun _ _ _ _ _ h _ => h
  one := by
    rintro Z w v ⟨n, rfl⟩
    rfl
/-- data of which no more is told than where numbers stand. -/
inductive Nums : D → Prop where
  | u : Nums (.st isU)
  | s (sz : Nat) (rows : List (List D)) (h : ∀ (i : Nat) (r : List D) (j : Nat) (x : D), rows[i]? = some r → r[j]? = some x → Nums x) : Nums (.s sz rows)
theorem Nums.set {Z : Zone} {w : World} {v : Value} {d : D} (h : RepD Z w v d) (hu : Nums d) {g o : Nat} {n n' : Int} (hc : w.cell? ⟨g, o, none⟩ = some (.int .u64 n)) : RepD Z (w.setCell ⟨g, o, none⟩ (.int .u64 n')) v d := by
  revert hu
  induction h with
  | v x => intro hu; cases hu
  | n sz => intro hu; cases hu
  | nil sz => intro _; exact .nil sz
  | emp a cap sz h => intro _; exact .emp a cap sz h
  | p => intro hu; cases hu
  | f => intro hu; cases hu
  | st φ v h => intro hu; cases hu; exact .st _ _ h
  | row g2 o2 m cap sz rows vals hn h1 h2 hl hcc hr ih =>
    intro hu
    cases hu with
    | s _ _ hu =>
      refine .row g2 o2 m cap sz rows (fun i j => if g2 = g ∧ o2 + i * sz + j = o then .int .u64 n' else vals i j) hn h1 h2 hl (fun i r j x hi hj => ?_) (fun i r j x hi hj => ?_)
      · obtain ⟨a, b⟩ := hcc i r j x hi hj
        refine ⟨a, ?_⟩
        by_cases e : g2 = g ∧ o2 + i * sz + j = o
        · simp only [if_pos e]
          obtain ⟨rfl, rfl⟩ := e
          exact World.cell?_setCell_same _ _ _ hc
        · simp only [if_neg e]
          rw [World.cell?_setCell_other _ _ _ _ (by simp only [ne_eq, Addr.mk.injEq, and_true]; intro q; exact e ⟨q.1.symm, q.2.symm⟩)]
          exact b
      · by_cases e : g2 = g ∧ o2 + i * sz + j = o
        · simp only [if_pos e]
          obtain ⟨a, b⟩ := hcc i r j x hi hj
          have hx := hr i r j x hi hj
          obtain ⟨rfl, rfl⟩ := e
          rw [hc] at b
          cases b' : vals i j with
          | int k q =>
            rw [b'] at hx
            have ux := hu i r j x hi hj
            cases ux with
            | u => exact .st _ _ ⟨n', rfl⟩
            | s sz' rows' h' => cases hx
          | _ => rw [b'] at b; cases b
        · simp only [if_neg e]
          exact ih i r j x hi hj (hu i r j x hi hj)
theorem RepD.conv {Z : Zone} {w : World} {v : Value} {sz : Nat} {rows rows' : List (List D)} (h : RepD Z w v (.s sz rows)) (hl : rows'.length = rows.length)
    (hr : ∀ (i : Nat) (r' : List D), rows'[i]? = some r' → ∃ r, rows[i]? = some r ∧ r'.length = r.length ∧ ∀ (j : Nat) (x' : D), r'[j]? = some x' → ∃ x, r[j]? = some x ∧ ∀ u, RepD Z w u x → RepD Z w u x') : RepD Z w v (.s sz rows') := by
  cases h with
  | nil => obtain rfl := List.eq_nil_of_length_eq_zero hl; exact .nil sz
  | emp a cap _ h => obtain rfl := List.eq_nil_of_length_eq_zero hl; exact .emp a cap sz h
  | row g o n cap _ _ vals hn h1 h2 hll hc hr' =>
    refine .row g o n cap sz rows' vals (by omega) h1 h2 (fun i r' hi => ?_) (fun i r' j x' hi hj => ?_) (fun i r' j x' hi hj => ?_)
    · obtain ⟨r, a, b, _⟩ := hr i r' hi
      rw [b]; exact hll i r a
    · obtain ⟨r, a, b, c⟩ := hr i r' hi
      obtain ⟨x, d, _⟩ := c j x' hj
      exact hc i r j x a d
    · obtain ⟨r, a, b, c⟩ := hr i r' hi
      obtain ⟨x, d, e⟩ := c j x' hj
      exact e _ (hr' i r j x a d)
/-- n pairs of numbers. -/
def uR (n : Nat) : List (List D) := List.replicate n [.st isU, .st isU]
theorem uR_len (n : Nat) : (uR n).length = n := by simp [uR]
theorem ud_uR (n : Nat) : Nums (.s 2 (uR n)) := .s _ _ fun i r j x hi hj => by
  obtain ⟨_, rfl⟩ : i < n ∧ r = [.st isU, .st isU] := by
    simp only [uR, List.getElem?_replicate] at hi
    split at hi
    · exact ⟨by assumption, by cases hi; rfl⟩
    · cases hi
  rcases j with _ | _ | j
  · cases hj; exact .u
  · cases hj; exact .u
  · simp at hj
theorem uR_get {n i : Nat} (h : i < n) : (uR n)[i]? = some [.st isU, .st isU] := by simp [uR, h]
section
variable {P : Program} {L : St}
theorem hatch_add {d : Tmp} {t u ty : TypeId} {s : String} {e : Array Edge} {g : Option (Nat × Bool)} {x y : Operand} {r r' r2 : Row} {zs : List Nat} {m : Int} {k : Trc → Prop} (hx : opd L x = some (r, .c zs (.st isU))) (hz : zr L zs = some r2) (hy : opr L y = some (r', .int .u64 m))
    (hk : k ⟨r ++ (r2 ++ r'), wr (some d) (.c [] (.st isU))⟩) : stHatch P L ⟨some d, .binOp .add t x y u, ty, s, e, g⟩ k := by
  refine ⟨_, hk, Rd.app (opd_rd hx) (Rd.app (zr_rd hz) (opr_rd hy)), fun C hd => OpOk.pure (fun c => by simp) (dok_ok hd) fun G σ a w hA hr => ?_⟩
  have e1 := (opd_ok hx hA hr.left).rep (zr_ok hz hr.right.left)
  have e2 := opr_ok hy hA hr.right.right
  generalize ev : a.eval x = vx at e1
  cases e1 with
  | st _ _ h =>
    obtain ⟨n, rfl⟩ := h
    refine ⟨.int .u64 (IntKind.u64.wrap (n + m)), ?_, ⟨fun z hz => absurd hz (by simp), fun _ => .st _ _ ⟨_, rfl⟩⟩⟩
    simp [execOp, e2, ev, eqGuard, binOp, Op.intArith]
/-- slots that lean on a zone of such data. -/
def kept (z : Nat) (l : List (Tmp × D)) : Row := l.map fun x => (.tmp x.1, .av (.c [z] x.2))
theorem fnd_kept_ne (z : Nat) {k : Key} (h : ∀ t, k ≠ .tmp t) : ∀ l : List (Tmp × D), fnd (kept z l) k = none
  | [] => rfl
  | x :: l => by
    simp only [kept, List.map_cons, fnd]
    rw [if_neg (fun e => h _ e.symm)]
    exact fnd_kept_ne z h l
theorem fnd_kept (z : Nat) (t : Tmp) : ∀ (l : List (Tmp × D)) {y : KV}, fnd (kept z l) (.tmp t) = some y → ∃ d, (t, d) ∈ l ∧ y = .av (.c [z] d)
  | [], y, h => by cases h
  | x :: l, y, h => by
    simp only [kept, List.map_cons, fnd, Key.tmp.injEq] at h
    by_cases e : x.1 = t
    · rw [if_pos e] at h
      subst e
      exact ⟨x.2, List.mem_cons_self, by cases h; rfl⟩
    · rw [if_neg e] at h
      obtain ⟨d, h1, h2⟩ := fnd_kept z t l h
      exact ⟨d, List.mem_cons_of_mem _ h1, h2⟩
theorem kept_rd {z : Nat} : ∀ {l : List (Tmp × D)}, (∀ x ∈ l, L (.tmp x.1) = .av (.c [z] x.2)) → Rd L (kept z l)
  | [], _ => Rd.nil
  | x :: l, h => Rd.cons (h x List.mem_cons_self) (kept_rd fun y hy => h y (List.mem_cons_of_mem _ hy))
theorem kept_mem {z : Nat} {σ : St} {l : List (Tmp × D)} (h : Rd σ (kept z l)) : ∀ x ∈ l, σ (.tmp x.1) = .av (.c [z] x.2) := by
  induction l with
  | nil => intro x hx; cases hx
  | cons y l ih =>
    intro x hx
    have h' : Rd σ ((.tmp y.1, .av (.c [z] y.2)) :: kept z l) := h
    rcases List.mem_cons.1 hx with rfl | hx
    · exact h'.head
    · exact ih h'.tail x hx
/-- a number in a zone of such data is written over. -/
theorem hatch_st {T : Tab P} {pz : List Nat} {t ty : TypeId} {ti : TI} {s : String} {e : Array Edge} {g : Option (Nat × Bool)} {x v : Operand} {r r' : Row} {z zn : Nat} {ds : List D} {k : Trc → Prop} (l : List (Tmp × D)) (ht : T.f t = some ti) (h1 : ti.size = 1)
    (hx : opd L x = some (r, .seg [z] (.st isU :: ds))) (hv : opd L v = some (r', .c [] (.st isU))) (hl : L (.zn z) = .zn .live) (hf : L (.zn zn) = .zn .free) (hp : pz.contains z = false) (hk0 : ∀ y ∈ l, L (.tmp y.1) = .av (.c [z] y.2)) (hu : ∀ y ∈ l, Nums y.2)
    (hk : k ⟨(.zn z, .zn .live) :: (.zn zn, .zn .free) :: (r ++ (r' ++ kept z l)), kept zn l ++ [(.zn zn, .zn .live), (.zn z, .zn .dead)]⟩) : stHatchZ P L pz zn ⟨none, .store t x v, ty, s, e, g⟩ k := by
  refine ⟨_, hk, Rd.cons hl (Rd.cons hf (Rd.app (opd_rd hx) (Rd.app (opd_rd hv) (kept_rd hk0)))), fun C hd hpz hzb => ?_⟩
  subst hpz
  intro σ a w K ⟨G, hA⟩ hr hK
  have z0 : z ∉ C.pz := fun h => by simp [h] at hp
  have zn0 : zn ∉ C.pz := fun h => Nat.lt_irrefl _ (hzb _ h)
  have lz : Lv σ z := hr.head
  have fz : σ (.zn zn) = .zn .free := hr.tail.head
  have hrr := hr.tail.tail
  have ne : z ≠ zn := fun e => by subst e; unfold Lv at lz; rw [fz] at lz; cases lz
  obtain ⟨g0, o0, ex, kx⟩ := (opd_ok hx hA hrr.left).rep (fun y hy => by simp at hy; subst hy; exact lz)
  obtain ⟨⟨y, hy, hg0⟩, u, hc, hru⟩ := kx 0 _ rfl
  simp at hy; subst hy
  have ev := (opd_ok hv hA hrr.right.left).rep (fun y hy => absurd hy (by simp))
  have hkp := kept_mem hrr.right.right
  have hu1 : ∃ n : Int, u = .int .u64 n := by cases hru with | st _ _ h => exact h
  obtain ⟨n, rfl⟩ := hu1
  have hu2 : ∃ n' : Int, a.eval v = .int .u64 n' := by
    generalize a.eval v = q at ev
    cases ev with | st _ _ h => exact h
  obtain ⟨n', ev⟩ := hu2
  have hsf := (hA.new y g0 z0 lz hg0).2
  have hc' : w.cell? ⟨g0, o0, none⟩ = some (.int .u64 n) := hc
  have hfz : w.frozen? ⟨g0, o0, none⟩ = false := by
    obtain ⟨cur, tt, hh⟩ := hsf.cells hc
    simp [World.frozen?, hh]
  have er : (execOp a.eval ⟨none, .store t x v, ty, s, e, g⟩).run P w = .ok .skip (w.setCell ⟨g0, o0, none⟩ (.int .u64 n')) := by
    have hsz := (T.ok t ti ht).run_size w
    simp only [execOp]
    rw [ex, ev]
    have hst : (store ((⟨g0, o0, none⟩ : Addr).add 0) (.int .u64 n')).run P w = .ok () (w.setCell ⟨g0, o0, none⟩ (.int .u64 n')) := by
      rw [add_none, Nat.add_zero, run_store P w _ _ _ rfl, hc']
      simp [hfz]
    simp [Instr.storeAt, Instr.sureAddr, storeVar, hsz, h1, storeCells, Value.cells, hst]
  refine ⟨fun c => by simp, .inr (.inl ⟨_, er, ?_⟩)⟩
  obtain ⟨w', hw⟩ : ∃ w', w' = w.setCell ⟨g0, o0, none⟩ (.int .u64 n') := ⟨_, rfl⟩
  have blk : ∀ i, i ≠ g0 → w'.heap[i]? = w.heap[i]? := fun i hi => by rw [hw]; exact Below.heap_setCell _ _ _ _ hi
  have hsz' : w'.heap.size = w.heap.size := by rw [hw]; simp [World.setCell]
  have hA1 : ASG C G (ovr σ (deadZ [y])) a w' := by
    refine hA.kill (fun q hq => by simp at hq; subst hq; exact lz) (fun q hq => by simp at hq; subst hq; exact z0) ?_
    rw [hw]
    exact ⟨rfl, rfl, rfl, by simp [World.setCell], fun i hi hb => Below.heap_setCell _ _ _ _ (fun e => hb (e ▸ ⟨y, by simp, hg0⟩))⟩
  have dz : ∀ q, Lv (ovr σ (deadZ [y])) q → q ≠ y ∧ Lv σ q := fun q hq => by
    have := (lesser_dead (σ := σ) [y]).lv hq
    refine ⟨?_, this⟩
    rintro rfl
    unfold Lv at hq
    simp [ovr, fnd_dead] at hq
  obtain ⟨hA2, _⟩ := hA1.addzone (z := zn) zn0 (by simp only [ovr, fnd_dead]; rw [if_neg (by simp; exact fun e => ne e.symm)]; exact fz) (G.ζ y) (fun q hq => by
    refine ⟨⟨by rw [hsz']; exact (hA.sep y q lz hq).1, (hA.new y q z0 lz hq).1, fun m hm => (hA.sep y q lz hq).2 m ?_, fun b hb hg' => ?_, fun c i e hi e' => ?_, fun p hpp e => (hA.ob p hpp).nz y lz (e ▸ hq)⟩, ?_⟩
    · unfold Nm at hm ⊢; rw [← (lesser_dead (σ := σ) [y]).nm]; exact hm
    · obtain ⟨a1, a2⟩ := dz b hb
      exact hA.disj b y q a1 a2 lz hg' hq
    · obtain ⟨k', d1, d2⟩ := hA.df
      rw [(lesser_dead (σ := σ) [y]).df, d1] at e; cases e
      exact (d2.ok i hi).nz y lz (e' ▸ hq)
    · by_cases e : q = g0
      · subst e
        obtain ⟨cur, tt, hs⟩ := hsf.cells hc'
        rw [hw]
        exact .mk (set_heap_same hs)
      · exact (hA.new y q z0 lz hq).2.of_eq (blk q e))
  have hfin : AS C (ovr σ (kept zn l ++ [(.zn zn, .zn .live), (.zn y, .zn .dead)])) a w' := by
    refine ⟨_, hA2.react (fun key hkey => ?_) hA2.sz rfl (fun q x hx => ?_)⟩
    · simp only [ovr, fnd_app, fnd_kept_ne _ hkey, deadZ, List.map_cons, List.map_nil, fnd, Option.none_or]
      by_cases e1 : Key.zn zn = key
      · simp [e1]
      · rw [if_neg e1, if_neg e1]
        by_cases e2 : Key.zn y = key
        · simp [e2]
        · simp [e2]
    · simp only [ovr, fnd_app] at hx
      cases hq : fnd (kept zn l) (.tmp q) with
      | some yy =>
        rw [hq] at hx
        obtain ⟨d, hd1, rfl⟩ := fnd_kept zn q l hq
        simp only [Option.some_or, Option.getD_some, KV.av.injEq] at hx
        subst hx
        obtain ⟨vv, t1, t2⟩ := hA.tmp q _ (hkp _ hd1)
        refine ⟨vv, t1, ⟨fun b hb => ?_, fun _ => ?_⟩⟩
        · simp at hb; subst hb
          unfold Uz; rw [ovr_one]; simp
        · have := Nums.set (n' := n') (t2.rep (fun b hb => by simp at hb; subst hb; exact lz)) (hu _ hd1) hc'
          rw [← hw] at this
          refine this.mono fun b ⟨c, hcm, hb⟩ => ⟨zn, by simp, ?_⟩
          simp at hcm; subst hcm
          simpa using hb
      | none =>
        rw [hq] at hx
        refine hA2.tmp q x ?_
        simpa [ovr, deadZ, fnd] using hx
  rw [← hw]
  exact hK _ _ hfin
end
end Go.Proofs.Ytlkdkhmdmgchbaa
namespace Go.Proofs.Ytlkdkhmdmgchbaa
set_option linter.unusedSimpArgs false
set_option linter.unusedVariables false
open Go.RowKit
theorem Ct.niln {P : Program} {f : FuncId} {sz : Nat} {rest : List DV} {app : Option TypeId} {res : Res} (h : Ct P f (.c (.s sz []) :: rest) app res) : Ct P f (.c (.v (.slice none 0 0)) :: rest) app res := fun Z w vs ⟨hs, hv⟩ => by
  refine h Z w vs ⟨hs, fun i x hx => ?_⟩
  cases i with
  | zero =>
    simp at hx; subst hx
    have := RepD.raw (hv 0 _ rfl)
    rw [this]
    exact .nil _
  | succ i => exact hv (i + 1) x (by simpa using hx)
theorem ud_RD {Z : Zone} {w : World} {v : Value} (l : List Pr) (h : RepD Z w v (RD l)) : RepD Z w v (.s 2 (uR l.length)) := by
  refine RepD.conv h (by simp [uR]) (fun i r' hi => ?_)
  obtain ⟨hlt, rfl⟩ : i < l.length ∧ r' = [.st isU, .st isU] := by
    simp only [uR, List.getElem?_replicate] at hi
    split at hi
    · exact ⟨by assumption, by cases hi; rfl⟩
    · cases hi
  refine ⟨PD l[i], by simp [hlt], rfl, fun j x' hj => ?_⟩
  rcases j with _ | _ | j
  · cases hj; exact ⟨_, rfl, fun u hu => .st _ _ ⟨_, hu.raw⟩⟩
  · cases hj; exact ⟨_, rfl, fun u hu => .st _ _ ⟨_, hu.raw⟩⟩
  · simp at hj
theorem nums_uR (n : Nat) : Nums (.s 2 (uR n)) := ud_uR n
end Go.Proofs.Ytlkdkhmdmgchbaa
