/- texts on which the statement stands, part 2. -/
import Derived.Test.YtlkdkhmdmgchbaaVG1
import Derived.RangeFuncLeaves
import Derived.RangeFuncNested
import Derived.RangeFuncBound
import Derived.Shelf.Abstract
import Derived.Test.YtlkdkhmdmgchbaaB0
import Derived.Maps.AppendAt
namespace Go.Proofs.Ytlkdkhmdmgchbaa
set_option linter.unusedSimpArgs false
set_option linter.unusedVariables false
open Go.RowKit
set_option maxRecDepth 100000

def dflt : Key → KV
  | .tmp _ => .unk
  | .vt _ _ => .unk
  | .cell _ _ => .unk
  | .zn _ => .zn .free
  | .nm _ => .nm false
  | .hd _ => .hd .free
  | .sz _ => .unk
  | .df => .df 0
def lk : Row → St
  | [], k => dflt k
  | (k', v) :: r, k => if k' = k then v else lk r k
def ins (k : Key) (v : KV) : Row → Row
  | [] => [(k, v)]
  | (k', v') :: r => if k' = k then (k, v) :: r else (k', v') :: ins k v r
def puts (L : Row) : Row → Row
  | [] => L
  | (k, v) :: ws => ins k v (puts L ws)
theorem lk_ins (k : Key) (v : KV) (k2 : Key) : ∀ L : Row, lk (ins k v L) k2 = if k = k2 then v else lk L k2
  | [] => by simp [ins, lk]
  | (k', v') :: r => by
    unfold ins
    by_cases h : k' = k
    · subst h
      rw [if_pos rfl]
      simp only [lk]
      split <;> simp_all
    · rw [if_neg h]
      simp only [lk]
      rw [lk_ins k v k2 r]
      by_cases h2 : k' = k2
      · subst h2
        rw [if_pos rfl, if_pos rfl, if_neg (fun e => h e.symm)]
      · rw [if_neg h2, if_neg h2]
theorem lk_puts (L : Row) : ∀ ws : Row, lk (puts L ws) = ovr (lk L) ws
  | [] => by funext k; simp [puts, ovr, fnd]
  | (k, v) :: ws => by
    funext k2
    simp only [puts, lk_ins, lk_puts L ws, ovr, fnd]
    split <;> simp

section
variable {P : Program} {C : Cx} {N : Nat} {o : Oper} {L : St} {T : Tab P} {k : Trc → Prop}
def dok (N : Nat) (o : Oper) : Bool := match o.dst with
  | some d => decide (d < N)
  | none => true
theorem dok_ok (h : dok N o = true) : ∀ d, o.dst = some d → d < N := fun d hd => by unfold dok at h; rw [hd] at h; simpa using h
def ob {α : Type} (e : Option α) (k : α → Prop) : Prop := match e with
  | some v => k v
  | none => False
def kva (e : KV) (k : AV → Prop) : Prop := match e with
  | .av x => k x
  | _ => False
def kfree (e : KV) (k : Prop) : Prop := match e with
  | .zn .free => k
  | _ => False
def khfree (e : KV) (k : Prop) : Prop := match e with
  | .hd .free => k
  | _ => False
def khown (e : KV) (k : TypeId → Nat → Nat → List Nat → List (List D) → Prop) : Prop := match e with
  | .hd (.own E sz y zs rows) => k E sz y zs rows
  | _ => False
def klive (e : KV) (k : Prop) : Prop := match e with
  | .zn .live => k
  | _ => False
def knm (e : KV) (k : Prop) : Prop := match e with
  | .nm false => k
  | _ => False
def chk (b : Bool) (k : Prop) : Prop := b = true ∧ k
def ya (p k : Prop) : Prop := p ∧ k
def gsel (b want : Bool) (p q : Prop) : Prop := (b = want → p) ∧ (¬ b = want → q)
theorem ob_some {α : Type} (v : α) (k : α → Prop) : ob (some v) k = k v := rfl
theorem kva_av (x : AV) (k : AV → Prop) : kva (.av x) k = k x := rfl
theorem kfree_free (k : Prop) : kfree (.zn .free) k = k := rfl
theorem khfree_free (k : Prop) : khfree (.hd .free) k = k := rfl
theorem khown_own (E sz y : Nat) (zs : List Nat) (rows : List (List D)) (k : TypeId → Nat → Nat → List Nat → List (List D) → Prop) : khown (.hd (.own E sz y zs rows)) k = k E sz y zs rows := rfl
theorem klive_live (k : Prop) : klive (.zn .live) k = k := rfl
theorem knm_false (k : Prop) : knm (.nm false) k = k := rfl
theorem chk_true (k : Prop) : chk true k = k := by simp [chk]
theorem ya_true (k : Prop) : ya True k = k := by simp [ya]
theorem ya_mk {p k : Prop} (h : p) (h' : k) : ya p k := ⟨h, h'⟩
theorem gsel_tt (p q : Prop) : gsel true true p q = p := by simp [gsel]
theorem gsel_ff (p q : Prop) : gsel false false p q = p := by simp [gsel]
theorem gsel_tf (p q : Prop) : gsel true false p q = q := by simp [gsel]
theorem gsel_ft (p q : Prop) : gsel false true p q = q := by simp [gsel]
def vb (v : Value) (k : Bool → Prop) : Prop := match v with
  | .bool b => k b
  | _ => False
def vi (v : Value) (k : IntKind → Int → Prop) : Prop := match v with
  | .int kk n => k kk n
  | _ => False
def vstr (v : Value) (k : ByteArray → Prop) : Prop := match v with
  | .string s => k s
  | _ => False
def avps (y : AV) (kp : Nat → Nat → Prop) (ks : List Nat → List D → Prop) : Prop := match y with
  | .ptr n off => kp n off
  | .seg zs ds => ks zs ds
  | _ => False
def avp (y : AV) (kp : Nat → Nat → Prop) : Prop := match y with
  | .ptr n off => kp n off
  | _ => False
def avagg (y : AV) (k : List (List Nat × D) → Prop) : Prop := match y with
  | .agg cs => k cs
  | _ => False
def avtup (y : AV) (k : List Nat → List DV → Prop) : Prop := match y with
  | .tup zs l => k zs l
  | _ => False
def avtupw (y : AV) (k : List Nat → List DV → Prop) (n : Prop) : Prop := match y with
  | .tup zs l => k zs l
  | .wp .. => n
  | _ => False
theorem avtupw_tup (zs : List Nat) (l : List DV) (k : List Nat → List DV → Prop) (n : Prop) : avtupw (.tup zs l) k n = k zs l := rfl
theorem avtupw_wp (κ : VK) (m : Nat) (k : List Nat → List DV → Prop) (n : Prop) : avtupw (.wp κ m) k n = n := rfl
theorem avtupw_ok {y : AV} {k : List Nat → List DV → Prop} {n : Prop} (h : avtupw y k n) : (∃ zs l, y = .tup zs l ∧ k zs l) ∨ n := by
  cases y <;> first | exact .inl ⟨_, _, rfl, h⟩ | exact .inr h | exact h.elim
def avown (y : AV) (k : Nat → Prop) : Prop := match y with
  | .own h => k h
  | _ => False
def avb (y : AV) (k : Bool → Prop) : Prop := match y with
  | .c [] (.v (.bool b)) => k b
  | _ => False
def shs (s : Sh) (k : List (Nat × TypeId) → Prop) : Prop := match s with
  | .struct fs => k fs
  | _ => False
def shsa (s : Sh) (k : List (Nat × TypeId) → Prop) (k2 : Nat → TypeId → Prop) : Prop := match s with
  | .struct fs => k fs
  | .arr n e => k2 n e
  | _ => False
theorem shsa_struct (fs : List (Nat × TypeId)) (k : List (Nat × TypeId) → Prop) (k2 : Nat → TypeId → Prop) : shsa (.struct fs) k k2 = k fs := rfl
theorem shsa_arr (n : Nat) (e : TypeId) (k : List (Nat × TypeId) → Prop) (k2 : Nat → TypeId → Prop) : shsa (.arr n e) k k2 = k2 n e := rfl
theorem shsa_ok {s : Sh} {k : List (Nat × TypeId) → Prop} {k2 : Nat → TypeId → Prop} (h : shsa s k k2) : (∃ fs, s = .struct fs ∧ k fs) ∨ ∃ n e, s = .arr n e ∧ k2 n e := by
  cases s <;> first | exact .inl ⟨_, rfl, h⟩ | exact .inr ⟨_, _, rfl, h⟩ | exact h.elim
def sharr (s : Sh) (k2 : Nat → TypeId → Prop) : Prop := match s with
  | .arr n e => k2 n e
  | _ => False
theorem sharr_arr (n : Nat) (e : TypeId) (k2 : Nat → TypeId → Prop) : sharr (.arr n e) k2 = k2 n e := rfl
theorem sharr_ok {s : Sh} {k2 : Nat → TypeId → Prop} (h : sharr s k2) : ∃ n e, s = .arr n e ∧ k2 n e := by
  cases s <;> first | exact ⟨_, _, rfl, h⟩ | exact h.elim
def shl (s : Sh) (k : TypeId → Prop) : Prop := match s with
  | .slice e => k e
  | _ => False
def shla (s : Sh) (k : TypeId → Prop) (k2 : Nat → TypeId → Prop) : Prop := match s with
  | .slice e => k e
  | .arr n e => k2 n e
  | _ => False
def shls (s : Sh) (k : TypeId → Prop) (k2 : Prop) : Prop := match s with
  | .slice e => k e
  | .str => k2
  | _ => False
def shi (s : Sh) (k : IntKind → Prop) : Prop := match s with
  | .int kk => k kk
  | _ => False
def bc (b : Bool) (p q : Prop) : Prop := match b with
  | true => p
  | false => q
def hd1 (ds : List D) (k : D → Prop) : Prop := match ds with
  | d :: _ => k d
  | [] => False
def opc {α : Type} (o : Option α) (k : α → Prop) (n : Prop) : Prop := match o with
  | some v => k v
  | none => n
def unc (op : UnOp) (p q : Prop) : Prop := match op with
  | .not => p
  | .neg => q
  | _ => False
theorem vb_bool (b : Bool) (k : Bool → Prop) : vb (.bool b) k = k b := rfl
theorem vi_int (kk : IntKind) (n : Int) (k : IntKind → Int → Prop) : vi (.int kk n) k = k kk n := rfl
theorem vstr_string (s : ByteArray) (k : ByteArray → Prop) : vstr (.string s) k = k s := rfl
def avpo (y : AV) (kp : Nat → Nat → Prop) (ks : List Nat → List D → Prop) (ko : Nat → Nat → Nat → Nat → Prop) (n : Prop) : Prop := match y with
  | .ptr n off => kp n off
  | .seg zs ds => ks zs ds
  | .optr h sz i j => ko h sz i j
  | .wp .. => n
  | _ => False
theorem avpo_ptr (n off : Nat) (kp : Nat → Nat → Prop) (ks : List Nat → List D → Prop) (ko : Nat → Nat → Nat → Nat → Prop) (q : Prop) : avpo (.ptr n off) kp ks ko q = kp n off := rfl
theorem avpo_seg (zs : List Nat) (ds : List D) (kp : Nat → Nat → Prop) (ks : List Nat → List D → Prop) (ko : Nat → Nat → Nat → Nat → Prop) (q : Prop) : avpo (.seg zs ds) kp ks ko q = ks zs ds := rfl
theorem avpo_optr (h sz i j : Nat) (kp : Nat → Nat → Prop) (ks : List Nat → List D → Prop) (ko : Nat → Nat → Nat → Nat → Prop) (q : Prop) : avpo (.optr h sz i j) kp ks ko q = ko h sz i j := rfl
theorem avpo_wp (κ : VK) (n : Nat) (kp : Nat → Nat → Prop) (ks : List Nat → List D → Prop) (ko : Nat → Nat → Nat → Nat → Prop) (q : Prop) : avpo (.wp κ n) kp ks ko q = q := rfl
theorem avpo_ok {y : AV} {kp : Nat → Nat → Prop} {ks : List Nat → List D → Prop} {ko : Nat → Nat → Nat → Nat → Prop} {q : Prop} (h : avpo y kp ks ko q) : (∃ n off, y = .ptr n off ∧ kp n off) ∨ (∃ zs ds, y = .seg zs ds ∧ ks zs ds) ∨ q ∨ ∃ h sz i j, y = .optr h sz i j ∧ ko h sz i j := by
  cases y <;> first | exact .inl ⟨_, _, rfl, h⟩ | exact .inr (.inl ⟨_, _, rfl, h⟩) | exact .inr (.inr (.inr ⟨_, _, _, _, rfl, h⟩)) | exact .inr (.inr (.inl h)) | exact h.elim
theorem avps_ptr (n off : Nat) (kp : Nat → Nat → Prop) (ks : List Nat → List D → Prop) : avps (.ptr n off) kp ks = kp n off := rfl
theorem avps_seg (zs : List Nat) (ds : List D) (kp : Nat → Nat → Prop) (ks : List Nat → List D → Prop) : avps (.seg zs ds) kp ks = ks zs ds := rfl
theorem avp_ptr (n off : Nat) (kp : Nat → Nat → Prop) : avp (.ptr n off) kp = kp n off := rfl
theorem avagg_agg (cs : List (List Nat × D)) (k : List (List Nat × D) → Prop) : avagg (.agg cs) k = k cs := rfl
theorem avtup_tup (zs : List Nat) (l : List DV) (k : List Nat → List DV → Prop) : avtup (.tup zs l) k = k zs l := rfl
theorem avown_own (h : Nat) (k : Nat → Prop) : avown (.own h) k = k h := rfl
def gav (y : AV) (k : Bool → Prop) (u : Prop) : Prop := match y with
  | .c [] (.v (.bool b)) => k b
  | .c [] (.v (.tuple ⟨[]⟩)) => u
  | _ => False
theorem gav_bool (b : Bool) (k : Bool → Prop) (u : Prop) : gav (.c [] (.v (.bool b))) k u = k b := rfl
theorem gav_undef (k : Bool → Prop) (u : Prop) : gav (.c [] (.v undef)) k u = u := rfl
theorem gav_ok {y : AV} {k : Bool → Prop} {u : Prop} (h : gav y k u) : (∃ b, y = .c [] (.v (.bool b)) ∧ k b) ∨ (y = .c [] (.v undef) ∧ u) := by
  unfold gav at h
  split at h
  · exact .inl ⟨_, rfl, h⟩
  · exact .inr ⟨rfl, h⟩
  · exact h.elim
theorem avb_bool (b : Bool) (k : Bool → Prop) : avb (.c [] (.v (.bool b))) k = k b := rfl
theorem shs_struct (fs : List (Nat × TypeId)) (k : List (Nat × TypeId) → Prop) : shs (.struct fs) k = k fs := rfl
theorem shl_slice (e : TypeId) (k : TypeId → Prop) : shl (.slice e) k = k e := rfl
theorem shla_slice (e : TypeId) (k : TypeId → Prop) (k2 : Nat → TypeId → Prop) : shla (.slice e) k k2 = k e := rfl
theorem shla_arr (n : Nat) (e : TypeId) (k : TypeId → Prop) (k2 : Nat → TypeId → Prop) : shla (.arr n e) k k2 = k2 n e := rfl
theorem shls_slice (e : TypeId) (k : TypeId → Prop) (k2 : Prop) : shls (.slice e) k k2 = k e := rfl
theorem shls_str (k : TypeId → Prop) (k2 : Prop) : shls .str k k2 = k2 := rfl
theorem shi_int (kk : IntKind) (k : IntKind → Prop) : shi (.int kk) k = k kk := rfl
theorem bc_true (p q : Prop) : bc true p q = p := rfl
theorem bc_false (p q : Prop) : bc false p q = q := rfl
theorem hd1_cons (d : D) (ds : List D) (k : D → Prop) : hd1 (d :: ds) k = k d := rfl
theorem opc_some {α : Type} (v : α) (k : α → Prop) (n : Prop) : opc (some v) k n = k v := rfl
theorem opc_none {α : Type} (k : α → Prop) (n : Prop) : opc none k n = n := rfl
theorem unc_not (p q : Prop) : unc .not p q = p := rfl
theorem unc_neg (p q : Prop) : unc .neg p q = q := rfl
theorem vb_ok {v : Value} {k : Bool → Prop} (h : vb v k) : ∃ b, v = .bool b ∧ k b := by
  cases v <;> first | exact ⟨_, rfl, h⟩ | exact h.elim
theorem vi_ok {v : Value} {k : IntKind → Int → Prop} (h : vi v k) : ∃ kk n, v = .int kk n ∧ k kk n := by
  cases v <;> first | exact ⟨_, _, rfl, h⟩ | exact h.elim
theorem vstr_ok {v : Value} {k : ByteArray → Prop} (h : vstr v k) : ∃ s, v = .string s ∧ k s := by
  cases v <;> first | exact ⟨_, rfl, h⟩ | exact h.elim
theorem avp_ok {y : AV} {kp : Nat → Nat → Prop} (h : avp y kp) : ∃ n off, y = .ptr n off ∧ kp n off := by
  cases y <;> first | exact ⟨_, _, rfl, h⟩ | exact h.elim
theorem avagg_ok {y : AV} {k : List (List Nat × D) → Prop} (h : avagg y k) : ∃ cs, y = .agg cs ∧ k cs := by
  cases y <;> first | exact ⟨_, rfl, h⟩ | exact h.elim
theorem avown_ok {y : AV} {k : Nat → Prop} (h : avown y k) : ∃ n, y = .own n ∧ k n := by
  cases y <;> first | exact ⟨_, rfl, h⟩ | exact h.elim
theorem shs_ok {s : Sh} {k : List (Nat × TypeId) → Prop} (h : shs s k) : ∃ fs, s = .struct fs ∧ k fs := by
  cases s <;> first | exact ⟨_, rfl, h⟩ | exact h.elim
theorem shl_ok {s : Sh} {k : TypeId → Prop} (h : shl s k) : ∃ e, s = .slice e ∧ k e := by
  cases s <;> first | exact ⟨_, rfl, h⟩ | exact h.elim
theorem shla_ok {s : Sh} {k : TypeId → Prop} {k2 : Nat → TypeId → Prop} (h : shla s k k2) : (∃ e, s = .slice e ∧ k e) ∨ ∃ n e, s = .arr n e ∧ k2 n e := by
  cases s <;> first | exact .inl ⟨_, rfl, h⟩ | exact .inr ⟨_, _, rfl, h⟩ | exact h.elim
theorem shls_ok {s : Sh} {k : TypeId → Prop} {k2 : Prop} (h : shls s k k2) : (∃ e, s = .slice e ∧ k e) ∨ (s = .str ∧ k2) := by
  cases s <;> first | exact .inl ⟨_, rfl, h⟩ | exact .inr ⟨rfl, h⟩ | exact h.elim
theorem shi_ok {s : Sh} {k : IntKind → Prop} (h : shi s k) : ∃ kk, s = .int kk ∧ k kk := by
  cases s <;> first | exact ⟨_, rfl, h⟩ | exact h.elim
theorem bc_ok {b : Bool} {p q : Prop} (h : bc b p q) : (b = true ∧ p) ∨ (b = false ∧ q) := by
  cases b
  · exact .inr ⟨rfl, h⟩
  · exact .inl ⟨rfl, h⟩
theorem hd1_ok {ds : List D} {k : D → Prop} (h : hd1 ds k) : ∃ d r, ds = d :: r ∧ k d := by
  cases ds with
  | nil => exact h.elim
  | cons d r => exact ⟨d, r, rfl, h⟩
theorem opc_ok {α : Type} {o : Option α} {k : α → Prop} {n : Prop} (h : opc o k n) : (∃ v, o = some v ∧ k v) ∨ (o = none ∧ n) := by
  cases o with
  | none => exact .inr ⟨rfl, h⟩
  | some v => exact .inl ⟨v, rfl, h⟩
theorem unc_ok {op : UnOp} {p q : Prop} (h : unc op p q) : (op = .not ∧ p) ∨ (op = .neg ∧ q) := by
  cases op <;> first | exact .inl ⟨rfl, h⟩ | exact .inr ⟨rfl, h⟩ | exact h.elim
def stMove (L : St) (o : Oper) (x : Operand) (k : Trc → Prop) : Prop := ob (opd L x) fun y => k ⟨y.1, wr o.dst y.2⟩
def stPick (L : St) (o : Oper) (c x y : Operand) (k : Trc → Prop) : Prop := ob (opr L c) fun t => vb t.2 fun b => gsel b true (ob (opd L x) fun v => k ⟨t.1 ++ v.1, wr o.dst v.2⟩) (ob (opd L y) fun v => k ⟨t.1 ++ v.1, wr o.dst v.2⟩)
def stBinAny (P : Program) (op : BinOp) (t : TypeId) (x y : Operand) (u v : Value) (k : Value → Prop) : Prop := ∃ z, (∀ w, (do eqGuard op t x y u v; binOp op t u v : Sem Value).run P w = .ok z w) ∧ k z
def binT {P : Program} (T : Tab P) (op : BinOp) (t : TypeId) : Value → Value → Option Value
  | .bool a, .bool b => match T.f t with
    | some ti => if ti.sh = .bool then match op with
      | .eql => some (.bool (a == b))
      | .neq => some (.bool (!(a == b)))
      | _ => none
      else none
    | none => none
  | _, _ => none
def opn {α : Type} (e : Option α) (k : α → Prop) (n : Prop) : Prop := match e with
  | some v => k v
  | none => n
theorem opn_some {α : Type} (v : α) (k : α → Prop) (n : Prop) : opn (some v) k n = k v := rfl
theorem opn_none {α : Type} (k : α → Prop) (n : Prop) : opn none k n = n := rfl
theorem opn_ok {α : Type} {e : Option α} {k : α → Prop} {n : Prop} (h : opn e k n) : (∃ v, e = some v ∧ k v) ∨ (e = none ∧ n) := by
  cases e with
  | none => exact .inr ⟨rfl, h⟩
  | some v => exact .inl ⟨v, rfl, h⟩
def stHatch (P : Program) (L : St) (o : Oper) (k : Trc → Prop) : Prop := ∃ tr, k tr ∧ Rd L tr.reads ∧ ∀ C : Cx, dok C.N o = true → OpOk P C o tr
def stHatchZ (P : Program) (L : St) (pz : List Nat) (z : Nat) (o : Oper) (k : Trc → Prop) : Prop := ∃ tr, k tr ∧ Rd L tr.reads ∧ ∀ C : Cx, dok C.N o = true → C.pz = pz → (∀ p ∈ C.pz, p < z) → OpOk P C o tr
def stBin {P : Program} (T : Tab P) (L : St) (o : Oper) (op : BinOp) (t : TypeId) (x y : Operand) (k : Trc → Prop) : Prop := opc (opr L x) (fun a => ob (opr L y) fun b => opc (bin op a.2 b.2) (fun z => ya z.2 (k ⟨a.1 ++ b.1, wr o.dst (cst z.1)⟩)) (opc (binT T op t a.2 b.2) (fun z => k ⟨a.1 ++ b.1, wr o.dst (cst z)⟩) (stBinAny P op t x y a.2 b.2 fun z => k ⟨a.1 ++ b.1, wr o.dst (cst z)⟩))) (stHatch P L o k)
def stUn (L : St) (o : Oper) (op : UnOp) (x : Operand) (k : Trc → Prop) : Prop := ob (opr L x) fun y => unc op (vb y.2 fun b => k ⟨y.1, wr o.dst (.c [] (.v (.bool (!b))))⟩) (vi y.2 fun kk n => k ⟨y.1, wr o.dst (.c [] (.v (.int kk (kk.wrap (0 - n)))))⟩)
def stConv {P : Program} (T : Tab P) (L : St) (o : Oper) (s d : TypeId) (x : Operand) (k : Trc → Prop) : Prop := ob (opr L x) fun y => ob (T.f s) fun _ => ob (T.f d) fun di => vi y.2 fun _ n => shi di.sh fun k' => k ⟨y.1, wr o.dst (.c [] (.v (.int k' (k'.wrap n))))⟩
def orr (p q : Prop) : Prop := p ∨ q
theorem orr_l {p q : Prop} (h : p) : orr p q := .inl h
theorem orr_r {p q : Prop} (h : q) : orr p q := .inr h
def oldAny (rows : List (List D)) (i : Nat) (k : List D → Prop) : Prop := ∃ row, rows[i]? = some row ∧ k row
def oiAny (n : Int) (m : Nat) (k : Nat → Prop) : Prop := ∃ j : Nat, n = (j : Int) ∧ j < m ∧ k j
def stLoad {P : Program} (T : Tab P) (L : St) (o : Oper) (t : TypeId) (x : Operand) (k : Trc → Prop) : Prop := ob (T.f t) fun ti => ob (opd L x) fun y => avpo y.2
  (fun n off => bc ti.sh.agg (ob (cells L n off ti.size) fun c => k ⟨y.1 ++ c.1, wr o.dst (.agg c.2)⟩) (kva (L (.cell n off)) fun v => k ⟨y.1 ++ [(.cell n off, .av v)], wr o.dst v⟩))
  (fun zs ds => ob (zr L zs) fun r' => bc ti.sh.agg (ya (ti.size ≤ ds.length) (k ⟨y.1 ++ r', wr o.dst (.agg ((ds.take ti.size).map fun x => (nz zs x, x)))⟩)) (hd1 ds fun d => k ⟨y.1 ++ r', wr o.dst (.c (nz zs d) d)⟩))
  (fun h sz i j => khown (L (.hd h)) fun E sz' yz zs rows => chk (decide (sz' = sz)) (ob (zr L (yz :: zs)) fun r' => oldAny rows i fun row => bc ti.sh.agg (ya (ti.size ≤ (row.drop j).length) (k ⟨(.hd h, .hd (.own E sz' yz zs rows)) :: (y.1 ++ r'), wr o.dst (.agg (((row.drop j).take ti.size).map fun x => (nz zs x, x)))⟩))
    (hd1 (row.drop j) fun d => k ⟨(.hd h, .hd (.own E sz' yz zs rows)) :: (y.1 ++ r'), wr o.dst (.c (nz zs d) d)⟩))) (stHatch P L o k)
def stFaddr {P : Program} (T : Tab P) (L : St) (o : Oper) (s : TypeId) (x : Operand) (f : Nat) (k : Trc → Prop) : Prop := ob (T.f s) fun si => shs si.sh fun fs => ob (fs[f]?) fun fo => ob (T.f fo.2) fun fi => chk (decide (fi.size ≠ 0)) (ob (opd L x) fun y => avpo y.2
    (fun n off => k ⟨y.1, wr o.dst (.ptr n (off + fo.1))⟩)
    (fun zs ds => ob (zr L zs) fun r' => k ⟨y.1 ++ r', wr o.dst (.seg zs (ds.drop fo.1))⟩)
    (fun h sz i j => khown (L (.hd h)) fun E sz' yz zs rows => chk (decide (sz' = sz)) (k ⟨(.hd h, .hd (.own E sz' yz zs rows)) :: y.1, wr o.dst (.optr h sz i (j + fo.1))⟩)) (stHatch P L o k))
def stField {P : Program} (T : Tab P) (L : St) (o : Oper) (s : TypeId) (x : Operand) (f : Nat) (k : Trc → Prop) : Prop := ob (T.f s) fun si => shs si.sh fun fs => ob (fs[f]?) fun fo => ob (T.f fo.2) fun fi => chk (!fi.sh.agg) (ob (opd L x) fun y => avagg y.2 fun cs => ob (cs[fo.1]?) fun c => k ⟨y.1, wr o.dst (.c c.1 c.2)⟩)
def stExtract (P : Program) (L : St) (o : Oper) (x : Operand) (i : Nat) (k : Trc → Prop) : Prop := ob (opd L x) fun y => avtupw y.2 (fun zs l => ob (zr L zs) fun r' => ob (l[i]?) fun d => k ⟨y.1 ++ r', wr o.dst (atz zs d)⟩) (stHatch P L o k)
def iaddrAny (n : Int) (rows : List (List D)) (k : List D → Prop) : Prop := ∃ (j : Nat) (row : List D), n = (j : Int) ∧ rows[j]? = some row ∧ k row
def iaddrArr (n : Int) (m : Nat) (k : Nat → Prop) : Prop := ∃ j : Nat, n = (j : Int) ∧ j < m ∧ k j
def ownI (L : St) (o : Oper) (x : Operand) (r' : Row) (esz : Nat) (n : Int) (k : Trc → Prop) : Prop := ob (opd L x) fun y => avown y.2 fun h => khown (L (.hd h)) fun E sz yz zs rows => klive (L (.zn yz)) (chk (decide (sz = esz)) (oiAny n rows.length fun j => k ⟨(.hd h, .hd (.own E sz yz zs rows)) :: (.zn yz, .zn .live) :: (y.1 ++ r'), wr o.dst (.optr h sz j 0)⟩))
def stIaddr {P : Program} (T : Tab P) (L : St) (o : Oper) (t : TypeId) (x ix : Operand) (k : Trc → Prop) : Prop := ob (T.f t) fun ti => shla ti.sh
  (fun e => ob (T.f e) fun ei => opn (ops L ei.size x) (fun y => ob (opr L ix) fun i => vi i.2 fun _ n => orr (iaddrAny n y.2.2 fun row => k ⟨y.1 ++ i.1, wr o.dst (.seg y.2.1 row)⟩) (ownI L o x i.1 ei.size n k)) (stHatch P L o k))
  (fun m e => ob (T.f e) fun ei => ob (opd L x) fun y => ob (opr L ix) fun i => avp y.2 fun nn off => vi i.2 fun _ n => iaddrArr n m fun j => k ⟨y.1 ++ i.1, wr o.dst (.ptr nn (off + j * ei.size))⟩)
def sliceAny (b1 b2 b3 : Option (IntKind × Int)) (rows : List (List D)) (k : List (List D) → Prop) : Prop := ∃ c1 c2 c3, nat? b1 c1 ∧ nat? b2 c2 ∧ nat? b3 c3 ∧ (c3.isSome = true → c2.isSome = true) ∧
  (c1.map (·.2)).getD 0 ≤ (c2.map (·.2)).getD rows.length ∧ (c2.map (·.2)).getD rows.length ≤ (c3.map (·.2)).getD rows.length ∧ (c3.map (·.2)).getD rows.length ≤ rows.length ∧
  k ((rows.take ((c2.map (·.2)).getD rows.length)).drop ((c1.map (·.2)).getD 0))
def stSlice {P : Program} (T : Tab P) (L : St) (pz : List Nat) (z : Nat) (o : Oper) (t : TypeId) (x : Operand) (lo hi mx : Option Operand) (k : Trc → Prop) : Prop := ob (T.f t) fun ti => shl ti.sh fun e => ob (T.f e) fun ei => opn (ops L ei.size x) (fun y => ob (opb L lo) fun b1 => ob (opb L hi) fun b2 => ob (opb L mx) fun b3 =>
      orr (sliceAny b1.2 b2.2 b3.2 y.2.2 fun rows => k ⟨y.1 ++ (b1.1 ++ (b2.1 ++ b3.1)), wr o.dst (.c y.2.1 (.s ei.size rows))⟩) (stHatchZ P L pz z o k)) (stHatch P L o k)
def stAlloc {P : Program} (T : Tab P) (L : St) (z : Nat) (o : Oper) (t : TypeId) (k : Trc → Prop) : Prop := ob (T.f t) fun ti => knm (L (.nm z)) (k ⟨[(.nm z, .nm false)], wr o.dst (.ptr z 0) ++ ((.nm z, .nm true) :: (.sz z, .sz ((zds ti.zero.cells.toList ti.hint).map fun d => AV.c [] d).length) :: crow z 0 ((zds ti.zero.cells.toList ti.hint).map fun d => .c [] d))⟩)
def stBox (L : St) (z : Nat) (o : Oper) (x : Operand) (k : Trc → Prop) : Prop := ob (opd L x) fun y => knm (L (.nm z)) (ob (spread L y.2) fun s => k ⟨(.nm z, .nm false) :: (y.1 ++ s.1), wr o.dst (.ptr z 0) ++ ((.nm z, .nm true) :: (.sz z, .sz s.2.length) :: crow z 0 s.2)⟩)
def stStore {P : Program} (T : Tab P) (L : St) (pz : List Nat) (z : Nat) (o : Oper) (t : TypeId) (x v : Operand) (k : Trc → Prop) : Prop := ob (T.f t) fun ti => ob (opd L x) fun y => avpo y.2 (fun n off => ob (opd L v) fun u => ob (spread L u.2) fun s => ob (ex L n off ti.size) fun r3 => chk (decide (s.2.length = ti.size) && o.dst.isNone) (k ⟨y.1 ++ (u.1 ++ (s.1 ++ r3)), crow n off s.2⟩)) (fun _ _ => stHatchZ P L pz z o k)
  (fun h sz i j => khown (L (.hd h)) fun E sz' yz zs rows => klive (L (.zn yz)) (ob (zr L zs) fun r3 => ob (opd L v) fun u => ob (spreadD L u.2) fun s => ob (zr L (zsAll s.2)) fun r4 => chk (decide (sz' = sz) && (o.dst.isNone && (!pz.contains yz && (decide (s.2.length = ti.size) && (s.2.all (fun c => ocD c.2) && !(zs ++ zsAll s.2).contains yz)))))
    (kfree (L (.zn z)) (oldAny rows i fun row => ya (j + s.2.length ≤ row.length) (k ⟨(.zn z, .zn .free) :: (.hd h, .hd (.own E sz' yz zs rows)) :: (.zn yz, .zn .live) :: (y.1 ++ (u.1 ++ (s.1 ++ (r3 ++ r4)))), [(.hd h, .hd (.own E sz' z (zs ++ zsAll s.2) (rows.set i (setD row j (s.2.map (·.2)))))), (.zn z, .zn .live), (.zn yz, .zn .dead)]⟩))))) (stHatchZ P L pz z o k)
def stBuild {P : Program} (T : Tab P) (L : St) (o : Oper) (t : TypeId) (ps : Array (Nat × Operand)) (k : Trc → Prop) : Prop := ob (T.f t) fun ti => shsa ti.sh (fun fs => ob (placesT T fs) fun pl => ob (fillO L (fun i => pl[i]?) (raws (zds ti.zero.cells.toList ti.hint)) ps.toList) fun c => k ⟨c.1, wr o.dst (.agg c.2)⟩)
  (fun _ e => ob (T.f e) fun ei => ob (fillO L (fun i => some (i * ei.size, ei.size)) (raws (zds ti.zero.cells.toList ti.hint)) ps.toList) fun c => k ⟨c.1, wr o.dst (.agg c.2)⟩)
def idxAny (n : Int) (m : Nat) (cs : List (List Nat × D)) (k : List Nat × D → Prop) : Prop := ∃ (j : Nat) (c : List Nat × D), n = (j : Int) ∧ j < m ∧ cs[j]? = some c ∧ k c
def stIndex {P : Program} (T : Tab P) (L : St) (o : Oper) (t : TypeId) (x ix : Operand) (k : Trc → Prop) : Prop := ob (T.f t) fun ti => sharr ti.sh fun m e => ob (T.f e) fun ei => chk (!ei.sh.agg && decide (ei.size = 1)) (ob (opd L x) fun y => avagg y.2 fun cs => ob (opr L ix) fun i => vi i.2 fun _ n => idxAny n m cs fun c => k ⟨y.1 ++ i.1, wr o.dst (.c c.1 c.2)⟩)
def stRows {P : Program} (T : Tab P) (L : St) (z : Nat) (o : Oper) (t : TypeId) (n : Nat) (ps : Array (Nat × Operand)) (k : Trc → Prop) : Prop := ob (T.f t) fun ti => shl ti.sh fun e => ob (T.f e) fun ei => chk (decide (ei.zero.cells.size = ei.size) && decide (n * ei.size ≤ 16777216) && decide (0 < ei.size)) (ob (fillO L (fun i => some (i * ei.size, ei.size)) (zc n (zds ei.zero.cells.toList ei.hint)) ps.toList) fun c =>
      chk (c.2.all fun x => ocD x.2) (ob (zr L (zsAll c.2)) fun r' => kfree (L (.zn z)) (khfree (L (.hd z)) (k ⟨(.zn z, .zn .free) :: (.hd z, .hd .free) :: (c.1 ++ r'), wr o.dst (.own z) ++ [(.hd z, .hd (.own e ei.size z (zsAll c.2) (chunk ei.size n (c.2.map (·.2.nrm))))), (.zn z, .zn .live)]⟩))))
def overAny (P : Program) (L : St) (pz : List Nat) (z : Nat) (o : Oper) (x y : Operand) (rest : List Operand) (k : Trc → Prop) : Prop := ob (opd L y) fun y0 => avown y0.2 fun n => khown (L (.hd n)) fun E sz yz zs1 rows => klive (L (.zn yz)) (ob (zr L zs1) fun r1 => ob (callD L x rest) fun c =>
    callOk P c.2.2.1 = true ∧ chk (!((zs1 ++ c.2.1).contains yz) && !pz.contains yz) (kfree (L (.zn z)) (∃ rows', Ku P c.2.2.1 c.2.2.2 E sz rows rows' ∧ k ⟨(.zn z, .zn .free) :: (.hd n, .hd (.own E sz yz zs1 rows)) :: (.zn yz, .zn .live) :: (y0.1 ++ (r1 ++ c.1)), wr o.dst (.c [] (.v (.tuple #[]))) ++ [(.hd n, .hd (.own E sz z (zs1 ++ c.2.1) rows')), (.zn z, .zn .live), (.zn yz, .zn .dead)]⟩)))
def stOver (P : Program) (L : St) (pz : List Nat) (z : Nat) (o : Oper) (x : Operand) (args : List Operand) (k : Trc → Prop) : Prop := match args with
  | y :: rest => overAny P L pz z o x y rest k
  | [] => False
def callAny (P : Program) (L : St) (pz : List Nat) (z : Nat) (o : Oper) (f : FuncId) (r : Row) (zs : List Nat) (ds : List DV) (k : Trc → Prop) : Prop :=
  (∃ res, Ct P f ds none res ∧ bc res.isV (k ⟨r, wr o.dst (atR [] res)⟩) (kfree (L (.zn z)) (k ⟨(.zn z, .zn .free) :: r, wr o.dst (atR [z] res) ++ [(.zn z, .zn .live)]⟩))) ∨
  (∃ E sz rows, Ct P f ds (some E) (.one (.c (.s sz rows))) ∧ kfree (L (.zn z)) (kfree (L (.zn (z + 100000))) (khfree (L (.hd z)) (k ⟨(.zn z, .zn .free) :: (.zn (z + 100000), .zn .free) :: (.hd z, .hd .free) :: r, wr o.dst (.own z) ++ [(.hd z, .hd (.own E sz z [z + 100000] rows)), (.zn z, .zn .live), (.zn (z + 100000), .zn .live)]⟩)))) ∨
  (∃ res, Ca P f ds res ∧ kfree (L (.zn z)) (k ⟨(.zn z, .zn .free) :: r, wr o.dst (atR (z :: zs) res) ++ [(.zn z, .zn .live)]⟩)) ∨
  (Kt P f ds ∧ chk (zs.all fun z => !pz.contains z) (k ⟨r, wr o.dst (.c [] (.v (.tuple #[]))) ++ deadZ zs⟩)) ∨
  (∃ E sz rows, Co P f ds E sz rows ∧ kfree (L (.zn z)) (kfree (L (.zn (z + 100000))) (khfree (L (.hd z)) (k ⟨(.zn z, .zn .free) :: (.zn (z + 100000), .zn .free) :: (.hd z, .hd .free) :: r, wr o.dst (.own z) ++ [(.hd z, .hd (.own E sz z ((z + 100000) :: zs) rows)), (.zn z, .zn .live), (.zn (z + 100000), .zn .live)]⟩))))
def stCall (P : Program) (L : St) (pz : List Nat) (z : Nat) (o : Oper) (x : Operand) (args : Array Operand) (k : Trc → Prop) : Prop := orr (ob (callD L x args.toList) fun y => callOk P y.2.2.1 = true ∧ callAny P L pz z o y.2.2.1 y.1 y.2.1 y.2.2.2 k) (orr (stOver P L pz z o x args.toList k) (stHatchZ P L pz z o k))
def stAppend {P : Program} (T : Tab P) (L : St) (pz : List Nat) (z : Nat) (o : Oper) (t : TypeId) (s x : Operand) (k : Trc → Prop) : Prop := ob (T.f t) fun ti => shl ti.sh fun e => ob (T.f e) fun ei => chk (decide (ei.zero.cells.size = ei.size) && decide (0 < ei.size)) (ob (opd L s) fun y => opn (dst0 L pz ei.size e y.2) (fun d => ob (ops L ei.size x) fun u =>
    ya (rowsOc u.2.2) (ya (d.2.2.2.length + u.2.2.length ≤ maxI ∧ (d.2.2.2.length + u.2.2.length) * ei.bytes ≤ 140737488355328) (kfree (L (.zn z)) (khfree (L (.hd z)) (k ⟨(.zn z, .zn .free) :: (.hd z, .hd .free) :: (y.1 ++ (d.1 ++ u.1)), wr o.dst (.own z) ++ ([(.hd z, .hd (.own e ei.size z (d.2.2.1 ++ nzr u.2.1 u.2.2) (d.2.2.2 ++ u.2.2))), (.zn z, .zn .live)] ++ d.2.1)⟩))))) (stHatchZ P L pz z o k))
def stFn (L : St) (o : Oper) (f : FuncId) (fi ca : Array Operand) (k : Trc → Prop) : Prop := chk fi.toList.isEmpty (bc ca.toList.isEmpty (k ⟨[], wr o.dst (.c [] (.v (.func (.func f) #[] #[])))⟩) (opn (capN L ca.toList) (fun c => k ⟨c.1, wr o.dst (.fn f c.2)⟩) (ob (capD L ca.toList) fun c => k ⟨c.1, wr o.dst (.c c.2.1 (.f f c.2.2))⟩)))
def stLen {P : Program} (T : Tab P) (L : St) (o : Oper) (t : TypeId) (x : Operand) (k : Trc → Prop) : Prop := ob (T.f t) fun ti => shls ti.sh
  (fun e => ob (T.f e) fun ei => opn (ops L ei.size x) (fun y => k ⟨y.1, wr o.dst (.c [] (.v (.int .i64 y.2.2.length)))⟩) (stHatch P L o k))
  (ob (opr L x) fun y => vstr y.2 fun s => k ⟨y.1, wr o.dst (.c [] (.v (.int .i64 s.size)))⟩)
def stMin (L : St) (o : Oper) (x y : Operand) (k : Trc → Prop) : Prop := ob (opr L x) fun a => ob (opr L y) fun b => vi a.2 fun kk n => vi b.2 fun _ m => k ⟨a.1 ++ b.1, wr o.dst (.c [] (.v (.int kk (if m < n then m else n))))⟩
def stMax (L : St) (o : Oper) (x y : Operand) (k : Trc → Prop) : Prop := ob (opr L x) fun a => ob (opr L y) fun b => vi a.2 fun kk n => vi b.2 fun _ m => k ⟨a.1 ++ b.1, wr o.dst (.c [] (.v (.int kk (if m > n then m else n))))⟩
def stCalls {P : Program} (T : Tab P) (L : St) (pz : List Nat) (z : Nat) (o : Oper) (c : Call) (k : Trc → Prop) : Prop := match c.callee with
  | .value x => stCall P L pz z o x c.args k
  | .builtin .append => match c.args.toList, c.argTypes.toList with
    | [s, x], [t, t'] => chk (decide (t = t')) (stAppend T L pz z o t s x k)
    | _, _ => False
  | .builtin .len => match c.args.toList, c.argTypes.toList with
    | [x], [t] => stLen T L o t x k
    | _, _ => False
  | .builtin .min => match c.args.toList with
    | [x, y] => stMin L o x y k
    | _ => False
  | .builtin .max => match c.args.toList with
    | [x, y] => stMax L o x y k
    | _ => False
  | _ => stHatchZ P L pz z o k
def astep {P : Program} (T : Tab P) (L : St) (pz : List Nat) (z : Nat) (o : Oper) (k : Trc → Prop) : Prop := match o.op with
  | .move x => stMove L o x k
  | .assign x => stMove L o x k
  | .pick c x y => stPick L o c x y k
  | .binOp op t x y _ => stBin T L o op t x y k
  | .unOp op _ x => stUn L o op x k
  | .convert s d x => stConv T L o s d x k
  | .load t x => stLoad T L o t x k
  | .fieldAddr s x f => stFaddr T L o s x f k
  | .field s x f => stField T L o s x f k
  | .extract x i => stExtract P L o x i k
  | .indexAddr t x ix => stIaddr T L o t x ix k
  | .slice t x lo hi mx => stSlice T L pz z o t x lo hi mx k
  | .alloc t => stAlloc T L z o t k
  | .box _ x => stBox L z o x k
  | .store t x v => stStore T L pz z o t x v k
  | .build t ps => stBuild T L o t ps k
  | .index t x ix => stIndex T L o t x ix k
  | .buildSlice t n ps => stRows T L z o t n ps k
  | .call c => stCalls T L pz z o c k
  | .makeFunc (.func f) fi ca => bc fi.toList.isEmpty (stFn L o f fi ca k) (stHatchZ P L pz z o k)
  | _ => stHatchZ P L pz z o k
section
variable {P : Program} (T : Tab P) (L : St) (pz : List Nat) (z : Nat) (d : Option Tmp) (ty : TypeId) (s : String) (e : Array Edge) (g : Option (Nat × Bool)) (k : Trc → Prop)
theorem as_move (x : Operand) : astep T L pz z ⟨d, .move x, ty, s, e, g⟩ k = stMove L ⟨d, .move x, ty, s, e, g⟩ x k := rfl
theorem as_assign (x : Operand) : astep T L pz z ⟨d, .assign x, ty, s, e, g⟩ k = stMove L ⟨d, .assign x, ty, s, e, g⟩ x k := rfl
theorem as_pick (c x y : Operand) : astep T L pz z ⟨d, .pick c x y, ty, s, e, g⟩ k = stPick L ⟨d, .pick c x y, ty, s, e, g⟩ c x y k := rfl
theorem as_bin (op : BinOp) (t u : TypeId) (x y : Operand) : astep T L pz z ⟨d, .binOp op t x y u, ty, s, e, g⟩ k = stBin T L ⟨d, .binOp op t x y u, ty, s, e, g⟩ op t x y k := rfl
theorem as_un (op : UnOp) (t : TypeId) (x : Operand) : astep T L pz z ⟨d, .unOp op t x, ty, s, e, g⟩ k = stUn L ⟨d, .unOp op t x, ty, s, e, g⟩ op x k := rfl
theorem as_conv (a b : TypeId) (x : Operand) : astep T L pz z ⟨d, .convert a b x, ty, s, e, g⟩ k = stConv T L ⟨d, .convert a b x, ty, s, e, g⟩ a b x k := rfl
theorem as_load (t : TypeId) (x : Operand) : astep T L pz z ⟨d, .load t x, ty, s, e, g⟩ k = stLoad T L ⟨d, .load t x, ty, s, e, g⟩ t x k := rfl
theorem as_faddr (t : TypeId) (x : Operand) (f : Nat) : astep T L pz z ⟨d, .fieldAddr t x f, ty, s, e, g⟩ k = stFaddr T L ⟨d, .fieldAddr t x f, ty, s, e, g⟩ t x f k := rfl
theorem as_field (t : TypeId) (x : Operand) (f : Nat) : astep T L pz z ⟨d, .field t x f, ty, s, e, g⟩ k = stField T L ⟨d, .field t x f, ty, s, e, g⟩ t x f k := rfl
theorem as_extract (x : Operand) (i : Nat) : astep T L pz z ⟨d, .extract x i, ty, s, e, g⟩ k = stExtract P L ⟨d, .extract x i, ty, s, e, g⟩ x i k := rfl
theorem as_iaddr (t : TypeId) (x ix : Operand) : astep T L pz z ⟨d, .indexAddr t x ix, ty, s, e, g⟩ k = stIaddr T L ⟨d, .indexAddr t x ix, ty, s, e, g⟩ t x ix k := rfl
theorem as_slice (t : TypeId) (x : Operand) (lo hi mx : Option Operand) : astep T L pz z ⟨d, .slice t x lo hi mx, ty, s, e, g⟩ k = stSlice T L pz z ⟨d, .slice t x lo hi mx, ty, s, e, g⟩ t x lo hi mx k := rfl
theorem as_alloc (t : TypeId) : astep T L pz z ⟨d, .alloc t, ty, s, e, g⟩ k = stAlloc T L z ⟨d, .alloc t, ty, s, e, g⟩ t k := rfl
theorem as_box (t : TypeId) (x : Operand) : astep T L pz z ⟨d, .box t x, ty, s, e, g⟩ k = stBox L z ⟨d, .box t x, ty, s, e, g⟩ x k := rfl
theorem as_store (t : TypeId) (x v : Operand) : astep T L pz z ⟨d, .store t x v, ty, s, e, g⟩ k = stStore T L pz z ⟨d, .store t x v, ty, s, e, g⟩ t x v k := rfl
theorem as_build (t : TypeId) (ps : Array (Nat × Operand)) : astep T L pz z ⟨d, .build t ps, ty, s, e, g⟩ k = stBuild T L ⟨d, .build t ps, ty, s, e, g⟩ t ps k := rfl
theorem as_rows (t : TypeId) (n : Nat) (ps : Array (Nat × Operand)) : astep T L pz z ⟨d, .buildSlice t n ps, ty, s, e, g⟩ k = stRows T L z ⟨d, .buildSlice t n ps, ty, s, e, g⟩ t n ps k := rfl
theorem as_call (x : Operand) (args : Array Operand) (ats : Array TypeId) : astep T L pz z ⟨d, .call ⟨.value x, args, ats⟩, ty, s, e, g⟩ k = stCall P L pz z ⟨d, .call ⟨.value x, args, ats⟩, ty, s, e, g⟩ x args k := rfl
theorem as_append (x y : Operand) (t t' : TypeId) : astep T L pz z ⟨d, .call ⟨.builtin .append, #[x, y], #[t, t']⟩, ty, s, e, g⟩ k = chk (decide (t = t')) (stAppend T L pz z ⟨d, .call ⟨.builtin .append, #[x, y], #[t, t']⟩, ty, s, e, g⟩ t x y k) := rfl
theorem as_invoke (x : Operand) (m : String) (args : Array Operand) (ats : Array TypeId) : astep T L pz z ⟨d, .call ⟨.invoke x m, args, ats⟩, ty, s, e, g⟩ k = stHatchZ P L pz z ⟨d, .call ⟨.invoke x m, args, ats⟩, ty, s, e, g⟩ k := rfl
theorem as_copy (args : Array Operand) (ats : Array TypeId) : astep T L pz z ⟨d, .call ⟨.builtin .copy, args, ats⟩, ty, s, e, g⟩ k = stHatchZ P L pz z ⟨d, .call ⟨.builtin .copy, args, ats⟩, ty, s, e, g⟩ k := rfl
theorem as_nilCheck (x : Operand) : astep T L pz z ⟨d, .nilCheck x, ty, s, e, g⟩ k = stHatchZ P L pz z ⟨d, .nilCheck x, ty, s, e, g⟩ k := rfl
theorem as_makeIface (t : TypeId) (x : Operand) : astep T L pz z ⟨d, .makeInterface t x, ty, s, e, g⟩ k = stHatchZ P L pz z ⟨d, .makeInterface t x, ty, s, e, g⟩ k := rfl
theorem as_assert (x : Operand) (t u : TypeId) (b : Bool) : astep T L pz z ⟨d, .typeAssert x t u b, ty, s, e, g⟩ k = stHatchZ P L pz z ⟨d, .typeAssert x t u b, ty, s, e, g⟩ k := rfl
theorem as_makeSlice (t : TypeId) (x y : Operand) : astep T L pz z ⟨d, .makeSlice t x y, ty, s, e, g⟩ k = stHatchZ P L pz z ⟨d, .makeSlice t x y, ty, s, e, g⟩ k := rfl
theorem as_lookup (t : TypeId) (x y : Operand) (b : Bool) : astep T L pz z ⟨d, .lookup t x y b, ty, s, e, g⟩ k = stHatchZ P L pz z ⟨d, .lookup t x y b, ty, s, e, g⟩ k := rfl
theorem as_mapUpdate (t : TypeId) (x y v : Operand) : astep T L pz z ⟨d, .mapUpdate t x y v, ty, s, e, g⟩ k = stHatchZ P L pz z ⟨d, .mapUpdate t x y v, ty, s, e, g⟩ k := rfl
theorem as_makeMap (t : TypeId) (r : Option Operand) : astep T L pz z ⟨d, .makeMap t r, ty, s, e, g⟩ k = stHatchZ P L pz z ⟨d, .makeMap t r, ty, s, e, g⟩ k := rfl
theorem as_range (t : TypeId) (x : Operand) : astep T L pz z ⟨d, .range t x, ty, s, e, g⟩ k = stHatchZ P L pz z ⟨d, .range t x, ty, s, e, g⟩ k := rfl
theorem as_next (x : Operand) (b : Bool) : astep T L pz z ⟨d, .next x b, ty, s, e, g⟩ k = stHatchZ P L pz z ⟨d, .next x b, ty, s, e, g⟩ k := rfl
theorem as_entry (x : Operand) : astep T L pz z ⟨d, .entry x, ty, s, e, g⟩ k = stHatchZ P L pz z ⟨d, .entry x, ty, s, e, g⟩ k := rfl
theorem as_index (t : TypeId) (x y : Operand) : astep T L pz z ⟨d, .index t x y, ty, s, e, g⟩ k = stIndex T L ⟨d, .index t x y, ty, s, e, g⟩ t x y k := rfl
theorem as_fn (f : FuncId) (fi ca : Array Operand) : astep T L pz z ⟨d, .makeFunc (.func f) fi ca, ty, s, e, g⟩ k = bc fi.toList.isEmpty (stFn L ⟨d, .makeFunc (.func f) fi ca, ty, s, e, g⟩ f fi ca k) (stHatchZ P L pz z ⟨d, .makeFunc (.func f) fi ca, ty, s, e, g⟩ k) := rfl
theorem as_len (x : Operand) (t : TypeId) : astep T L pz z ⟨d, .call ⟨.builtin .len, #[x], #[t]⟩, ty, s, e, g⟩ k = stLen T L ⟨d, .call ⟨.builtin .len, #[x], #[t]⟩, ty, s, e, g⟩ t x k := rfl
theorem as_min (x y : Operand) (ats : Array TypeId) : astep T L pz z ⟨d, .call ⟨.builtin .min, #[x, y], ats⟩, ty, s, e, g⟩ k = stMin L ⟨d, .call ⟨.builtin .min, #[x, y], ats⟩, ty, s, e, g⟩ x y k := rfl
theorem as_max (x y : Operand) (ats : Array TypeId) : astep T L pz z ⟨d, .call ⟨.builtin .max, #[x, y], ats⟩, ty, s, e, g⟩ k = stMax L ⟨d, .call ⟨.builtin .max, #[x, y], ats⟩, ty, s, e, g⟩ x y k := rfl
end
theorem ob_ok {α : Type} {e : Option α} {k : α → Prop} (h : ob e k) : ∃ v, e = some v ∧ k v := by
  unfold ob at h
  split at h
  · exact ⟨_, rfl, h⟩
  · exact h.elim
theorem kva_ok {e : KV} {k : AV → Prop} (h : kva e k) : ∃ x, e = .av x ∧ k x := by
  unfold kva at h
  split at h
  · exact ⟨_, rfl, h⟩
  · exact h.elim
theorem kfree_ok {e : KV} {k : Prop} (h : kfree e k) : e = .zn .free ∧ k := by
  unfold kfree at h
  split at h
  · exact ⟨rfl, h⟩
  · exact h.elim
theorem knm_ok {e : KV} {k : Prop} (h : knm e k) : e = .nm false ∧ k := by
  unfold knm at h
  split at h
  · exact ⟨rfl, h⟩
  · exact h.elim
theorem khfree_ok {e : KV} {k : Prop} (h : khfree e k) : e = .hd .free ∧ k := by
  unfold khfree at h
  split at h
  · exact ⟨rfl, h⟩
  · exact h.elim
theorem khown_ok {e : KV} {k : TypeId → Nat → Nat → List Nat → List (List D) → Prop} (h : khown e k) : ∃ E sz y zs rows, e = .hd (.own E sz y zs rows) ∧ k E sz y zs rows := by
  unfold khown at h
  split at h
  · exact ⟨_, _, _, _, _, rfl, h⟩
  · exact h.elim
theorem klive_ok {e : KV} {k : Prop} (h : klive e k) : e = .zn .live ∧ k := by
  unfold klive at h
  split at h
  · exact ⟨rfl, h⟩
  · exact h.elim
def Out (P : Program) (C : Cx) (L : St) (o : Oper) (k : Trc → Prop) : Prop := ∃ tr, k tr ∧ Rd L tr.reads ∧ OpOk P C o tr
theorem opb_rd {x : Option Operand} {r : Row} {b : Option (IntKind × Int)} (h : opb L x = some (r, b)) : Rd L r := by
  cases x with
  | none => simp only [opb, Option.some.injEq, Prod.mk.injEq] at h; rw [← h.1]; exact Rd.nil
  | some x =>
    simp only [opb] at h
    split at h
    · rename_i h1
      simp only [Option.some.injEq, Prod.mk.injEq] at h
      rw [← h.1]; exact opr_rd h1
    · cases h
theorem stMove_ok {x : Operand} (ho : o.op = .move x ∨ o.op = .assign x) (hd : dok C.N o = true) (h : stMove L o x k) : Out P C L o k := by
  obtain ⟨y, hx, h⟩ := ob_ok h
  exact ⟨_, h, opd_rd hx, op_move ho hx (dok_ok hd)⟩
theorem stPick_ok {c x y : Operand} (ho : o.op = .pick c x y) (hd : dok C.N o = true) (h : stPick L o c x y k) : Out P C L o k := by
  obtain ⟨⟨r', t⟩, hc, h1⟩ := ob_ok h
  obtain ⟨b, e, h2⟩ := vb_ok h1
  simp only at e; subst e
  cases b with
  | true =>
    obtain ⟨v, hx, h3⟩ := ob_ok (h2.1 rfl)
    exact ⟨_, h3, Rd.app (opr_rd hc) (opd_rd hx), op_pick ho hc (by simpa using hx) (dok_ok hd)⟩
  | false =>
    obtain ⟨v, hx, h3⟩ := ob_ok (h2.2 (by simp))
    exact ⟨_, h3, Rd.app (opr_rd hc) (opd_rd hx), op_pick ho hc (by simpa using hx) (dok_ok hd)⟩
theorem binT_run {T : Tab P} {op : BinOp} {t : TypeId} {x y : Operand} {u v z : Value} (h : binT T op t u v = some z) (w : World) : (do eqGuard op t x y u v; binOp op t u v : Sem Value).run P w = .ok z w := by
  unfold binT at h
  split at h
  · rename_i a b
    split at h
    · rename_i ti ht
      split at h
      · rename_i hs
        obtain ⟨d, h1, h2⟩ := (T.ok t ti ht).und
        rw [hs] at h2
        have hd : d = .bool := by cases d <;> simp [shp] at h2 ⊢
        subst hd
        have := run_underlying h1 (w := w)
        have he : (Op.equal t (.bool a) (.bool b)).run P w = .ok (a == b) w := by
          show ((do match ← underlying t, Value.bool a, Value.bool b with | _, _, _ => _ : Sem Bool)).run P w = _
          rw [Sem.run_bind, this]
          rfl
        split at h <;> cases h
        · simp [eqGuard, binOp, he]
        · simp [eqGuard, binOp, he]
      · cases h
    · cases h
  · cases h
theorem stBin_ok {op : BinOp} {t t' : TypeId} {x y : Operand} (ho : o.op = .binOp op t x y t') (hd : dok C.N o = true) (h : stBin T L o op t x y k) : Out P C L o k := by
  rcases opc_ok h with ⟨a, hx, h1⟩ | ⟨_, tr, h1, h2, h3⟩
  case inr => exact ⟨tr, h1, h2, h3 C hd⟩
  obtain ⟨b, hy, h2⟩ := ob_ok h1
  rcases opc_ok h2 with ⟨z, hc, h3⟩ | ⟨_, h2⟩
  · exact ⟨_, h3.2, Rd.app (opr_rd hx) (opr_rd hy), op_bin ho hx hy (dok_ok hd) fun w => bin_run hc h3.1 w⟩
  · rcases opc_ok h2 with ⟨z, hc, h3⟩ | ⟨_, z, h3, h4⟩
    · exact ⟨_, h3, Rd.app (opr_rd hx) (opr_rd hy), op_bin ho hx hy (dok_ok hd) fun w => binT_run hc w⟩
    · exact ⟨_, h4, Rd.app (opr_rd hx) (opr_rd hy), op_bin ho hx hy (dok_ok hd) h3⟩
theorem stUn_ok {op : UnOp} {t : TypeId} {x : Operand} (ho : o.op = .unOp op t x) (hd : dok C.N o = true) (h : stUn L o op x k) : Out P C L o k := by
  obtain ⟨⟨r, y⟩, hx, h1⟩ := ob_ok h
  rcases unc_ok h1 with ⟨rfl, h2⟩ | ⟨rfl, h2⟩
  · obtain ⟨b, e, h3⟩ := vb_ok h2
    simp only at e; subst e
    exact ⟨_, h3, opr_rd hx, op_not ho hx (dok_ok hd)⟩
  · obtain ⟨kk, n, e, h3⟩ := vi_ok h2
    simp only at e; subst e
    exact ⟨_, h3, opr_rd hx, op_neg ho hx (dok_ok hd)⟩
theorem stConv_ok {s d : TypeId} {x : Operand} (ho : o.op = .convert s d x) (hd : dok C.N o = true) (h : stConv T L o s d x k) : Out P C L o k := by
  obtain ⟨⟨r, y⟩, hx, h1⟩ := ob_ok h
  obtain ⟨si, hs, h2⟩ := ob_ok h1
  obtain ⟨di, hdt, h3⟩ := ob_ok h2
  obtain ⟨kk, n, e, h4⟩ := vi_ok h3
  simp only at e; subst e
  obtain ⟨k', hk, h5⟩ := shi_ok h4
  exact ⟨_, h5, opr_rd hx, op_conv ho hx hs hdt hk (dok_ok hd)⟩
theorem stLoad_ok {t : TypeId} {x : Operand} (ho : o.op = .load t x) (hd : dok C.N o = true) (h : stLoad T L o t x k) : Out P C L o k := by
  obtain ⟨ti, ht, h1⟩ := ob_ok h
  obtain ⟨⟨r, y⟩, hx, h2⟩ := ob_ok h1
  rcases avpo_ok h2 with ⟨n, off, e, h3⟩ | ⟨zs, ds, e, h3⟩ | ⟨tr, g1, g2, g3⟩ | ⟨h, sz, i, j, e, h3⟩
  rotate_right
  · simp only at e; subst e
    obtain ⟨E, sz', yz, zs, rows, hh, h4⟩ := khown_ok h3
    obtain ⟨hsz, h4⟩ := h4
    have hsz := of_decide_eq_true hsz
    subst hsz
    obtain ⟨r', hz, row, hrow, h5⟩ := ob_ok h4
    rcases bc_ok h5 with ⟨hg, h5⟩ | ⟨hg, h5⟩
    · exact ⟨_, h5.2, Rd.cons hh (Rd.app (opd_rd hx) (zr_rd hz)), op_oload_row ho ht hg hx hh hz hrow h5.1 (dok_ok hd)⟩
    · obtain ⟨d, ds', e, h6⟩ := hd1_ok h5
      exact ⟨_, h6, Rd.cons hh (Rd.app (opd_rd hx) (zr_rd hz)), op_oload_one ho ht hg hx hh hz hrow e (dok_ok hd)⟩
  rotate_right
  · exact ⟨tr, g1, g2, g3 C hd⟩
  · simp only at e; subst e
    rcases bc_ok h3 with ⟨hg, h4⟩ | ⟨hg, h4⟩
    · obtain ⟨c, hc, h5⟩ := ob_ok h4
      exact ⟨_, h5, Rd.app (opd_rd hx) (cells_rd hc), op_load_box ho ht hg hx hc (dok_ok hd)⟩
    · obtain ⟨v, hc, h5⟩ := kva_ok h4
      exact ⟨_, h5, Rd.app (opd_rd hx) (Rd.cons hc Rd.nil), op_load_cell ho ht hg hx hc (dok_ok hd)⟩
  · simp only at e; subst e
    obtain ⟨r', hz, h4⟩ := ob_ok h3
    rcases bc_ok h4 with ⟨hg, h5⟩ | ⟨hg, h5⟩
    · exact ⟨_, h5.2, Rd.app (opd_rd hx) (zr_rd hz), op_load_row ho ht hg hx hz h5.1 (dok_ok hd)⟩
    · obtain ⟨d, ds', rfl, h6⟩ := hd1_ok h5
      exact ⟨_, h6, Rd.app (opd_rd hx) (zr_rd hz), op_load_seg ho ht hg hx hz (dok_ok hd)⟩
theorem stFaddr_ok {s : TypeId} {x : Operand} {f : Nat} (ho : o.op = .fieldAddr s x f) (hd : dok C.N o = true) (h : stFaddr T L o s x f k) : Out P C L o k := by
  obtain ⟨si, hs, h1⟩ := ob_ok h
  obtain ⟨fs, hsh, h2⟩ := shs_ok h1
  obtain ⟨fo, hf, h3⟩ := ob_ok h2
  obtain ⟨fi, hft, hne, h4⟩ := ob_ok h3
  obtain ⟨⟨r, y⟩, hx, h5⟩ := ob_ok h4
  have hne := of_decide_eq_true hne
  rcases avpo_ok h5 with ⟨n, off, e, h6⟩ | ⟨zs, ds, e, h6⟩ | ⟨tr, g1, g2, g3⟩ | ⟨h, sz, i, j, e, h6⟩
  rotate_right
  · simp only at e; subst e
    obtain ⟨E, sz', yz, zs, rows, hh, hsz, h7⟩ := khown_ok h6
    have hsz := of_decide_eq_true hsz
    subst hsz
    exact ⟨_, h7, Rd.cons hh (opd_rd hx), op_ofaddr ho hs hsh hf hft hne hx hh (dok_ok hd)⟩
  rotate_right
  · exact ⟨tr, g1, g2, g3 C hd⟩
  · simp only at e; subst e
    exact ⟨_, h6, opd_rd hx, op_faddr ho hs hsh hf hft hne hx (dok_ok hd)⟩
  · simp only at e; subst e
    obtain ⟨r', hz, h7⟩ := ob_ok h6
    exact ⟨_, h7, Rd.app (opd_rd hx) (zr_rd hz), op_faddr_seg ho hs hsh hf hft hne hx hz (dok_ok hd)⟩
theorem stField_ok {s : TypeId} {x : Operand} {f : Nat} (ho : o.op = .field s x f) (hd : dok C.N o = true) (h : stField T L o s x f k) : Out P C L o k := by
  obtain ⟨si, hs, h1⟩ := ob_ok h
  obtain ⟨fs, hsh, h2⟩ := shs_ok h1
  obtain ⟨fo, hf, h3⟩ := ob_ok h2
  obtain ⟨fi, hft, hg, h4⟩ := ob_ok h3
  obtain ⟨⟨r, y⟩, hx, h5⟩ := ob_ok h4
  obtain ⟨cs, e, h6⟩ := avagg_ok h5
  simp only at e; subst e
  obtain ⟨c, hy, h7⟩ := ob_ok h6
  exact ⟨_, h7, opd_rd hx, op_field ho hs hsh hf hft (by simpa using hg) hx hy (dok_ok hd)⟩
theorem stExtract_ok {x : Operand} {i : Nat} (ho : o.op = .extract x i) (hd : dok C.N o = true) (h : stExtract P L o x i k) : Out P C L o k := by
  obtain ⟨⟨r, y⟩, hx, h1⟩ := ob_ok h
  rcases avtupw_ok h1 with ⟨zs, l, e, h2⟩ | ⟨tr, g1, g2, g3⟩
  rotate_right
  · exact ⟨tr, g1, g2, g3 C hd⟩
  simp only at e; subst e
  obtain ⟨r', hz, h3⟩ := ob_ok h2
  obtain ⟨d, hi, h4⟩ := ob_ok h3
  exact ⟨_, h4, Rd.app (opd_rd hx) (zr_rd hz), op_extract ho hx hz hi (dok_ok hd)⟩
theorem stIaddr_ok {t : TypeId} {x ix : Operand} (ho : o.op = .indexAddr t x ix) (hd : dok C.N o = true) (h : stIaddr T L o t x ix k) : Out P C L o k := by
  obtain ⟨ti, ht, h1⟩ := ob_ok h
  rcases shla_ok h1 with ⟨e, hsh, h2⟩ | ⟨m, e, hsh, h2⟩
  · obtain ⟨ei, he, h3⟩ := ob_ok h2
    rcases opn_ok h3 with ⟨y, hx, h4⟩ | ⟨_, tr, g1, g2, g3⟩
    rotate_right
    · exact ⟨tr, g1, g2, g3 C hd⟩
    obtain ⟨⟨r', i⟩, hi, h5⟩ := ob_ok h4
    obtain ⟨kk, n, e1, h6⟩ := vi_ok h5
    simp only at e1; subst e1
    rcases h6 with ⟨j, row, h7, h8, h9⟩ | h6
    · exact ⟨_, h9, Rd.app (ops_rd hx) (opr_rd hi), op_iaddr ho ht hsh he hx hi h7 h8 (dok_ok hd)⟩
    · obtain ⟨⟨r0, y0⟩, hx0, h7⟩ := ob_ok h6
      obtain ⟨h, e2, h8⟩ := avown_ok h7
      simp only at e2; subst e2
      obtain ⟨E, sz, yz, zs, rows, hh, h9⟩ := khown_ok h8
      obtain ⟨hl, hsz, j, h10, h11, h12⟩ := klive_ok h9
      exact ⟨_, h12, Rd.cons hh (Rd.cons hl (Rd.app (opd_rd hx0) (opr_rd hi))), op_oiaddr ho ht hsh he hx0 hh hl (of_decide_eq_true hsz) hi h10 h11 (dok_ok hd)⟩
  · obtain ⟨ei, he, h3⟩ := ob_ok h2
    obtain ⟨⟨r, y⟩, hx, h4⟩ := ob_ok h3
    obtain ⟨⟨r', i⟩, hi, h5⟩ := ob_ok h4
    obtain ⟨nn, off, e1, h6⟩ := avp_ok h5
    simp only at e1; subst e1
    obtain ⟨kk, n, e2, h7⟩ := vi_ok h6
    simp only at e2; subst e2
    obtain ⟨j, h8, h9, h10⟩ := h7
    exact ⟨_, h10, Rd.app (opd_rd hx) (opr_rd hi), op_iaddr_arr ho ht hsh he hx hi h8 h9 (dok_ok hd)⟩
theorem stSlice_ok {t : TypeId} {x : Operand} {lo hi mx : Option Operand} {z : Nat} (zb : ∀ p ∈ C.pz, p < z) (ho : o.op = .slice t x lo hi mx) (hd : dok C.N o = true) (h : stSlice T L C.pz z o t x lo hi mx k) : Out P C L o k := by
  obtain ⟨ti, ht, g1⟩ := ob_ok h
  obtain ⟨e, hsh, g2⟩ := shl_ok g1
  obtain ⟨ei, he, g3⟩ := ob_ok g2
  rcases opn_ok g3 with ⟨y, hx, g4⟩ | ⟨_, tr, q1, q2, q3⟩
  rotate_right
  · exact ⟨tr, q1, q2, q3 C hd⟩
  obtain ⟨b1, h1, g5⟩ := ob_ok g4
  obtain ⟨b2, h2, g6⟩ := ob_ok g5
  obtain ⟨b3, h3, g7⟩ := ob_ok g6
  rcases g7 with ⟨c1, c2, c3, n1, n2, n3, hmx, k1, k2, k3, g8⟩ | ⟨tr, q1, q2, q3⟩
  rotate_right
  · exact ⟨tr, q1, q2, q3 C hd rfl zb⟩
  exact ⟨_, g8, Rd.app (ops_rd hx) (Rd.app (opb_rd h1) (Rd.app (opb_rd h2) (opb_rd h3))), op_slice ho ht hsh he hx h1 h2 h3 n1 n2 n3 hmx k1 k2 k3 (dok_ok hd)⟩
theorem stAlloc_ok {t : TypeId} {z : Nat} (ho : o.op = .alloc t) (hd : dok C.N o = true) (h : stAlloc T L z o t k) : Out P C L o k := by
  obtain ⟨ti, ht, h1⟩ := ob_ok h
  obtain ⟨hn, h2⟩ := knm_ok h1
  exact ⟨_, h2, Rd.cons hn Rd.nil, op_alloc ho ht hn (dok_ok hd)⟩
theorem stBox_ok {t : TypeId} {x : Operand} {z : Nat} (ho : o.op = .box t x) (hd : dok C.N o = true) (h : stBox L z o x k) : Out P C L o k := by
  obtain ⟨y, hx, h1⟩ := ob_ok h
  obtain ⟨hn, h2⟩ := knm_ok h1
  obtain ⟨s, hs, h3⟩ := ob_ok h2
  exact ⟨_, h3, Rd.cons hn (Rd.app (opd_rd hx) (spread_rd hs)), op_box ho hx hs hn (dok_ok hd)⟩
theorem stStore_ok {t : TypeId} {x v : Operand} {z : Nat} (zb : ∀ p ∈ C.pz, p < z) (ho : o.op = .store t x v) (hd : dok C.N o = true) (h : stStore T L C.pz z o t x v k) : Out P C L o k := by
  obtain ⟨ti, ht, h1⟩ := ob_ok h
  obtain ⟨⟨r, y⟩, hx, h2⟩ := ob_ok h1
  rcases avpo_ok h2 with ⟨n, off, e, h3⟩ | ⟨zs, ds, e, tr, h3, h4, h5⟩ | ⟨tr, h3, h4, h5⟩ | ⟨h, sz, i, j, e, h3⟩
  case inr.inl => exact ⟨tr, h3, h4, h5 C hd rfl zb⟩
  case inr.inr.inl => exact ⟨tr, h3, h4, h5 C hd rfl zb⟩
  case inr.inr.inr =>
    simp only at e; subst e
    obtain ⟨E, sz', yz, zs, rows, hh, h4⟩ := khown_ok h3
    obtain ⟨hl, h5⟩ := klive_ok h4
    obtain ⟨r3, hz, h6⟩ := ob_ok h5
    obtain ⟨u, hv, h7⟩ := ob_ok h6
    obtain ⟨s, hs, h8⟩ := ob_ok h7
    obtain ⟨r4, hzc, hc, h9⟩ := ob_ok h8
    simp only [Bool.and_eq_true, decide_eq_true_eq, Option.isNone_iff_eq_none, Bool.not_eq_true'] at hc
    obtain ⟨rfl, c1, c2, c3, c4, c5⟩ := hc
    obtain ⟨hf, row, hrow, hj, h10⟩ := kfree_ok h9
    exact ⟨_, h10, Rd.cons hf (Rd.cons hh (Rd.cons hl (Rd.app (opd_rd hx) (Rd.app (opd_rd hv) (Rd.app (spreadD_rd hs) (Rd.app (zr_rd hz) (zr_rd hzc))))))), op_ostore ho c1 ht hx hh hl hz hv hs hzc c3 c4 hrow hj c5 (fun h => by simp [h] at c2) (fun h => Nat.lt_irrefl _ (zb _ h)) hf⟩
  simp only at e; subst e
  obtain ⟨u, hv, h4⟩ := ob_ok h3
  obtain ⟨s, hs, h5⟩ := ob_ok h4
  obtain ⟨r3, he, h6, h7⟩ := ob_ok h5
  simp only [Bool.and_eq_true, decide_eq_true_eq, Option.isNone_iff_eq_none] at h6
  exact ⟨_, h7, Rd.app (opd_rd hx) (Rd.app (opd_rd hv) (Rd.app (spread_rd hs) (ex_rd he))), op_store ho ht hx hv hs h6.1 he h6.2⟩
theorem stBuild_ok {t : TypeId} {ps : Array (Nat × Operand)} (ho : o.op = .build t ps) (hd : dok C.N o = true) (h : stBuild T L o t ps k) : Out P C L o k := by
  obtain ⟨ti, ht, h1⟩ := ob_ok h
  rcases shsa_ok h1 with ⟨fs, hsh, h2⟩ | ⟨n, e, hsh, h2⟩
  · obtain ⟨pl, hp, h3⟩ := ob_ok h2
    obtain ⟨c, hf, h4⟩ := ob_ok h3
    exact ⟨_, h4, fillO_rd hf, op_build ho ht hsh hp hf (dok_ok hd)⟩
  · obtain ⟨ei, he, h3⟩ := ob_ok h2
    obtain ⟨c, hf, h4⟩ := ob_ok h3
    exact ⟨_, h4, fillO_rd hf, op_buildA ho ht hsh he hf (dok_ok hd)⟩
theorem stIndex_ok {t : TypeId} {x ix : Operand} (ho : o.op = .index t x ix) (hd : dok C.N o = true) (h : stIndex T L o t x ix k) : Out P C L o k := by
  obtain ⟨ti, ht, h1⟩ := ob_ok h
  obtain ⟨m, e, hsh, h2⟩ := sharr_ok h1
  obtain ⟨ei, he, h0, h3⟩ := ob_ok h2
  obtain ⟨⟨r, y⟩, hx, h4⟩ := ob_ok h3
  obtain ⟨cs, e0, h5⟩ := avagg_ok h4
  simp only at e0; subst e0
  obtain ⟨⟨r', i⟩, hi, h6⟩ := ob_ok h5
  obtain ⟨kk, n, e1, h7⟩ := vi_ok h6
  simp only at e1; subst e1
  obtain ⟨j, c, h8, h9, h10, h11⟩ := h7
  simp only [Bool.and_eq_true, Bool.not_eq_true', decide_eq_true_eq] at h0
  exact ⟨_, h11, Rd.app (opd_rd hx) (opr_rd hi), op_index ho ht hsh he h0.1 h0.2 hx hi h8 h9 h10 (dok_ok hd)⟩
theorem stRows_ok {t : TypeId} {n : Nat} {ps : Array (Nat × Operand)} {z : Nat} (zb : ∀ p ∈ C.pz, p < z) (ho : o.op = .buildSlice t n ps) (hd : dok C.N o = true) (h : stRows T L z o t n ps k) : Out P C L o k := by
  obtain ⟨ti, ht, g1⟩ := ob_ok h
  obtain ⟨e, hsh, g2⟩ := shl_ok g1
  obtain ⟨ei, he, h0, g3⟩ := ob_ok g2
  obtain ⟨c, hf, hoc, g4⟩ := ob_ok g3
  obtain ⟨r', hzr, g5⟩ := ob_ok g4
  obtain ⟨hz, g6⟩ := kfree_ok g5
  obtain ⟨hh, g7⟩ := khfree_ok g6
  simp only [Bool.and_eq_true, decide_eq_true_eq] at h0
  obtain ⟨⟨h1, h2⟩, h3⟩ := h0
  have hn : n ≤ maxI := by
    have : n * 1 ≤ n * ei.size := Nat.mul_le_mul_left _ h3
    unfold maxI; omega
  exact ⟨_, g7, Rd.cons hz (Rd.cons hh (Rd.app (fillO_rd hf) (zr_rd hzr))), op_rows ho ht hsh he h1 h2 h3 hn hf hoc hzr hz hh (fun h => Nat.lt_irrefl _ (zb _ h)) (dok_ok hd)⟩
theorem overAny_ok {x y : Operand} {args : Array Operand} {rest : List Operand} {ats : Array TypeId} {z : Nat} (zb : ∀ p ∈ C.pz, p < z) (ho : o.op = .call { callee := .value x, args := args, argTypes := ats }) (hal : args.toList = y :: rest) (hd : dok C.N o = true) (h : overAny P L C.pz z o x y rest k) : Out P C L o k := by
  obtain ⟨⟨r0, y0⟩, hy, g1⟩ := ob_ok h
  obtain ⟨n, e, g2⟩ := avown_ok g1
  simp only at e; subst e
  obtain ⟨E, sz, yz, zs1, rows, hh, g3⟩ := khown_ok g2
  obtain ⟨hl, g4⟩ := klive_ok g3
  obtain ⟨r1, h1, g5⟩ := ob_ok g4
  obtain ⟨⟨r, zs, f, ds⟩, hcd, hf, hne, g6⟩ := ob_ok g5
  rw [Bool.and_eq_true] at hne
  obtain ⟨hz, rows', hc, g7⟩ := kfree_ok g6
  refine ⟨_, g7, Rd.cons hz (Rd.cons hh (Rd.cons hl (Rd.app (opd_rd hy) (Rd.app (zr_rd h1) (callD_rd hcd))))), op_over ho hal hy h1 hcd hf hc (by simpa using hne.1) (by simpa using hne.2) (fun h => Nat.lt_irrefl _ (zb _ h)) ?_ (dok_ok hd)⟩
  rintro rfl
  rw [hl] at hz; cases hz
theorem stCall_ok {x : Operand} {args : Array Operand} {ats : Array TypeId} {z : Nat} (zb : ∀ p ∈ C.pz, p < z) (ho : o.op = .call { callee := .value x, args := args, argTypes := ats }) (hd : dok C.N o = true) (h : stCall P L C.pz z o x args k) : Out P C L o k := by
  rcases h with h | h
  · obtain ⟨⟨r, zs, f, ds⟩, hcd, hf, h⟩ := ob_ok h
    have hr := callD_rd hcd
    rcases h with ⟨res, hc, h⟩ | ⟨E, sz, rows, hc, h⟩ | ⟨res, hc, h⟩ | ⟨hc, h0, h⟩ | ⟨E, sz, rows, hc, h⟩
    · rcases bc_ok h with ⟨hv, h⟩ | ⟨hv, h⟩
      · exact ⟨_, h, hr, op_callv ho hcd hf hc hv (dok_ok hd)⟩
      · obtain ⟨hz, h⟩ := kfree_ok h
        exact ⟨_, h, Rd.cons hz hr, op_call ho hcd hf hc (fun h => Nat.lt_irrefl _ (zb _ h)) (dok_ok hd)⟩
    · obtain ⟨hz, h⟩ := kfree_ok h
      obtain ⟨hz2, h⟩ := kfree_ok h
      obtain ⟨hh, h⟩ := khfree_ok h
      exact ⟨_, h, Rd.cons hz (Rd.cons hz2 (Rd.cons hh hr)), op_callo ho hcd hf hc (by omega) (fun h => Nat.lt_irrefl _ (zb _ h)) (fun h => by have := zb _ h; omega) (dok_ok hd)⟩
    · obtain ⟨hz, h⟩ := kfree_ok h
      exact ⟨_, h, Rd.cons hz hr, op_calla ho hcd hf hc (fun h => Nat.lt_irrefl _ (zb _ h)) (dok_ok hd)⟩
    · exact ⟨_, h, hr, op_kill ho hcd hf hc (by simpa using h0) (dok_ok hd)⟩
    · obtain ⟨hz, h⟩ := kfree_ok h
      obtain ⟨hz2, h⟩ := kfree_ok h
      obtain ⟨hh, h⟩ := khfree_ok h
      exact ⟨_, h, Rd.cons hz (Rd.cons hz2 (Rd.cons hh hr)), op_callw ho hcd hf hc (by omega) (fun h => Nat.lt_irrefl _ (zb _ h)) (fun h => by have := zb _ h; omega) (dok_ok hd)⟩
  · rcases h with h | h
    · unfold stOver at h
      split at h
      · rename_i hal
        exact overAny_ok zb ho hal hd h
      · exact h.elim
    · obtain ⟨tr, h1, h2, h3⟩ := h; exact ⟨tr, h1, h2, h3 C hd rfl zb⟩
theorem stAppend_ok {t : TypeId} {s x : Operand} {z : Nat} (zb : ∀ p ∈ C.pz, p < z) (ho : o.op = .call { callee := .builtin .append, args := #[s, x], argTypes := #[t, t] }) (hd : dok C.N o = true) (h : stAppend T L C.pz z o t s x k) : Out P C L o k := by
  obtain ⟨ti, ht, g1⟩ := ob_ok h
  obtain ⟨e, hsh, g2⟩ := shl_ok g1
  obtain ⟨ei, he, h0, g3⟩ := ob_ok g2
  obtain ⟨y, hs, g4⟩ := ob_ok g3
  rcases opn_ok g4 with ⟨d, hd0, g5⟩ | ⟨_, tr, q1, q2, q3⟩
  rotate_right
  · exact ⟨tr, q1, q2, q3 C hd rfl zb⟩
  obtain ⟨u, hx, g6⟩ := ob_ok g5
  obtain ⟨hoc, ⟨h63, hby⟩, g7⟩ := g6
  obtain ⟨hz, g8⟩ := kfree_ok g7
  obtain ⟨hh, g9⟩ := khfree_ok g8
  simp only [Bool.and_eq_true, decide_eq_true_eq] at h0
  exact ⟨_, g9, Rd.cons hz (Rd.cons hh (Rd.app (opd_rd hs) (Rd.app (dst0_rd hd0) (ops_rd hx)))), op_append ho ht hsh he h0.1 h0.2 hs hd0 hx hoc h63 hby (fun h => Nat.lt_irrefl _ (zb _ h)) (dok_ok hd)⟩
theorem stFn_ok {f : FuncId} {fi ca : Array Operand} (ho : o.op = .makeFunc (.func f) fi ca) (hd : dok C.N o = true) (h : stFn L o f fi ca k) : Out P C L o k := by
  obtain ⟨h0, g1⟩ := h
  rw [List.isEmpty_iff] at h0
  rcases bc_ok g1 with ⟨hc, g2⟩ | ⟨_, g2⟩
  · rw [List.isEmpty_iff] at hc
    exact ⟨_, g2, Rd.nil, op_fn0 ho h0 hc (dok_ok hd)⟩
  · rcases opn_ok g2 with ⟨c, hc, g3⟩ | ⟨_, g3⟩
    · exact ⟨_, g3, capN_rd hc, op_fn ho h0 hc (dok_ok hd)⟩
    · obtain ⟨c, hc, g4⟩ := ob_ok g3
      exact ⟨_, g4, capD_rd hc, op_fnd ho h0 hc (dok_ok hd)⟩
theorem stLen_ok {t : TypeId} {x : Operand} (ho : o.op = .call { callee := .builtin .len, args := #[x], argTypes := #[t] }) (hd : dok C.N o = true) (h : stLen T L o t x k) : Out P C L o k := by
  obtain ⟨ti, ht, h1⟩ := ob_ok h
  rcases shls_ok h1 with ⟨e, hsh, h2⟩ | ⟨hsh, h2⟩
  · obtain ⟨ei, he, h3⟩ := ob_ok h2
    rcases opn_ok h3 with ⟨y, hx, h4⟩ | ⟨_, tr, q1, q2, q3⟩
    · exact ⟨_, h4, ops_rd hx, op_len ho ht hsh he hx (dok_ok hd)⟩
    · exact ⟨tr, q1, q2, q3 C hd⟩
  · obtain ⟨⟨r, y⟩, hx, h3⟩ := ob_ok h2
    obtain ⟨s, e, h4⟩ := vstr_ok h3
    simp only at e; subst e
    exact ⟨_, h4, opr_rd hx, op_lens ho ht hsh hx (dok_ok hd)⟩
theorem stMin_ok {x y : Operand} {ts : Array TypeId} (ho : o.op = .call { callee := .builtin .min, args := #[x, y], argTypes := ts }) (hd : dok C.N o = true) (h : stMin L o x y k) : Out P C L o k := by
  obtain ⟨⟨r, a⟩, hx, h1⟩ := ob_ok h
  obtain ⟨⟨r', b⟩, hy, h2⟩ := ob_ok h1
  obtain ⟨kk, n, e, h3⟩ := vi_ok h2
  simp only at e; subst e
  obtain ⟨k2, m, e, h4⟩ := vi_ok h3
  simp only at e; subst e
  exact ⟨_, h4, Rd.app (opr_rd hx) (opr_rd hy), op_min ho hx hy (dok_ok hd)⟩
theorem stMax_ok {x y : Operand} {ts : Array TypeId} (ho : o.op = .call { callee := .builtin .max, args := #[x, y], argTypes := ts }) (hd : dok C.N o = true) (h : stMax L o x y k) : Out P C L o k := by
  obtain ⟨⟨r, a⟩, hx, h1⟩ := ob_ok h
  obtain ⟨⟨r', b⟩, hy, h2⟩ := ob_ok h1
  obtain ⟨kk, n, e, h3⟩ := vi_ok h2
  simp only at e; subst e
  obtain ⟨k2, m, e, h4⟩ := vi_ok h3
  simp only at e; subst e
  exact ⟨_, h4, Rd.app (opr_rd hx) (opr_rd hy), op_max ho hx hy (dok_ok hd)⟩
theorem toList_eq {α : Type} {a : Array α} {l : List α} (h : a.toList = l) : a = l.toArray := by rw [← h]
theorem stCalls_ok {c : Call} {z : Nat} (zb : ∀ p ∈ C.pz, p < z) (ho : o.op = .call c) (hd : dok C.N o = true) (h : stCalls T L C.pz z o c k) : Out P C L o k := by
  obtain ⟨callee, args, ats⟩ := c
  unfold stCalls at h
  simp only at h
  split at h
  · exact stCall_ok zb ho hd h
  · split at h
    · rename_i h1 h2
      obtain ⟨e, h⟩ := h
      have e := of_decide_eq_true e
      subst e
      rw [toList_eq h1, toList_eq h2] at ho
      exact stAppend_ok zb ho hd h
    · exact h.elim
  · split at h
    · rename_i h1 h2
      rw [toList_eq h1, toList_eq h2] at ho
      exact stLen_ok ho hd h
    · exact h.elim
  · split at h
    · rename_i h1
      rw [toList_eq h1] at ho
      exact stMin_ok ho hd h
    · exact h.elim
  · split at h
    · rename_i h1
      rw [toList_eq h1] at ho
      exact stMax_ok ho hd h
    · exact h.elim
  · obtain ⟨tr, h1, h2, h3⟩ := h; exact ⟨tr, h1, h2, h3 C hd rfl zb⟩
theorem astep_ok {z : Nat} (zb : ∀ p ∈ C.pz, p < z) (hd : dok C.N o = true) (h : astep T L C.pz z o k) : Out P C L o k := by
  unfold astep at h
  split at h
  · rename_i ho; exact stMove_ok (.inl ho) hd h
  · rename_i ho; exact stMove_ok (.inr ho) hd h
  · rename_i ho; exact stPick_ok ho hd h
  · rename_i ho; exact stBin_ok ho hd h
  · rename_i ho; exact stUn_ok ho hd h
  · rename_i ho; exact stConv_ok ho hd h
  · rename_i ho; exact stLoad_ok ho hd h
  · rename_i ho; exact stFaddr_ok ho hd h
  · rename_i ho; exact stField_ok ho hd h
  · rename_i ho; exact stExtract_ok ho hd h
  · rename_i ho; exact stIaddr_ok ho hd h
  · rename_i ho; exact stSlice_ok zb ho hd h
  · rename_i ho; exact stAlloc_ok ho hd h
  · rename_i ho; exact stBox_ok ho hd h
  · rename_i ho; exact stStore_ok zb ho hd h
  · rename_i ho; exact stBuild_ok ho hd h
  · rename_i ho; exact stIndex_ok ho hd h
  · rename_i ho; exact stRows_ok zb ho hd h
  · rename_i ho; exact stCalls_ok zb ho hd h
  · rename_i ho
    rcases bc_ok h with ⟨_, h⟩ | ⟨_, tr, h1, h2, h3⟩
    · exact stFn_ok ho hd h
    · exact ⟨tr, h1, h2, h3 C hd rfl zb⟩
  · obtain ⟨tr, h1, h2, h3⟩ := h; exact ⟨tr, h1, h2, h3 C hd rfl zb⟩
end

section
variable {P : Program} {C : Cx} {r : Option Nat} {Q : Exit → Act → World → Prop} {T : Tab P}
def gd (ops : Array Oper) (L : St) (o : Oper) (run skip : Row → Prop) : Prop := match o.guard with
  | none => run []
  | some (j, want) => ob ((ops[j]?).bind (·.dst)) fun d => kva (L (.tmp d)) fun x => gav x (fun b => gsel b want (run [(.tmp d, .av (.c [] (.v (.bool b))))]) (skip [(.tmp d, .av (.c [] (.v (.bool b))))])) (skip [(.tmp d, .av (.c [] (.v undef)))])
def arun (T : Tab P) (N : Nat) (pz : List Nat) (ops : Array Oper) : Nat → List Oper → Row → List (List Key × List Key) → (List (List Key × List Key) → Row → Prop) → Prop
  | _, [], L, ks, k => k ks L
  | z, o :: todo, L, ks, k => chk (dok N o) (gd ops (lk L) o
      (fun gr => astep T (lk L) pz z o fun tr => arun T N pz ops (z + 1) todo (puts L tr.writes) (ks ++ [((gr ++ tr.reads).map (·.1), tr.writes.map (·.1))]) k)
      (fun gr => arun T N pz ops (z + 1) todo (puts L (wr o.dst (.c [] (.v undef)))) (ks ++ [(gr.map (·.1), (wr o.dst (.c [] (.v undef))).map (·.1))]) k))
theorem gd_ok {ops : Array Oper} {L : St} {o : Oper} {run skip : Row → Prop} (h : gd ops L o run skip) :
    (∃ gr, run gr ∧ Rd L gr ∧ ∀ C σ a w, AS C σ a w → (∀ kv ∈ gr, σ kv.1 = kv.2) → Region.wanted o (yielded ops a.tmps) = true) ∨
    (∃ gr, skip gr ∧ Rd L gr ∧ ∀ C σ a w, AS C σ a w → (∀ kv ∈ gr, σ kv.1 = kv.2) → Region.wanted o (yielded ops a.tmps) = false) := by
  unfold gd at h
  split at h
  · rename_i hg
    exact .inl ⟨[], h, Rd.nil, fun C σ a w _ _ => by simp [Region.wanted, hg]⟩
  · rename_i j want hg
    obtain ⟨d, hd, h⟩ := ob_ok h
    obtain ⟨x, hL, h⟩ := kva_ok h
    rcases gav_ok h with ⟨b, rfl, h⟩ | ⟨rfl, h⟩
    · have key : ∀ C σ a w, AS C σ a w → (∀ kv ∈ [((.tmp d : Key), KV.av (.c [] (.v (.bool b))))], σ kv.1 = kv.2) → yielded ops a.tmps j = some b := by
        intro C σ a w ⟨G, hA⟩ hr
        obtain ⟨v, h1, h2⟩ := hA.tmp d _ (hr (.tmp d, .av (.c [] (.v (.bool b)))) (by simp))
        have := (h2.rep (fun z hz => absurd hz (by simp))).raw
        subst this
        unfold yielded
        rw [hd]
        simp [h1]
      by_cases e : b = want
      · exact .inl ⟨_, h.1 e, Rd.cons hL Rd.nil, fun C σ a w hA hr => by simp [Region.wanted, hg, key C σ a w hA hr, e]⟩
      · exact .inr ⟨_, h.2 e, Rd.cons hL Rd.nil, fun C σ a w hA hr => by simp [Region.wanted, hg, key C σ a w hA hr, e]⟩
    · have key : ∀ C σ a w, AS C σ a w → (∀ kv ∈ [((.tmp d : Key), KV.av (.c [] (.v undef)))], σ kv.1 = kv.2) → yielded ops a.tmps j = none := by
        intro C σ a w ⟨G, hA⟩ hr
        obtain ⟨v, h1, h2⟩ := hA.tmp d _ (hr (.tmp d, .av (.c [] (.v undef))) (by simp))
        have := (h2.rep (fun z hz => absurd hz (by simp))).raw
        subst this
        unfold yielded
        rw [hd]
        simp [h1, undef]
      exact .inr ⟨_, h, Rd.cons hL Rd.nil, fun C σ a w hA hr => by simp [Region.wanted, hg, key C σ a w hA hr]⟩
theorem arun_nil (T : Tab P) (N : Nat) (pz : List Nat) (ops : Array Oper) (z : Nat) (L : Row) (ks : List (List Key × List Key)) (k : List (List Key × List Key) → Row → Prop) : arun T N pz ops z [] L ks k = k ks L := rfl
theorem valid_run {ops : Array Oper} {i : Nat} {o : Oper} {gr : Row} {tr : Trc} (ho : ops[i]? = some o) (hw : ∀ C σ a w, AS C σ a w → (∀ kv ∈ gr, σ kv.1 = kv.2) → Region.wanted o (yielded ops a.tmps) = true) (h : OpOk P C o tr) : Valid P C r ops Q i ⟨gr ++ tr.reads, tr.writes⟩ := by
  intro σ a w K hA hr hK
  have h1 := hw C σ a w hA fun kv hkv => hr kv (List.mem_append_left _ hkv)
  unfold wpOpIn
  simp only [ho, h1, if_true]
  exact (h σ a w K hA (fun kv hkv => hr kv (List.mem_append_right _ hkv)) hK).wpIn
theorem valid_skip {ops : Array Oper} {i : Nat} {o : Oper} {gr : Row} (ho : ops[i]? = some o) (hd : dok C.N o = true) (hw : ∀ C σ a w, AS C σ a w → (∀ kv ∈ gr, σ kv.1 = kv.2) → Region.wanted o (yielded ops a.tmps) = false) : Valid P C r ops Q i ⟨gr, wr o.dst (.c [] (.v undef))⟩ := by
  intro σ a w K hA hr hK
  have h1 := hw C σ a w hA hr
  unfold wpOpIn
  simp only [ho, h1, Bool.false_eq_true, if_false]
  obtain ⟨G, hA⟩ := hA
  exact ⟨fun f _ => trivial, hK _ _ ⟨G, hA.put (dok_ok hd) (rep_raw undef)⟩⟩
def runs (σ : St) (trs : List Trc) : St := trs.foldl (fun σ t => ovr σ t.writes) σ
theorem runs_take (σ : St) (trs : List Trc) : ∀ i, i ≤ trs.length → stf σ (fun j => (trs.getD j ⟨[], []⟩).writes) (fun _ => true) i = runs σ (trs.take i)
  | 0, _ => rfl
  | i + 1, h => by
    unfold stf
    rw [if_pos rfl, runs_take σ trs i (by omega)]
    have e := List.take_succ_eq_append_getElem (show i < trs.length by omega)
    rw [e]
    simp only [runs, List.foldl_append, List.foldl_cons, List.foldl_nil, List.getD, List.getElem?_eq_getElem (show i < trs.length by omega), Option.getD_some]
theorem arun_ok {ops : Array Oper} : ∀ (todo done : List Oper) (z : Nat) (L : Row) (ks : List (List Key × List Key)) (k : List (List Key × List Key) → Row → Prop), ops.toList = done ++ todo → arun T C.N C.pz ops z todo L ks k → (∀ p ∈ C.pz, p < z) →
    ∃ (trs : List Trc) (L' : Row), k (ks ++ trs.map fun t => (t.reads.map (·.1), t.writes.map (·.1))) L' ∧ trs.length = todo.length ∧ (∀ (i : Nat) (t : Trc), trs[i]? = some t → Valid P C r ops Q (done.length + i) t) ∧
      (∀ (i : Nat) (t : Trc), trs[i]? = some t → Rd (runs (lk L) (trs.take i)) t.reads) ∧ lk L' = runs (lk L) trs
  | [], done, z, L, ks, k, he, h, z0 => ⟨[], L, by simpa [arun] using h, rfl, fun i t ht => by simp at ht, fun i t ht => by simp at ht, rfl⟩
  | o :: todo, done, z, L, ks, k, he, h, z0 => by
    obtain ⟨hd, hg⟩ := h
    have ho : ops[done.length]? = some o := by
      rw [← Array.getElem?_toList, he]
      simp
    have he' : ops.toList = (done ++ [o]) ++ todo := by rw [he]; simp
    have fin : ∀ (t : Trc), Valid P C r ops Q done.length t → Rd (lk L) t.reads → arun T C.N C.pz ops (z + 1) todo (puts L t.writes) (ks ++ [(t.reads.map (·.1), t.writes.map (·.1))]) k →
        ∃ (trs : List Trc) (L' : Row), k (ks ++ trs.map fun t => (t.reads.map (·.1), t.writes.map (·.1))) L' ∧ trs.length = (o :: todo).length ∧ (∀ (i : Nat) (t : Trc), trs[i]? = some t → Valid P C r ops Q (done.length + i) t) ∧
          (∀ (i : Nat) (t : Trc), trs[i]? = some t → Rd (runs (lk L) (trs.take i)) t.reads) ∧ lk L' = runs (lk L) trs := by
      intro t hv hr h
      obtain ⟨trs, L', h1, h2, h3, h4, h5⟩ := arun_ok todo (done ++ [o]) (z + 1) _ _ k he' h (fun p hp => by have := z0 p hp; omega)
      refine ⟨t :: trs, L', by simpa using h1, by simp [h2], fun i t' ht => ?_, fun i t' ht => ?_, ?_⟩
      · cases i with
        | zero => simp only [List.getElem?_cons_zero, Option.some.injEq] at ht; subst ht; exact hv
        | succ i =>
          have := h3 i t' (by simpa using ht)
          rwa [show (done ++ [o]).length + i = done.length + (i + 1) by simp; omega] at this
      · cases i with
        | zero => simp only [List.getElem?_cons_zero, Option.some.injEq] at ht; subst ht; exact hr
        | succ i =>
          have := h4 i t' (by simpa using ht)
          rw [lk_puts] at this
          exact this
      · rw [h5, lk_puts]; rfl
    rcases gd_ok hg with ⟨gr, h, hrd, hw⟩ | ⟨gr, h, hrd, hw⟩
    · obtain ⟨tr, h, hrd2, hok⟩ := astep_ok z0 hd h
      exact fin ⟨gr ++ tr.reads, tr.writes⟩ (valid_run ho hw hok) (Rd.app hrd hrd2) h
    · exact fin ⟨gr, wr o.dst (.c [] (.v undef))⟩ (valid_skip ho hd hw) hrd h
theorem region_rule {id : Nat} {ops : Array Oper} {draw : Bool} {L : Row} {a : Act} {w : World} (hm : P.follows .mixedOrders = true) (base : Nat) (hb : ∀ p ∈ C.pz, p < base) (h : AS C (lk L) a w)
    (hrun : arun T C.N C.pz ops base ops.toList L [] fun ks L' => (draw = true → edgesOk ops = true ∧ ordOk ops ks = true) ∧ ∀ a' w', AS C (lk L') a' w' → Q .normal a' w') : (Code.region id ops draw).wpIn (Fr r) 10 P Q a w := by
  obtain ⟨trs, L', ⟨hc, hk⟩, h2, h3, h4, h5⟩ := arun_ok (r := r) (Q := Q) ops.toList [] base L [] _ rfl hrun hb
  have hn : trs.length = ops.size := by simpa using h2
  have hv : ∀ i, i < ops.size → Valid P C r ops Q i (trs.getD i ⟨[], []⟩) := fun i hi => by
    have := h3 i (trs.getD i ⟨[], []⟩) (by simp [List.getD, List.getElem?_eq_getElem (show i < trs.length by omega)])
    simpa using this
  have hr : ∀ i, i < ops.size → ∀ kv ∈ (trs.getD i ⟨[], []⟩).reads, stf (lk L) (fun j => (trs.getD j ⟨[], []⟩).writes) (fun _ => true) i kv.1 = kv.2 := fun i hi => by
    rw [runs_take _ _ _ (by omega)]
    exact h4 i (trs.getD i ⟨[], []⟩) (by simp [List.getD, List.getElem?_eq_getElem (show i < trs.length by omega)])
  have hend : stf (lk L) (fun j => (trs.getD j ⟨[], []⟩).writes) (fun _ => true) ops.size = lk L' := by
    rw [runs_take _ _ _ (by omega), ← hn, List.take_length, h5]
  cases draw with
  | false => exact region_text (tr := fun j => trs.getD j ⟨[], []⟩) hv hr h (fun a' w' h' => hk a' w' (by rw [← hend]; exact h'))
  | true =>
    obtain ⟨e1, e2⟩ := hc rfl
    refine region_drawn (tr := fun j => trs.getD j ⟨[], []⟩) hm e1 _ ?_ e2 hv hr h (fun a' w' h' => hk a' w' (by rw [← hend]; exact h'))
    apply List.ext_getElem?
    intro i
    by_cases hi : i < ops.size
    · simp [hi, hn, List.getD, List.getElem?_eq_getElem (show i < trs.length by omega)]
    · simp [List.getElem?_eq_none (show trs.length ≤ i by omega), hi]
end

section
variable {P : Program} {C : Cx} {r : Option Nat} {Q : Exit → Act → World → Prop} {T : Tab P} {L : Row} {c x y : Code}
def AW (P : Program) (C : Cx) (r : Option Nat) (c : Code) (Q : Exit → Act → World → Prop) (L : Row) : Prop := ∀ a w, AS C (lk L) a w → c.wpIn (Fr r) 10 P Q a w
def NX (C : Cx) (Q : Exit → Act → World → Prop) (e : Exit) (L : Row) : Prop := ∀ a w, AS C (lk L) a w → Q e a w
theorem AW.region {id : Nat} {ops : Array Oper} {draw : Bool} (hm : P.follows .mixedOrders = true) (base : Nat) (hb : ∀ p ∈ C.pz, p < base) (h : arun T C.N C.pz ops base ops.toList L [] fun ks L' => (draw = true → edgesOk ops = true ∧ ordOk ops ks = true) ∧ NX C Q .normal L') : AW P C r (.region id ops draw) Q L :=
  fun _ _ hA => region_rule hm base hb hA h
theorem AW.seq (h : AW P C r x (Exit.then (y.wpIn (Fr r) 10 P Q) Q) L) : AW P C r (.seq x y) Q L := fun a w hA => wpIn_seq (h a w hA)
theorem NX.then (h : AW P C r y Q L) : NX C (Exit.then (y.wpIn (Fr r) 10 P Q) Q) .normal L := h
theorem NX.ret {K : Act → World → Prop} (h : NX C Q .ret L) : NX C (Exit.then K Q) .ret L := h
theorem NX.exit {K : Act → World → Prop} {i : Nat} (h : NX C Q (.exit i) L) : NX C (Exit.then K Q) (.exit i) L := h
theorem NX.inRet {i : Nat} (h : NX C Q .ret L) : NX C (Exit.inBlock i Q) .ret L := h
theorem NX.inNormal {i : Nat} (h : NX C Q .normal L) : NX C (Exit.inBlock i Q) .normal L := h
theorem NX.inExit {i : Nat} (h : NX C Q .normal L) : NX C (Exit.inBlock i Q) (.exit i) L := fun a w hA => by simp only [Exit.inBlock, if_pos]; exact h a w hA
theorem NX.outExit {i j : Nat} (e : j ≠ i) (h : NX C Q (.exit j) L) : NX C (Exit.inBlock i Q) (.exit j) L := fun a w hA => by simp only [Exit.inBlock, if_neg e]; exact h a w hA
theorem AW.skip (h : NX C Q .normal L) : AW P C r .skip Q L := fun a w hA => wpIn_skip (h a w hA)
theorem AW.label {l : Nat} (h : NX C Q .normal L) : AW P C r (.label l) Q L := fun a w hA => wpIn_label (h a w hA)
theorem AW.exit {i : Nat} (h : NX C Q (.exit i) L) : AW P C r (.exit i) Q L := fun a w hA => wpIn_exit (h a w hA)
theorem AW.ret (h : NX C Q .ret L) : AW P C r .ret Q L := fun a w hA => wpIn_ret (h a w hA)
theorem AW.block {i : Nat} (h : AW P C r c (Exit.inBlock i Q) L) : AW P C r (.block i c) Q L := fun a w hA => wpIn_block (h a w hA)
theorem AW.cond {o : Operand} {rr : Row} {t : Bool} (ho : opr (lk L) o = some (rr, .bool t)) (h1 : t = true → AW P C r x Q L) (h2 : t = false → AW P C r y Q L) : AW P C r (.cond o x y) Q L := fun a w hA => by
  obtain ⟨G, hG⟩ := hA
  have e := opr_ok ho hG (opr_rd ho)
  exact wpIn_cond_split e (fun ht => h1 ht a w ⟨G, hG⟩) (fun ht => h2 ht a w ⟨G, hG⟩)
theorem AW.loop {X : Type} (Lx : X → Row) (m : X → Nat) (x0 : X) (h0 : ∀ a w, AS C (lk L) a w → AS C (lk (Lx x0)) a w)
    (round : ∀ x, AW P C r c (Exit.then (fun a w => ∃ x', m x' < m x ∧ AS C (lk (Lx x')) a w) Q) (Lx x)) : AW P C r (.loop c) Q L := fun a w hA => by
  refine wpIn_loop_ghost (fun n a w => ∃ x, m x = n ∧ AS C (lk (Lx x)) a w) (m x0) ⟨x0, rfl, h0 a w hA⟩ ?_
  rintro n a w ⟨x, rfl, hx⟩
  refine wpIn_mono (round x a w hx) ?_
  intro e a' w' hq
  cases e with
  | normal => obtain ⟨x', h1, h2⟩ := hq; exact ⟨m x', h1, x', rfl, h2⟩
  | _ => exact hq
theorem NX.round {X : Type} {Lx : X → Row} {m : X → Nat} {x : X} (x' : X) (hm : m x' < m x) (h : ∀ a w, AS C (lk L) a w → AS C (lk (Lx x')) a w) : NX C (Exit.then (fun a w => ∃ x', m x' < m x ∧ AS C (lk (Lx x')) a w) Q) .normal L :=
  fun a w hA => ⟨x', hm, h a w hA⟩
def Chk (draw : Bool) (ops : Array Oper) (ks : List (List Key × List Key)) : Prop := draw = true → edgesOk ops = true ∧ ordOk ops ks = true
theorem chk_text (ops : Array Oper) (ks : List (List Key × List Key)) : Chk false ops ks := fun h => by cases h
theorem chk_drawn {ops : Array Oper} {ks : List (List Key × List Key)} (h1 : edgesOk ops = true) (h2 : ordOk ops ks = true) : Chk true ops ks := fun _ => ⟨h1, h2⟩
theorem AW.re {id : Nat} {ops : Array Oper} {draw : Bool} {N : Nat} {pz : List Nat} (T : Tab P) (hm : P.follows .mixedOrders = true) (hN : C.N = N) (hP : C.pz = pz) (base : Nat) (hb : (pz.all fun p => decide (p < base)) = true) (h : ∀ K : Row → Prop, Hid (∀ L', NX C Q .normal L' → K L') → arun T N pz ops base ops.toList L [] fun ks L' => Chk draw ops ks ∧ K L') : AW P C r (.region id ops draw) Q L :=
  AW.region hm base (by rw [hP]; simpa using hb) (by rw [hN, hP]; exact h (fun L' => NX C Q .normal L') (fun _ h => h))
def keepT (n : Nat) : Row → Row
  | [] => []
  | (.tmp t, v) :: L => if t < n then (.tmp t, v) :: keepT n L else keepT n L
  | kv :: L => kv :: keepT n L
theorem keepT_lk (n : Nat) : ∀ (L : Row) (k : Key), lk (keepT n L) k = lk L k ∨ ∃ t, k = .tmp t ∧ lk (keepT n L) k = .unk
  | [], k => .inl rfl
  | (.tmp t, v) :: L, k => by
    unfold keepT
    by_cases h : t < n
    · rw [if_pos h]
      by_cases e : Key.tmp t = k
      · left; simp [lk, e]
      · rcases keepT_lk n L k with h' | ⟨t', h1, h2⟩
        · left; simp [lk, e, h']
        · right; exact ⟨t', h1, by simp [lk, e, h2]⟩
    · rw [if_neg h]
      by_cases e : Key.tmp t = k
      · right
        refine ⟨t, e.symm, ?_⟩
        subst e
        have : ∀ L : Row, lk (keepT n L) (.tmp t) = .unk := by
          intro L
          induction L with
          | nil => rfl
          | cons kv L ih =>
            obtain ⟨k, v⟩ := kv
            cases k with
            | tmp t' =>
              unfold keepT
              by_cases h' : t' < n
              · rw [if_pos h']
                have : ¬ (Key.tmp t' = Key.tmp t) := by simp; omega
                simp [lk, this, ih]
              · rw [if_neg h']; exact ih
            | cell _ _ => simp [keepT, lk, ih]
            | zn _ => simp [keepT, lk, ih]
            | vt _ _ => simp [keepT, lk, ih]
            | hd _ => simp [keepT, lk, ih]
            | df => simp [keepT, lk, ih]
            | nm _ => simp [keepT, lk, ih]
            | sz _ => simp [keepT, lk, ih]
        exact this L
      · rcases keepT_lk n L k with h' | h'
        · left; simp [lk, e, h']
        · right; exact h'
  | (.vt a b, v) :: L, k => by
    by_cases e : Key.vt a b = k
    · left; simp [keepT, lk, e]
    · rcases keepT_lk n L k with h' | ⟨t', h1, h2⟩
      · left; simp [keepT, lk, e, h']
      · right; exact ⟨t', h1, by simp [keepT, lk, e, h2]⟩
  | (.hd a, v) :: L, k => by
    by_cases e : Key.hd a = k
    · left; simp [keepT, lk, e]
    · rcases keepT_lk n L k with h' | ⟨t', h1, h2⟩
      · left; simp [keepT, lk, e, h']
      · right; exact ⟨t', h1, by simp [keepT, lk, e, h2]⟩
  | (.df, v) :: L, k => by
    by_cases e : Key.df = k
    · left; simp [keepT, lk, e]
    · rcases keepT_lk n L k with h' | ⟨t', h1, h2⟩
      · left; simp [keepT, lk, e, h']
      · right; exact ⟨t', h1, by simp [keepT, lk, e, h2]⟩
  | (.cell a b, v) :: L, k => by
    by_cases e : Key.cell a b = k
    · left; simp [keepT, lk, e]
    · rcases keepT_lk n L k with h' | ⟨t', h1, h2⟩
      · left; simp [keepT, lk, e, h']
      · right; exact ⟨t', h1, by simp [keepT, lk, e, h2]⟩
  | (.zn a, v) :: L, k => by
    by_cases e : Key.zn a = k
    · left; simp [keepT, lk, e]
    · rcases keepT_lk n L k with h' | ⟨t', h1, h2⟩
      · left; simp [keepT, lk, e, h']
      · right; exact ⟨t', h1, by simp [keepT, lk, e, h2]⟩
  | (.sz a, v) :: L, k => by
    by_cases e : Key.sz a = k
    · left; simp [keepT, lk, e]
    · rcases keepT_lk n L k with h' | ⟨t', h1, h2⟩
      · left; simp [keepT, lk, e, h']
      · right; exact ⟨t', h1, by simp [keepT, lk, e, h2]⟩
  | (.nm a, v) :: L, k => by
    by_cases e : Key.nm a = k
    · left; simp [keepT, lk, e]
    · rcases keepT_lk n L k with h' | ⟨t', h1, h2⟩
      · left; simp [keepT, lk, e, h']
      · right; exact ⟨t', h1, by simp [keepT, lk, e, h2]⟩
theorem AW.keep (n : Nat) (h : ∀ L', keepT n L = L' → AW P C r x Q L') : AW P C r x Q L := fun a w hA => h _ rfl a w (hA.less fun k => by
  rcases keepT_lk n L k with h | ⟨t, rfl, h⟩
  · exact .inl h
  · exact .inr (.inl ⟨.inl ⟨t, rfl⟩, h⟩))
theorem AW.at_ (h : ∀ L', L = L' → AW P C r x Q L') : AW P C r x Q L := h L rfl
theorem AW.ct {o : Operand} {rr : Row} (ho : opr (lk L) o = some (rr, .bool true)) (h : AW P C r x Q L) : AW P C r (.cond o x y) Q L := AW.cond ho (fun _ => h) (fun e => by cases e)
theorem AW.cf {o : Operand} {rr : Row} (ho : opr (lk L) o = some (rr, .bool false)) (h : AW P C r y Q L) : AW P C r (.cond o x y) Q L := AW.cond ho (fun e => by cases e) (fun _ => h)
theorem AW.view {L' : Row} (h : ∀ a w, AS C (lk L) a w → AS C (lk L') a w) (k : AW P C r x Q L') : AW P C r x Q L := fun a w hA => k a w (h a w hA)
theorem NX.view {e : Exit} {L' : Row} (h : ∀ a w, AS C (lk L) a w → AS C (lk L') a w) (k : NX C Q e L') : NX C Q e L := fun a w hA => k a w (h a w hA)

def argRows : Nat → List DV → Row
  | _, [] => []
  | i, d :: ds => (.tmp i, .av (atz [0] d)) :: argRows (i + 1) ds
theorem lk_args : ∀ (ds : List DV) (i t : Nat) (r : Row), lk (argRows i ds ++ r) (.tmp t) = if i ≤ t ∧ t < i + ds.length then (match ds[t - i]? with | some d => .av (atz [0] d) | none => .unk) else lk r (.tmp t)
  | [], i, t, r => by rw [if_neg (by simp)]; rfl
  | d :: ds, i, t, r => by
    simp only [argRows, List.cons_append, lk, Key.tmp.injEq]
    by_cases h : i = t
    · subst h; simp
    · rw [if_neg h, lk_args ds (i + 1) t r]
      by_cases h2 : i + 1 ≤ t ∧ t < i + 1 + ds.length
      · rw [if_pos h2, if_pos (by simp; omega), show t - i = (t - (i + 1)) + 1 by omega]
        simp
      · rw [if_neg h2, if_neg (by simp; omega)]
theorem lk_args_ne : ∀ (ds : List DV) (i : Nat) (r : Row) {k : Key}, (∀ t, k ≠ .tmp t) → lk (argRows i ds ++ r) k = lk r k
  | [], i, r, k, h => rfl
  | d :: ds, i, r, k, h => by
    simp only [argRows, List.cons_append, lk]
    rw [if_neg (fun e => h i e.symm)]
    exact lk_args_ne ds (i + 1) r h
def cx (W0 : World) (N : Nat) (Z : Zone) : Cx := ⟨W0, fun k => k < W0.heap.size, N, fun _ _ => undef, fun _ g => Z g ∧ g < W0.heap.size, [0], [], fun _ h => h⟩
theorem start_ok {Z : Zone} {w : World} {vs : Array Value} {args : List DV} {N : Nat} (h : Reps Z w vs args) (hargs : args.length ≤ N) :
    AS (cx w N Z) (lk (argRows 0 args ++ [(.zn 0, .zn .live)])) { tmps := vs ++ Array.replicate (N - vs.size) undef, defers := [] } w := by
  obtain ⟨hs, hv⟩ := h
  refine ⟨⟨fun _ => 0, fun z g => z = 0 ∧ Z g ∧ g < w.heap.size, fun _ => undef, fun _ => 0⟩, Keeps.refl _ _, ⟨0, ?_, rfl, fun i hi => by omega, fun i j hi => by omega⟩, ?_, fun t x e => ?_, fun i t x e => ?_, fun n k x e => ?_, fun n e => ?_, fun n m e => ?_, fun z g hl hz => ?_, fun z g h0 hl hz => absurd hz.1 (by simpa [cx] using h0), fun y z g hne hy hz h1 h2 => hne (h1.1.trans h2.1.symm), fun h E sz y zs rows e => ?_, fun z hz _ g => by
    have : z = 0 := by simpa [cx] using hz
    subst this
    simp [cx], fun p hp => by simp [cx] at hp, fun n e => ?_⟩
  · rw [lk_args_ne _ _ _ (by simp)]; rfl
  · show _ = N
    simp; omega
  · rw [lk_args] at e
    simp only [Nat.zero_le, true_and, Nat.zero_add, Nat.sub_zero] at e
    split at e
    · rename_i ht
      rw [List.getElem?_eq_getElem ht] at e
      simp only [KV.av.injEq] at e
      subst e
      have hlt : t < vs.size := by omega
      refine ⟨vs.getD t undef, ?_, atz_rep (fun z hz => ?_) ((hv t _ (List.getElem?_eq_getElem ht)).evo fun g hg hlt => ⟨⟨0, by simp, rfl, hg, hlt⟩, rfl⟩)⟩
      · simp only [Array.getElem?_append, hlt, if_true, Array.getD_eq_getD_getElem?]
        simp [hlt]
      · simp at hz; subst hz
        unfold Uz; rw [lk_args_ne _ _ _ (by simp)]; simp [lk]
    · simp [lk, dflt] at e
  · rw [lk_args_ne _ _ _ (by simp)] at e; simp [lk, dflt] at e
  · rw [lk_args_ne _ _ _ (by simp)] at e; simp [lk, dflt] at e
  · unfold Nm at e; rw [lk_args_ne _ _ _ (by simp)] at e; simp [lk, dflt] at e
  · unfold Nm at e; rw [lk_args_ne _ _ _ (by simp)] at e; simp [lk, dflt] at e
  · refine ⟨hz.2.2, fun n e => ?_⟩
    unfold Nm at e; rw [lk_args_ne _ _ _ (by simp)] at e; simp [lk, dflt] at e
  · rw [lk_args_ne _ _ _ (by simp)] at e; simp [lk, dflt] at e
  · unfold Nm at e; rw [lk_args_ne _ _ _ (by simp)] at e; simp [lk, dflt] at e
theorem calls_of_aw {f : FuncId} {fn : Func} {args : Array Value} {w : World} {R : Ending → World → Prop} (hf : P.funcs[f]? = some fn) (hb : fn.body = some c)
    (h : c.wpIn (Fr none) 10 P (bodyPostM Fence.wide 10 P fn R) { tmps := args ++ Array.replicate (fn.ntmps - args.size) undef, defers := [] } w) : Calls P f args w R :=
  (callsIn_wide (n := 10)).1 (callsIn_of_wp_marks hf hb trivial h rfl)
theorem ct_intro {f : FuncId} {fn : Func} {args : List DV} {app : Option TypeId} {res : Res} (hf : P.funcs[f]? = some fn) (hb : fn.body = some c) {N : Nat} (hn : fn.ntmps = N) (hargs : args.length ≤ N)
    (h : ∀ W0 Z, AW P (cx W0 N Z) none c (bodyPostM Fence.wide 10 P fn (CtR W0 app res)) (argRows 0 args ++ [(.zn 0, .zn .live)])) : Ct P f args app res := by
  intro Z w vs hr
  refine calls_of_aw hf hb (h w Z _ w ?_)
  rw [hn]
  exact start_ok hr hargs
theorem ca_intro {f : FuncId} {fn : Func} {args : List DV} {res : Res} (hf : P.funcs[f]? = some fn) (hb : fn.body = some c) {N : Nat} (hn : fn.ntmps = N) (hargs : args.length ≤ N)
    (h : ∀ W0 Z, AW P (cx W0 N Z) none c (bodyPostM Fence.wide 10 P fn fun e w' => ∃ (v : Value) (Zn : Zone), e = .returned v ∧ Below W0.heap.size W0 w' ∧ (∀ g, Zn g → W0.heap.size ≤ g ∧ Soft w' g) ∧ RepR (fun g => Z g ∨ Zn g) w' v res) (argRows 0 args ++ [(.zn 0, .zn .live)])) : Ca P f args res := by
  intro Z w vs hr
  refine calls_of_aw hf hb (h w Z _ w ?_)
  rw [hn]
  exact start_ok hr hargs
theorem ASG.unmark {G : Gh} {σ : St} {a : Act} {w : World} {k : Nat} (h : ASG C G σ a w) (e : σ .df = .df (k + 1)) (hob : ∀ p ∈ C.ob, p.1 ≠ G.δ k) : ∃ w1, (Instr.takeDeferred (G.δ k)).run P w = .ok [] w1 ∧ a.defers = { target := .collected (G.δ k), args := #[] } :: marks G k ∧
    ASG C G (ovr σ [(.df, .df k)]) { a with defers := marks G k } w1 := by
  obtain ⟨k', d1, d2⟩ := h.df
  rw [e] at d1; cases d1
  have m := d2.ok k (by omega)
  refine ⟨_, run_takeDeferred m.obj, d2.eq, ?_⟩
  obtain ⟨w1, hw1⟩ : ∃ w1, w1 = w.putObj (G.δ k) (.deferred none) := ⟨_, rfl⟩
  rw [← hw1]
  have blk : ∀ g, g ≠ G.δ k → w1.heap[g]? = w.heap[g]? := fun g hg => by rw [hw1]; exact World.putObj_heap_other (fun e => hg e)
  have hs : w1.heap.size = w.heap.size := by rw [hw1]; simp
  obtain ⟨σ', hσ⟩ : ∃ σ', σ' = ovr σ [(.df, .df k)] := ⟨_, rfl⟩
  rw [← hσ]
  have ko : ∀ kk, kk ≠ .df → σ' kk = σ kk := fun kk e => by rw [hσ]; exact ovr_one_ne _ _ _ e
  have kd : σ' .df = .df k := by rw [hσ]; exact ovr_one _ _ _
  have lv : ∀ z, Lv σ' z ↔ Lv σ z := fun z => by unfold Lv; rw [ko _ (by simp)]
  have nm : ∀ m, Nm σ' m ↔ Nm σ m := fun m => by unfold Nm; rw [ko _ (by simp)]
  have ev : Evo G G σ σ' w w1 := by
    refine ⟨fun y hy => ?_, fun y hy => ?_, fun m hm => ⟨(nm m).2 hm, rfl⟩, fun y _ hl => ⟨(lv y).1 hl, rfl, fun g hg => blk g (by rintro rfl; exact m.nz y ((lv y).1 hl) hg)⟩, fun y hy hl => ⟨?_, rfl⟩⟩
    · unfold Uz; rw [ko _ (by simp)]; exact hy
    · unfold Uh; rw [ko _ (by simp)]; exact hy
    · unfold Lh at hl ⊢; rw [ko _ (by simp)] at hl; exact hl
  refine ⟨⟨?_, ?_, ?_, by rw [hs]; exact h.fr.size, fun i hi hb => ?_⟩, ⟨k, kd, rfl, fun i hi => ?_, fun i j hi hj => d2.inj i j (by omega) (by omega)⟩, h.sz, fun t x e => ?_, fun i t x e => ?_, fun n j x e => ?_, fun m' hm => ⟨(h.nm m' ((nm m').1 hm)).1, by rw [hs]; exact (h.nm m' ((nm m').1 hm)).2⟩, fun n m hn hm e => h.inj n m ((nm n).1 hn) ((nm m).1 hm) e,
    fun y g hl hg => ?_, fun y g h0 hl hg => ?_, fun y1 y2 g hne hy1 hy2 h1 h2 => h.disj y1 y2 g hne ((lv y1).1 hy1) ((lv y2).1 hy2) h1 h2, fun h' E' sz' y' zs' rows' e => ?_, fun y hy hl => h.zz y hy ((lv y).1 hl), fun p hp => ?_, fun n hn => ((h.sf n ((nm n).1 hn)).of_eq (blk _ (m.nn n ((nm n).1 hn)))).of_ko (ko _ (by simp))⟩
  · rw [hw1]; exact h.fr.os
  · rw [hw1]; exact h.fr.tape
  · rw [hw1]; exact h.fr.output
  · exact (blk i (by rintro rfl; exact m.nb hb)).trans (h.fr.block i hi hb)
  · have q := d2.ok i (by omega)
    exact ⟨(blk _ (fun e => by have := d2.inj i k (by omega) (by omega) e; omega)).trans q.obj, q.nb, fun n hn => q.nn n ((nm n).1 hn), fun z hz => q.nz z ((lv z).1 hz)⟩
  · rw [ko _ (by simp)] at e
    obtain ⟨v, a, b⟩ := h.tmp t x e; exact ⟨v, a, b.evo ev⟩
  · rw [ko _ (by simp)] at e
    exact (h.vt i t x e).evo ev
  · rw [ko _ (by simp)] at e
    obtain ⟨a, v, b, c, d⟩ := h.cell n j x e
    have eb := blk _ (m.nn n a)
    exact ⟨(nm n).2 a, v, (World.cell?_of_block (w := w) (a := ⟨G.ρ n, j, none⟩) eb).trans b, (World.frozen?_of_block (w := w) (a := ⟨G.ρ n, j, none⟩) eb).trans c, d.evo ev⟩
  · obtain ⟨a, b⟩ := h.sep y g ((lv y).1 hl) hg
    exact ⟨by rw [hs]; exact a, fun n hn => b n ((nm n).1 hn)⟩
  · obtain ⟨a1, a2⟩ := h.new y g h0 ((lv y).1 hl) hg
    exact ⟨a1, a2.of_eq (blk g (by rintro rfl; exact m.nz y ((lv y).1 hl) hg))⟩
  · rw [ko _ (by simp)] at e
    exact (h.hd h' _ _ _ _ _ e).evo ev rfl
  · have q := h.ob p hp
    refine ⟨(blk _ (fun e => hob p hp e)).trans q.obj, q.nb, fun n hn => q.nn n ((nm n).1 hn), fun z hz => q.nz z ((lv z).1 hz)⟩
theorem leave_ok {fn : Func} {R : Ending → World → Prop} (hO : C.ob = []) : ∀ (k : Nat) (G : Gh) (σ : St) (a : Act) (w : World), ASG C G σ a w → σ .df = .df k →
    (∀ σ' a' w', ASG C G σ' a' w' → a'.tmps = a.tmps → (∀ key, key ≠ .df → σ' key = σ key) → ∃ v, (results fn a.tmps).run P w' = .ok v w' ∧ R (.returned v) w') → LeavesInM Fence.wide 10 P fn a.tmps R a.defers .returning w
  | 0, G, σ, a, w, h, e, hk => by
    obtain ⟨k', d1, d2⟩ := h.df
    rw [e] at d1; cases d1
    rw [d2.eq]
    exact hk σ a w h rfl (fun _ _ => rfl)
  | k + 1, G, σ, a, w, h, e, hk => by
    obtain ⟨w1, h1, h2, h3⟩ := h.unmark (P := P) e (by rw [hO]; simp)
    rw [h2]
    refine ⟨by simp, .inl ⟨_, w1, rfl, h1, ?_⟩⟩
    have := leave_ok hO k G _ { a with defers := marks G k } w1 h3 (ovr_one _ _ _) (fun σ' a' w' h' et ek => hk σ' a' w' h' et fun key hkey => (ek key hkey).trans (ovr_one_ne _ _ _ hkey))
    exact this
def dvz (L : St) : AV → Option (List Nat × DV)
  | .agg cs => some (zsAll cs, .agg (cs.map (·.2.nrm)))
  | x => match hdd L x with
    | some (_, zs, d) => some (zs, .c d.nrm)
    | none => none
theorem dvz_ok {G : Gh} {σ : St} {a : Act} {w : World} {v : Value} {x : AV} {zs : List Nat} {d : DV} (h : dvz σ x = some (zs, d)) (hA : ASG C G σ a w) (hl : ∀ z ∈ zs, Lv σ z) (hx : Rep G σ w v x) : RepDV (G.zu zs) w v d := by
  have one : ∀ {x : AV}, (match hdd σ x with | some (_, zs, d) => some (zs, DV.c d.nrm) | none => none) = some (zs, d) → Rep G σ w v x → RepDV (G.zu zs) w v d := by
    intro x h hx
    split at h
    · rename_i r1 zs' d' h1
      simp only [Option.some.injEq, Prod.mk.injEq] at h
      obtain ⟨rfl, rfl⟩ := h
      exact ((hdd_ok h1 hA (hdd_rd h1) hx).2 hl).nrm
    · cases h
  cases x with
  | agg cs =>
    simp only [dvz, Option.some.injEq, Prod.mk.injEq] at h
    obtain ⟨rfl, rfl⟩ := h
    obtain ⟨vs, e, e2, k⟩ := hx.rep
    refine ⟨vs, e, by simp [e2], fun i x hi => ?_⟩
    rw [List.getElem?_map, Option.map_eq_some_iff] at hi
    obtain ⟨⟨zs, y⟩, hi, rfl⟩ := hi
    have hs : ∀ z ∈ zs, z ∈ zsAll cs := fun z hz => List.mem_flatMap.2 ⟨(zs, y), List.mem_of_getElem? hi, hz⟩
    exact ((k i zs y hi fun z hz => hl z (hs z hz)).nrm).mono fun g ⟨z, hz, hg⟩ => ⟨z, hs z hz, hg⟩
  | _ => exact one (by simpa only [dvz] using h) hx
def resOf (T : Tab P) (L : St) : ResultVar → Option (List Nat × DV)
  | .tmp t => match L (.tmp t) with
    | .av x => dvz L x
    | _ => none
  | .cell a t => match L (.tmp a), T.f t with
    | .av (.ptr n off), some ti => if ti.sh.agg then (match cells L n off ti.size with
        | some (_, ys) => some (zsAll ys, .agg (ys.map (·.2.nrm)))
        | none => none)
      else (match L (.cell n off) with
        | .av x => dvz L x
        | _ => none)
    | _, _ => none
def resL (T : Tab P) (L : St) : List ResultVar → Option (List Nat × List DV)
  | [] => some ([], [])
  | r :: rs => match resOf T L r, resL T L rs with
    | some (zs, d), some (zs', ds) => some (zs ++ zs', d :: ds)
    | _, _ => none
def resRun (a : Act) : ResultVar → Sem Value := fun r => match r with
  | .tmp t => pure (a.tmps.getD t undef)
  | .cell p t => do loadVar t (← asAddr (a.tmps.getD p undef))
theorem resOf_ok {G : Gh} {σ : St} {a : Act} {w : World} {r : ResultVar} {zs : List Nat} {d : DV} (h : resOf T σ r = some (zs, d)) (hl : ∀ z ∈ zs, Lv σ z) (hA : ASG C G σ a w) : ∃ v, (resRun a r).run P w = .ok v w ∧ RepDV (G.zu zs) w v d := by
  cases r with
  | tmp t =>
    simp only [resOf] at h
    split at h
    · rename_i x hx
      obtain ⟨v, h1, h2⟩ := hA.tmp t x hx
      refine ⟨v, ?_, dvz_ok h hA hl h2⟩
      simp [resRun, Array.getD_eq_getD_getElem?, h1]
    · cases h
  | cell p t =>
    simp only [resOf] at h
    split at h
    · rename_i n off ti hp ht
      obtain ⟨v, h1, h2⟩ := hA.tmp p _ hp
      have e : a.tmps.getD p undef = .pointer (some ⟨G.ρ n, off, none⟩) := by simp [Array.getD_eq_getD_getElem?, h1]; exact h2.rep
      split at h
      · rename_i hg
        split at h
        · rename_i r' ys hc
          simp only [Option.some.injEq, Prod.mk.injEq] at h
          obtain ⟨rfl, rfl⟩ := h
          obtain ⟨k1, k2⟩ := cells_ok hc hA (cells_rd hc)
          have hf : ∀ j, j < ti.size → ∃ v, w.cell? ⟨G.ρ n, off + j, none⟩ = some v ∧ ∀ zs x, ys[j]? = some (zs, x) → RepD (G.zu (zsAll ys)) w v x := by
            intro j hj
            obtain ⟨⟨zs, x⟩, hy⟩ : ∃ y, ys[j]? = some y := ⟨_, List.getElem?_eq_getElem (by omega)⟩
            obtain ⟨j1, v, j2, j3⟩ := k2 j zs x hy
            have hs : ∀ z ∈ zs, z ∈ zsAll ys := fun z hz => List.mem_flatMap.2 ⟨(zs, x), List.mem_of_getElem? hy, hz⟩
            refine ⟨v, j2, fun zs' x' h' => ?_⟩
            rw [hy] at h'
            cases h'
            exact (j3 fun z hz => hl z (hs z hz)).mono fun g ⟨z, hz, hg⟩ => ⟨z, hs z hz, hg⟩
          let f : Nat → Value := fun j => if h : j < ti.size then (hf j h).choose else undef
          have hf1 : ∀ j (h : j < ti.size), f j = (hf j h).choose := fun j h => dif_pos h
          have hrun := run_load_agg (w := w) ht hg (G.ρ n) off f (fun j hj => by rw [hf1 j hj]; exact (hf j hj).choose_spec.1)
          refine ⟨.agg ((List.range ti.size).map f).toArray, ?_, ((List.range ti.size).map f).toArray, rfl, by simp [k1], fun i x hi => ?_⟩
          · simp only [resRun, e, Sem.run_bind, asAddr, Sem.run_pure, Result.andThen_ok]
            simpa [Instr.loadAt, Instr.sureAddr] using hrun
          · rw [List.getElem?_map, Option.map_eq_some_iff] at hi
            obtain ⟨⟨zs, y⟩, hi, rfl⟩ := hi
            have hi' : i < ti.size := by rw [← k1]; exact (List.getElem?_eq_some_iff.1 hi).1
            have e2 : ((List.range ti.size).map f).toArray.getD i undef = f i := by simp [Array.getD_eq_getD_getElem?, hi']
            rw [e2, hf1 i hi']
            exact ((hf i hi').choose_spec.2 zs y hi).nrm
        · cases h
      · rename_i hg
        split at h
        · rename_i x hx
          obtain ⟨_, u, c1, _, c3⟩ := hA.cell n off x hx
          have hrun := run_load_word (w := w) ht (by simpa using hg) (G.ρ n) off u c1
          refine ⟨u, ?_, dvz_ok h hA hl c3⟩
          simp only [resRun, e, Sem.run_bind, asAddr, Sem.run_pure, Result.andThen_ok]
          simpa [Instr.loadAt, Instr.sureAddr] using hrun
        · cases h
    · cases h
theorem resL_ok {G : Gh} {σ : St} {a : Act} {w : World} (hA : ASG C G σ a w) : ∀ {rs : List ResultVar} {zs : List Nat} {ds : List DV}, resL T σ rs = some (zs, ds) → (∀ z ∈ zs, Lv σ z) →
    ∃ vs : List Value, (rs.mapM (resRun a)).run P w = .ok vs w ∧ vs.length = ds.length ∧ ∀ (i : Nat) (d : DV), ds[i]? = some d → RepDV (G.zu zs) w (vs.getD i undef) d
  | [], zs, ds, h, _ => by simp only [resL, Option.some.injEq, Prod.mk.injEq] at h; obtain ⟨_, rfl⟩ := h; exact ⟨[], by simp, rfl, fun i d hi => by simp at hi⟩
  | r :: rs, zs, ds, h, hl => by
    unfold resL at h
    split at h
    · rename_i z1 d z2 ds' h1 h2
      simp only [Option.some.injEq, Prod.mk.injEq] at h
      obtain ⟨rfl, rfl⟩ := h
      obtain ⟨v, k1, k2⟩ := resOf_ok h1 (fun z hz => hl z (List.mem_append_left _ hz)) hA
      obtain ⟨vs, k3, k4, k5⟩ := resL_ok hA h2 fun z hz => hl z (List.mem_append_right _ hz)
      have mono : ∀ {zs zs' : List Nat} {v : Value} {d : DV}, (∀ z ∈ zs, z ∈ zs') → RepDV (G.zu zs) w v d → RepDV (G.zu zs') w v d := fun hs h => h.mono fun g ⟨z, hz, hg⟩ => ⟨z, hs z hz, hg⟩
      refine ⟨v :: vs, by simp [List.mapM_cons, k1, k3], by simp [k4], fun i d' hi => ?_⟩
      cases i with
      | zero => simp only [List.getElem?_cons_zero, Option.some.injEq] at hi; subst hi; exact mono (fun z hz => List.mem_append_left _ hz) k2
      | succ i => exact mono (fun z hz => List.mem_append_right _ hz) (by simpa using k5 i d' (by simpa using hi))
    · cases h
def resMk : List DV → Res
  | [d] => .one d
  | ds => .tup ds
theorem results_run {fn : Func} {a : Act} {w : World} {vs : List Value} (h : (fn.results.toList.mapM (resRun a)).run P w = .ok vs w) : (results fn a.tmps).run P w = .ok (if h : vs.toArray.size = 1 then vs.toArray[0] else .tuple vs.toArray) w := by
  have e : (fn.results.mapM (resRun a)).run P w = .ok vs.toArray w := by
    rw [Array.mapM_eq_mapM_toList]
    simp [h]
  have e2 : results fn a.tmps = (fn.results.mapM (resRun a) >>= fun vs => pure (if h : vs.size = 1 then vs[0] else .tuple vs)) := by
    unfold results
    congr 1
  rw [e2, Sem.run_bind, e]
  rfl
theorem res_vals {fn : Func} {rs : List ResultVar} {zs : List Nat} {ds : List DV} {G : Gh} {σ : St} {a : Act} {w : World} (hrs : fn.results = rs.toArray) (hres : resL T σ rs = some (zs, ds)) (hl : ∀ z ∈ zs, Lv σ z) (hA : ASG C G σ a w) :
    ∃ v, (results fn a.tmps).run P w = .ok v w ∧ RepR (G.zu zs) w v (resMk ds) := by
  obtain ⟨vs, k1, k2, k3⟩ := resL_ok hA hres hl
  have hrun := results_run (fn := fn) (by rw [hrs]; exact k1)
  refine ⟨_, hrun, ?_⟩
  by_cases h1 : ds.length = 1
  · obtain ⟨d, rfl⟩ := List.length_eq_one_iff.1 h1
    obtain ⟨v, rfl⟩ := List.length_eq_one_iff.1 (k2.trans h1)
    exact k3 0 d rfl
  · have e1 : resMk ds = .tup ds := by
      cases ds with
      | nil => rfl
      | cons d ds => cases ds with
        | nil => exact absurd rfl h1
        | cons => rfl
    rw [e1, dif_neg (by simpa [k2] using h1)]
    refine ⟨vs.toArray, rfl, by simpa using k2, fun i d hi => ?_⟩
    have := k3 i d hi
    simpa [List.getD, Array.getD_eq_getD_getElem?] using this
theorem resOf_ne {σ σ' : St} (hk : ∀ key, key ≠ .df → σ' key = σ key) : ∀ rs : List ResultVar, resL T σ' rs = resL T σ rs := by
  have hh : ∀ x, hdd σ' x = hdd σ x := fun x => by
    cases x with
    | own h => simp only [hdd, hk (.hd h) (by simp)]
    | _ => rfl
  have hc : ∀ n c off, cells σ' n off c = cells σ n off c := fun n c => by
    induction c with
    | zero => intro off; rfl
    | succ c ih => intro off; simp only [cells, hk (.cell n off) (by simp), hh, ih]
  have hd : ∀ x, dvz σ' x = dvz σ x := fun x => by cases x <;> simp only [dvz, hh]
  have ho : ∀ r, resOf T σ' r = resOf T σ r := fun r => by
    cases r with
    | tmp t => simp only [resOf, hk (.tmp t) (by simp), hd]
    | cell p t =>
      simp only [resOf, hk (.tmp p) (by simp), hc, hd]
      have : ∀ n off, σ' (.cell n off) = σ (.cell n off) := fun n off => hk _ (by simp)
      simp only [this]
  intro rs
  induction rs with
  | nil => rfl
  | cons r rs ih => simp only [resL, ho, ih]
theorem nx_ret {fn : Func} {res : Res} {e : Exit} {rs : List ResultVar} {zs : List Nat} {ds : List DV} {rr : Row} {W0 : World} {Z : Zone} {N : Nat} (he : e = .normal ∨ e = .ret) (hrs : fn.results = rs.toArray) (hres : resL T (lk L) rs = some (zs, ds)) (hz : zr (lk L) zs = some rr) (h0 : ∀ z ∈ zs, z ≠ 0) (hd : resMk ds = res) : NX (cx W0 N Z) (bodyPostM Fence.wide 10 P fn (CtR W0 none res)) e L := by
  intro a w ⟨G, hA⟩
  have hl := zr_ok hz (zr_rd hz)
  obtain ⟨k, d1, _⟩ := hA.df
  have : LeavesInM Fence.wide 10 P fn a.tmps (CtR W0 none res) a.defers .returning w := by
    refine leave_ok rfl k G _ a w hA d1 fun σ' a' w' h' et ek => ?_
    have hl' : ∀ z ∈ zs, Lv σ' z := fun z hz => by have := hl z hz; unfold Lv at this ⊢; rw [ek _ (by simp)]; exact this
    obtain ⟨v, q1, q2⟩ := res_vals (T := T) (P := P) (fn := fn) hrs (by rw [resOf_ne ek]; exact hres) hl' h'
    rw [et] at q1
    refine ⟨v, q1, v, G.zu zs, rfl, ⟨h'.fr.os, h'.fr.tape, h'.fr.output, h'.fr.size, fun i hi => h'.fr.block i hi hi⟩, fun g ⟨z, hz, hg⟩ => ?_, by rw [← hd]; exact q2⟩
    obtain ⟨n1, n2⟩ := h'.new z g (by simpa [cx] using h0 z hz) (hl' z hz) hg
    exact ⟨Nat.le_of_not_lt n1, n2⟩
  rcases he with rfl | rfl <;> exact this
theorem nx_reta {fn : Func} {res : Res} {e : Exit} {rs : List ResultVar} {zs : List Nat} {ds : List DV} {rr : Row} {W0 : World} {Z : Zone} {N : Nat} (he : e = .normal ∨ e = .ret) (hrs : fn.results = rs.toArray) (hres : resL T (lk L) rs = some (zs, ds)) (hz : zr (lk L) zs = some rr) (hd : resMk ds = res) : NX (cx W0 N Z) (bodyPostM Fence.wide 10 P fn fun e w' => ∃ (v : Value) (Zn : Zone), e = .returned v ∧ Below W0.heap.size W0 w' ∧ (∀ g, Zn g → W0.heap.size ≤ g ∧ Soft w' g) ∧ RepR (fun g => Z g ∨ Zn g) w' v res) e L := by
  intro a w ⟨G, hA⟩
  have hl := zr_ok hz (zr_rd hz)
  obtain ⟨k, d1, _⟩ := hA.df
  have : LeavesInM Fence.wide 10 P fn a.tmps (fun e w' => ∃ (v : Value) (Zn : Zone), e = .returned v ∧ Below W0.heap.size W0 w' ∧ (∀ g, Zn g → W0.heap.size ≤ g ∧ Soft w' g) ∧ RepR (fun g => Z g ∨ Zn g) w' v res) a.defers .returning w := by
    refine leave_ok rfl k G _ a w hA d1 fun σ' a' w' h' et ek => ?_
    have hl' : ∀ z ∈ zs, Lv σ' z := fun z hz => by have := hl z hz; unfold Lv at this ⊢; rw [ek _ (by simp)]; exact this
    obtain ⟨v, q1, q2⟩ := res_vals (T := T) (P := P) (fn := fn) hrs (by rw [resOf_ne ek]; exact hres) hl' h'
    rw [et] at q1
    refine ⟨v, q1, v, fun g => ∃ z ∈ zs, z ≠ 0 ∧ G.ζ z g, rfl, ⟨h'.fr.os, h'.fr.tape, h'.fr.output, h'.fr.size, fun i hi => h'.fr.block i hi hi⟩, fun g ⟨z, hz, h0, hg⟩ => ?_, ?_⟩
    · obtain ⟨n1, n2⟩ := h'.new z g (by simpa [cx] using h0) (hl' z hz) hg
      exact ⟨Nat.le_of_not_lt n1, n2⟩
    · rw [← hd]
      refine q2.mono fun g ⟨z, hz, hg⟩ => ?_
      by_cases h0 : z = 0
      · subst h0; exact .inl (((h'.zz 0 (by simp [cx]) (hl' 0 hz) g).1 hg).1)
      · exact .inr ⟨z, hz, h0, hg⟩
  rcases he with rfl | rfl <;> exact this
theorem nx_reto {fn : Func} {e : Exit} {t n E sz y : Nat} {zs : List Nat} {rows : List (List D)} {rr : Row} {W0 : World} {Z : Zone} {N : Nat} (he : e = .normal ∨ e = .ret) (hrs : fn.results = #[.tmp t]) (ht : lk L (.tmp t) = .av (.own n)) (hh : lk L (.hd n) = .hd (.own E sz y zs rows)) (hz : zr (lk L) (y :: zs) = some rr) (h0 : ∀ z ∈ y :: zs, z ≠ 0) (hy : zs.contains y = false) :
    NX (cx W0 N Z) (bodyPostM Fence.wide 10 P fn (CtR W0 (some E) (.one (.c (.s sz rows))))) e L := by
  intro a w ⟨G, hA⟩
  have hl := zr_ok hz (zr_rd hz)
  obtain ⟨k, d1, _⟩ := hA.df
  have : LeavesInM Fence.wide 10 P fn a.tmps (CtR W0 (some E) (.one (.c (.s sz rows)))) a.defers .returning w := by
    refine leave_ok rfl k G _ a w hA d1 fun σ' a' w' h' et ek => ?_
    have hl' : ∀ z ∈ y :: zs, Lv σ' z := fun z hz => by have := hl z hz; unfold Lv at this ⊢; rw [ek _ (by simp)]; exact this
    have hh' : σ' (.hd n) = .hd (.own E sz y zs rows) := (ek _ (by simp)).trans hh
    obtain ⟨v, h1, h2⟩ := h'.tmp t _ ((ek _ (by simp)).trans ht)
    have ev : v = G.τ n := h2.rep ⟨_, _, _, _, _, hh'⟩
    obtain ⟨k1, vals, k2, k3, k4, k5⟩ := (h'.hd n _ _ _ _ _ hh').own (hl' y (by simp))
    have hrun := results_run (P := P) (fn := fn) (a := a') (w := w') (vs := [v]) (by rw [hrs]; simp [resRun, Array.getD_eq_getD_getElem?, h1])
    rw [et] at hrun
    refine ⟨v, by simpa using hrun, v, G.zu zs, rfl, ⟨h'.fr.os, h'.fr.tape, h'.fr.output, h'.fr.size, fun i hi => h'.fr.block i hi hi⟩, fun g ⟨z, hz, hg⟩ => ?_, ?_, fun g hg => ?_⟩
    · obtain ⟨n1, n2⟩ := h'.new z g (by simpa [cx] using h0 z (by simp [hz])) (hl' z (by simp [hz])) hg
      exact ⟨Nat.le_of_not_lt n1, n2⟩
    · rw [ev]
      exact ⟨vals, k2, k3, k4, fun _ => k5 fun z hz => hl' z (by simp [hz])⟩
    · rw [ev] at hg
      have hg := (k1 g).2 hg
      refine ⟨Nat.le_of_not_lt (h'.new y g (by simpa [cx] using h0 y (by simp)) (hl' y (by simp)) hg).1, fun ⟨z, hzz, hg'⟩ => ?_⟩
      refine h'.disj z y g ?_ (hl' z (by simp [hzz])) (hl' y (by simp)) hg' hg
      rintro rfl
      rw [Bool.eq_false_iff] at hy
      exact hy (by simpa using hzz)
  rcases he with rfl | rfl <;> exact this
end

structure Vw where
  nb : Nat → Nat
  zo : Nat → List Nat
  zf : Nat → List Nat
  hb : Nat → Option Nat
def subz (V : Vw) (zs zs' : List Nat) : Prop := ∀ z ∈ zs, ∃ z' ∈ zs', z ∈ V.zo z'
def hdp (e : Option (Row × List Nat × D)) (k : List Nat → D → Prop) : Prop := match e with
  | some (_, zs, d) => k zs d
  | none => False
def kvp (e : KV) (k : AV → Prop) : Prop := match e with
  | .av x => k x
  | _ => False
def fzc (σ : St) (V : Vw) (n : Nat) (zs' : List Nat) : Nat → List D → Prop
  | _, [] => True
  | k, d :: ds => (kvp (σ (.cell n k)) fun x => hdp (hdd σ x) fun zs d' => d = d' ∧ subz V zs zs') ∧ fzc σ V n zs' (k + 1) ds
def frz (V : Vw) (n : Nat) (zs' : List Nat) : Prop := ∃ z' ∈ zs', n ∈ V.zf z'
def fzcaps (σ : St) (V : Vw) (zs' : List Nat) : List Nat → List D → Prop
  | [], [] => True
  | n :: ns, .p ds :: rest => frz V n zs' ∧ fzc σ V n zs' 0 ds ∧ fzcaps σ V zs' ns rest
  | _, _ => False
def FvL (σ' : St) (V : Vw) : List (List Nat × D) → List (List Nat × D) → Prop
  | [], [] => True
  | (zs, d) :: cs, (zs', d') :: cs' => (d = d' ∨ d.nrm = d') ∧ subz V zs zs' ∧ (∀ z ∈ zs', Uz σ' z) ∧ FvL σ' V cs cs'
  | _, _ => False
def Fv (σ σ' : St) (V : Vw) : AV → AV → Prop
  | .c zs d, .c zs' d' => (d = d' ∨ d.nrm = d') ∧ subz V zs zs' ∧ ∀ z ∈ zs', Uz σ' z
  | .seg zs d, .seg zs' d' => d = d' ∧ subz V zs zs' ∧ ∀ z ∈ zs', Uz σ' z
  | .tup zs d, .tup zs' d' => d = d' ∧ subz V zs zs' ∧ ∀ z ∈ zs', Uz σ' z
  | .agg cs, .agg cs' => FvL σ' V cs cs'
  | .ptr n o, .ptr n' o' => V.nb n' = n ∧ o = o' ∧ Nm σ' n'
  | .wp κ n, .wp κ' n' => κ = κ' ∧ V.nb n' = n ∧ Nm σ' n'
  | .ptr n o, .seg zs' ds => frz V n zs' ∧ fzc σ V n zs' o ds ∧ ∀ z ∈ zs', Uz σ' z
  | .fn g caps, .fn g' caps' => g = g' ∧ caps'.map V.nb = caps ∧ ∀ n ∈ caps', Nm σ' n
  | .fn g caps, .c zs' (.f g' ds) => g = g' ∧ fzcaps σ V zs' caps ds ∧ ∀ z ∈ zs', Uz σ' z
  | .own h, .own h' => V.hb h' = some h ∧ Uh σ' h'
  | .own h, .c zs' d' => (hdp (hdd σ (.own h)) fun zs d => d = d' ∧ subz V zs zs') ∧ ∀ z ∈ zs', Uz σ' z
  | .c [] (.n _), .own h' => V.hb h' = none ∧ Uh σ' h'
  | .c [] (.v (.slice none 0 0)), .own h' => V.hb h' = none ∧ Uh σ' h'
  | _, _ => False
structure Fold (C : Cx) (σ σ' : St) (V : Vw) : Prop where
  nm : ∀ n, Nm σ' n → Nm σ (V.nb n)
  inj : ∀ n m, Nm σ' n → Nm σ' m → V.nb n = V.nb m → n = m
  lv : ∀ z, Lv σ' z → (∀ y ∈ V.zo z, Lv σ y) ∧ ∀ n ∈ V.zf z, Nm σ n
  dis : ∀ y z, y ≠ z → Lv σ' y → Lv σ' z → (∀ x ∈ V.zo y, x ∉ V.zo z) ∧ ∀ n ∈ V.zf y, n ∉ V.zf z
  nf : ∀ n z, Nm σ' n → Lv σ' z → V.nb n ∉ V.zf z
  pz : ∀ z, z ∉ C.pz → Lv σ' z → ∀ y ∈ V.zo z, y ∉ C.pz
  z0 : ∀ z ∈ C.pz, Lv σ' z → V.zo z = [z] ∧ V.zf z = []
  df : σ' .df = σ .df
  sz : ∀ n c, σ' (.sz n) = .sz c → σ (.sz (V.nb n)) = .sz c
  tmp : ∀ t x', σ' (.tmp t) = .av x' → ∃ x, σ (.tmp t) = .av x ∧ Fv σ σ' V x x'
  vt : ∀ i t x', σ' (.vt i t) = .av x' → ∃ x, σ (.vt i t) = .av x ∧ Fv σ σ' V x x'
  cell : ∀ n k x', σ' (.cell n k) = .av x' → Nm σ' n ∧ ∃ x, σ (.cell (V.nb n) k) = .av x ∧ Fv σ σ' V x x'
  hd : ∀ h' E sz y' zs' rows, σ' (.hd h') = .hd (.own E sz y' zs' rows) → Uz σ' y' ∧ (∀ z ∈ zs', Uz σ' z) ∧ V.zf y' = [] ∧
    ((∃ h y zs, V.hb h' = some h ∧ σ (.hd h) = .hd (.own E sz y zs rows) ∧ V.zo y' = [y] ∧ subz V zs zs') ∨ (V.hb h' = none ∧ rows = [] ∧ V.zo y' = []))
section
variable {C : Cx} {σ σ' : St} {V : Vw} {a : Act} {w : World} {G : Gh}
def fgh (G : Gh) (V : Vw) : Gh := ⟨fun n => G.ρ (V.nb n), fun z g => (∃ y ∈ V.zo z, G.ζ y g) ∨ ∃ n ∈ V.zf z, g = G.ρ n, fun h => match V.hb h with | some k => G.τ k | none => .slice none 0 0, G.δ⟩
theorem FvL.get : ∀ {cs cs' : List (List Nat × D)}, FvL σ' V cs cs' → cs.length = cs'.length ∧ ∀ (i : Nat) (zs' : List Nat) (d' : D), cs'[i]? = some (zs', d') → ∃ zs d, cs[i]? = some (zs, d) ∧ (d = d' ∨ d.nrm = d') ∧ subz V zs zs' ∧ ∀ z ∈ zs', Uz σ' z
  | [], [], _ => ⟨rfl, fun i zs' d' h => by simp at h⟩
  | [], _ :: _, h => h.elim
  | _ :: _, [], h => by unfold FvL at h; exact h.elim
  | (zs, d) :: cs, (zs', d') :: cs', h => by
    unfold FvL at h
    obtain ⟨h1, h2, h3, h4⟩ := h
    obtain ⟨k1, k2⟩ := FvL.get h4
    refine ⟨by simp [k1], fun i ws' e' hi => ?_⟩
    cases i with
    | zero => simp at hi; obtain ⟨rfl, rfl⟩ := hi; exact ⟨zs, d, rfl, h1, h2, h3⟩
    | succ i => exact k2 i ws' e' (by simpa using hi)
theorem Fold.kept (F : Fold C σ σ' V) {zs zs' : List Nat} (hs : subz V zs zs') : ∀ g, G.zu zs g → (fgh G V).zu zs' g := fun g ⟨z, hz, hg⟩ => by
  obtain ⟨z', h1, h2⟩ := hs z hz
  exact ⟨z', h1, .inl ⟨z, h2, hg⟩⟩
theorem Fold.live (F : Fold C σ σ' V) {zs zs' : List Nat} (hs : subz V zs zs') (hl : ∀ z ∈ zs', Lv σ' z) : ∀ z ∈ zs, Lv σ z := fun z hz => by
  obtain ⟨z', h1, h2⟩ := hs z hz
  exact (F.lv z' (hl z' h1)).1 z h2
theorem Fold.data (F : Fold C σ σ' V) {zs zs' : List Nat} {d d' : D} {v : Value} (hd : d = d' ∨ d.nrm = d') (hs : subz V zs zs') (h : (∀ z ∈ zs, Lv σ z) → RepD (G.zu zs) w v d) (hl : ∀ z ∈ zs', Lv σ' z) : RepD ((fgh G V).zu zs') w v d' := by
  have := (h (F.live hs hl)).mono (F.kept (G := G) hs)
  rcases hd with rfl | rfl
  · exact this
  · exact this.nrm
theorem Fold.cells (F : Fold C σ σ' V) (hA : ASG C G σ a w) {n : Nat} {zs' : List Nat} (hf : frz V n zs') (hl : ∀ z ∈ zs', Lv σ' z) : ∀ {ds : List D} {k : Nat}, fzc σ V n zs' k ds →
    ∀ (j : Nat) (d : D), ds[j]? = some d → (fgh G V).zu zs' (G.ρ n) ∧ ∃ u, w.cell? ⟨G.ρ n, k + j, none⟩ = some u ∧ RepD ((fgh G V).zu zs') w u d
  | [], k, _, j, d, hj => by simp at hj
  | d0 :: ds, k, h, j, d, hj => by
    obtain ⟨z', h1, h2⟩ := hf
    unfold fzc at h
    obtain ⟨h3, h4⟩ := h
    cases j with
    | zero =>
      simp at hj; subst hj
      refine ⟨⟨z', h1, .inr ⟨n, h2, rfl⟩⟩, ?_⟩
      unfold kvp at h3
      split at h3
      · rename_i x hx
        obtain ⟨_, u, c1, _, c3⟩ := hA.cell n k x hx
        unfold hdp at h3
        split at h3
        · rename_i r zs d' hd
          obtain ⟨rfl, hs⟩ := h3
          have := (hdd_ok hd hA (hdd_rd hd) c3).2
          exact ⟨u, c1, F.data (.inl rfl) hs this hl⟩
        · exact h3.elim
      · exact h3.elim
    | succ j =>
      have := Fold.cells F hA ⟨z', h1, h2⟩ hl h4 j d (by simpa using hj)
      rwa [show k + 1 + j = k + (j + 1) by omega] at this
theorem cells_p {Z : Zone} {w : World} {g o : Nat} {ds : List D} (k : ∀ (j : Nat) (d : D), ds[j]? = some d → Z g ∧ ∃ u, w.cell? ⟨g, o + j, none⟩ = some u ∧ RepD Z w u d) : RepD Z w (.pointer (some ⟨g, o, none⟩)) (.p ds) := by
  have k' : ∀ j : Nat, ∃ u : Value, ∀ x, ds[j]? = some x → Z g ∧ w.cell? ⟨g, o + j, none⟩ = some u ∧ RepD Z w u x := fun j => by
    cases hj : ds[j]? with
    | none => exact ⟨undef, fun x hx => by cases hx⟩
    | some x =>
      obtain ⟨q1, u, q2, q3⟩ := k j x hj
      exact ⟨u, fun y hy => by cases hy; exact ⟨q1, q2, q3⟩⟩
  exact .p g o ds (fun j => (k' j).choose) (fun j x hj => ⟨((k' j).choose_spec x hj).1, ((k' j).choose_spec x hj).2.1⟩) (fun j x hj => ((k' j).choose_spec x hj).2.2)
theorem Fold.caps (F : Fold C σ σ' V) (hA : ASG C G σ a w) {zs' : List Nat} (hl : ∀ z ∈ zs', Lv σ' z) : ∀ {caps : List Nat} {ds : List D}, fzcaps σ V zs' caps ds → caps.length = ds.length ∧ ∀ (i : Nat) (d : D), ds[i]? = some d → RepD ((fgh G V).zu zs') w ((caps.map fun n => Value.pointer (some ⟨G.ρ n, 0, none⟩)).getD i undef) d
  | [], [], _ => ⟨rfl, fun i d h => by simp at h⟩
  | [], _ :: _, h => by unfold fzcaps at h; exact h.elim
  | _ :: _, [], h => by unfold fzcaps at h; exact h.elim
  | n :: ns, d0 :: rest, h => by
    cases d0 with
    | p ds =>
      unfold fzcaps at h
      obtain ⟨h1, h2, h3⟩ := h
      obtain ⟨k1, k2⟩ := Fold.caps F hA hl h3
      refine ⟨by simp [k1], fun i d hi => ?_⟩
      cases i with
      | zero =>
        simp at hi; subst hi
        refine cells_p fun j d hj => ?_
        have := F.cells hA h1 hl h2 j d hj
        simpa using this
      | succ i => exact k2 i d (by simpa using hi)
    | _ => unfold fzcaps at h; exact h.elim
theorem Fold.rep (F : Fold C σ σ' V) (hA : ASG C G σ a w) {x x' : AV} {v : Value} (hx : Fv σ σ' V x x') (h : Rep G σ w v x) : Rep (fgh G V) σ' w v x' := by
  obtain ⟨ok, rep⟩ := h
  have nilrow : V.hb = V.hb → ∀ {h' : Nat} {zs : List Nat} {d : D}, v = .slice none 0 0 → V.hb h' = none ∧ Uh σ' h' → Rep (fgh G V) σ' w v (.own h') := fun _ h' zs d e hx => by
    obtain ⟨h1, h2⟩ := hx
    refine ⟨h2, fun _ => ?_⟩
    show v = (match V.hb h' with | some k => G.τ k | none => .slice none 0 0)
    rw [h1, e]
  unfold Fv at hx
  split at hx
  · obtain ⟨h0, h1, h2⟩ := hx
    exact ⟨h2, fun hl => F.data h0 h1 rep hl⟩
  · obtain ⟨rfl, h1, h2⟩ := hx
    refine ⟨h2, fun hl => ?_⟩
    obtain ⟨g, o, e, k⟩ := rep (F.live h1 hl)
    refine ⟨g, o, e, fun j x hj => ?_⟩
    obtain ⟨k1, u, k2, k3⟩ := k j x hj
    exact ⟨F.kept (G := G) h1 _ k1, u, k2, k3.mono (F.kept (G := G) h1)⟩
  · obtain ⟨rfl, h1, h2⟩ := hx
    exact ⟨h2, fun hl => (rep (F.live h1 hl)).mono (F.kept (G := G) h1)⟩
  · obtain ⟨k1, k2⟩ := FvL.get hx
    obtain ⟨vs, e1, e2, k⟩ := rep
    refine ⟨fun c hc z hz => ?_, vs, e1, by omega, fun i zs' d' hi hl => ?_⟩
    · obtain ⟨i, hi⟩ := List.mem_iff_getElem?.1 hc
      obtain ⟨zs, d, _, _, _, h3⟩ := k2 i c.1 c.2 hi
      exact h3 z hz
    · obtain ⟨zs, d, h1, h0, h2, _⟩ := k2 i zs' d' hi
      exact F.data h0 h2 (k i zs d h1) hl
  · obtain ⟨rfl, rfl, h⟩ := hx
    exact ⟨h, rep⟩
  · obtain ⟨rfl, rfl, h⟩ := hx
    exact ⟨h, rep⟩
  · obtain ⟨h1, h2, h3⟩ := hx
    refine ⟨h3, fun hl => ⟨_, _, rep, fun j d hj => F.cells hA h1 hl h2 j d hj⟩⟩
  · obtain ⟨rfl, rfl, h⟩ := hx
    refine ⟨h, ?_⟩
    show v = _
    rw [show v = _ from rep, List.map_map]
    rfl
  · obtain ⟨rfl, h1, h2⟩ := hx
    refine ⟨h2, fun hl => ?_⟩
    obtain ⟨k1, k2⟩ := F.caps hA hl h1
    rw [show v = _ from rep]
    refine .f _ _ _ (by simpa using k1) fun i d hi => ?_
    have := k2 i d hi
    simpa [List.getD, Array.getD_eq_getD_getElem?] using this
  · rename_i h h'
    obtain ⟨h1, h2⟩ := hx
    refine ⟨h2, fun hl => ?_⟩
    obtain ⟨E, sz, y', zs', rows, e⟩ := hl
    rcases (F.hd h' E sz y' zs' rows e).2.2.2 with ⟨k, y, zs, e1, e2, _⟩ | ⟨e1, _⟩
    · rw [h1] at e1; cases e1
      show v = (match V.hb h' with | some k => G.τ k | none => .slice none 0 0)
      rw [h1]
      exact rep ⟨_, _, _, _, _, e2⟩
    · rw [h1] at e1; cases e1
  · rename_i h zs' d'
    obtain ⟨h1, h2⟩ := hx
    refine ⟨h2, fun hl => ?_⟩
    unfold hdp at h1
    split at h1
    · rename_i r zs d hd
      obtain ⟨rfl, hs⟩ := h1
      exact F.data (.inl rfl) hs (hdd_ok hd hA (hdd_rd hd) ⟨ok, rep⟩).2 hl
    · exact h1.elim
  · refine nilrow rfl (zs := []) (d := .n 0) ?_ hx
    have := rep (fun z hz => absurd hz (by simp))
    cases this; rfl
  · refine nilrow rfl (zs := []) (d := .n 0) ?_ hx
    exact (rep (fun z hz => absurd hz (by simp))).raw
  · exact hx.elim
theorem ASG.fold (F : Fold C σ σ' V) (h : ASG C G σ a w) : ASG C (fgh G V) σ' a w := by
  obtain ⟨k, d1, d2⟩ := h.df
  have nz : ∀ {b : Nat}, (∀ n, Nm σ n → G.ρ n ≠ b) → (∀ z, Lv σ z → ¬ G.ζ z b) → ∀ z, Lv σ' z → ¬ (fgh G V).ζ z b := fun {b} q1 q2 z hz hg => by
    rcases hg with ⟨y, hy, hg⟩ | ⟨n, hn, rfl⟩
    · exact q2 y ((F.lv z hz).1 y hy) hg
    · exact q1 n ((F.lv z hz).2 n hn) rfl
  have mk : ∀ k, marks (fgh G V) k = marks G k := fun k => by induction k with
    | zero => rfl
    | succ k ih => simp only [marks, ih]; rfl
  refine ⟨h.fr, ⟨k, F.df.trans d1, by rw [mk]; exact d2.eq, fun i hi => ⟨(d2.ok i hi).obj, (d2.ok i hi).nb, fun n hn => (d2.ok i hi).nn _ (F.nm n hn), nz (d2.ok i hi).nn (d2.ok i hi).nz⟩, d2.inj⟩, h.sz, fun t x' e => ?_, fun i t x' e => ?_, fun n k x' e => ?_, fun n hn => h.nm _ (F.nm n hn), fun n m hn hm e => F.inj n m hn hm (h.inj _ _ (F.nm n hn) (F.nm m hm) e),
    fun z g hz hg => ?_, fun z g h0 hz hg => ?_, fun y z g hyz hy hz hg hg' => ?_, fun h' E sz y' zs' rows e => ?_, fun z hz hl g => ?_, fun p hp => ⟨(h.ob p hp).obj, (h.ob p hp).nb, fun n hn => (h.ob p hp).nn _ (F.nm n hn), nz (h.ob p hp).nn (h.ob p hp).nz⟩, fun n hn => (h.sf _ (F.nm n hn)).of_sz fun c hc => F.sz n c hc⟩
  · obtain ⟨x, e1, e2⟩ := F.tmp t x' e
    obtain ⟨v, h1, h2⟩ := h.tmp t x e1
    exact ⟨v, h1, F.rep h e2 h2⟩
  · obtain ⟨x, e1, e2⟩ := F.vt i t x' e
    exact F.rep h e2 (h.vt i t x e1)
  · obtain ⟨hn, x, e1, e2⟩ := F.cell n k x' e
    obtain ⟨_, v, h1, h2, h3⟩ := h.cell _ k x e1
    exact ⟨hn, v, h1, h2, F.rep h e2 h3⟩
  · rcases hg with ⟨y, hy, hg⟩ | ⟨m, hm, rfl⟩
    · obtain ⟨h1, h2⟩ := h.sep y g ((F.lv z hz).1 y hy) hg
      exact ⟨h1, fun n hn => h2 _ (F.nm n hn)⟩
    · have hm' := (F.lv z hz).2 m hm
      refine ⟨(h.nm m hm').2, fun n hn e => ?_⟩
      have := h.inj _ _ (F.nm n hn) hm' e
      exact F.nf n z hn hz (by rw [this]; exact hm)
  · rcases hg with ⟨y, hy, hg⟩ | ⟨m, hm, rfl⟩
    · exact h.new y g (F.pz z h0 hz y hy) ((F.lv z hz).1 y hy) hg
    · have hm' := (F.lv z hz).2 m hm
      exact ⟨(h.nm m hm').1, (h.sf m hm').s⟩
  · obtain ⟨q1, q2⟩ := F.dis y z hyz hy hz
    rcases hg with ⟨x, hx, hg⟩ | ⟨m, hm, rfl⟩
    · rcases hg' with ⟨x', hx', hg'⟩ | ⟨m, hm, rfl⟩
      · exact h.disj x x' g (fun e => q1 x hx (e ▸ hx')) ((F.lv y hy).1 x hx) ((F.lv z hz).1 x' hx') hg hg'
      · exact (h.sep x _ ((F.lv y hy).1 x hx) hg).2 m ((F.lv z hz).2 m hm) rfl
    · rcases hg' with ⟨x', hx', hg'⟩ | ⟨m', hm', e⟩
      · exact (h.sep x' _ ((F.lv z hz).1 x' hx') hg').2 m ((F.lv y hy).2 m hm) rfl
      · have := h.inj _ _ ((F.lv y hy).2 m hm) ((F.lv z hz).2 m' hm') e
        exact q2 m hm (this ▸ hm')
  · obtain ⟨u1, u2, u3, u4⟩ := F.hd h' E sz y' zs' rows e
    refine ⟨u1, u2, fun hl => ?_⟩
    have ζe : ∀ g, (fgh G V).ζ y' g ↔ ∃ y ∈ V.zo y', G.ζ y g := fun g => by
      show ((∃ y ∈ V.zo y', G.ζ y g) ∨ ∃ n ∈ V.zf y', g = G.ρ n) ↔ _
      rw [u3]; simp
    rcases u4 with ⟨k, y, zs, e1, e2, e3, e4⟩ | ⟨e1, rfl, e3⟩
    · have hk := h.hd k _ _ _ _ _ e2
      have hy : Lv σ y := (F.lv y' hl).1 y (by rw [e3]; simp)
      obtain ⟨k1, vals, k2, k3, k4, k5⟩ := hk.own hy
      have eτ : (fgh G V).τ h' = G.τ k := by show (match V.hb h' with | some k => G.τ k | none => .slice none 0 0) = _; rw [e1]
      rw [eτ]
      refine ⟨fun g => by rw [ζe, e3]; simpa using k1 g, vals, k2, k3, k4, fun hl' i r j x hi hj => ?_⟩
      exact (k5 (F.live e4 hl') i r j x hi hj).mono (F.kept (G := G) e4)
    · have eτ : (fgh G V).τ h' = .slice none 0 0 := by show (match V.hb h' with | some k => G.τ k | none => .slice none 0 0) = _; rw [e1]
      rw [eτ]
      exact ⟨fun g => by rw [ζe, e3]; simp [Value.ownBlock], rowAt_nil _ _ _ _ _⟩
  · obtain ⟨q1, q2⟩ := F.z0 z hz hl
    have : (fgh G V).ζ z g ↔ G.ζ z g := by
      show ((∃ y ∈ V.zo z, G.ζ y g) ∨ ∃ n ∈ V.zf z, g = G.ρ n) ↔ _
      rw [q1, q2]; simp
    rw [this]
    exact h.zz z hz ((F.lv z hl).1 z (by rw [q1]; simp)) g
theorem AS.fold (F : Fold C σ σ' V) (h : AS C σ a w) : AS C σ' a w := let ⟨_, h⟩ := h; ⟨_, h.fold F⟩
end
/-! ### the same, on rows -/
def nmsOf : Row → List Nat
  | [] => []
  | (.nm n, _) :: L => n :: nmsOf L
  | _ :: L => nmsOf L
def znsOf : Row → List Nat
  | [] => []
  | (.zn n, _) :: L => n :: znsOf L
  | _ :: L => znsOf L
def fok (L L' : Row) (V : Vw) : Key → KV → Prop
  | .tmp t, .av x' => kvp (lk L (.tmp t)) fun x => Fv (lk L) (lk L') V x x'
  | .vt i t, .av x' => kvp (lk L (.vt i t)) fun x => Fv (lk L) (lk L') V x x'
  | .cell n k, .av x' => lk L' (.nm n) = .nm true ∧ kvp (lk L (.cell (V.nb n) k)) fun x => Fv (lk L) (lk L') V x x'
  | .nm n, .nm true => lk L (.nm (V.nb n)) = .nm true
  | .sz n, .sz c => lk L (.sz (V.nb n)) = .sz c
  | .zn z, .zn .live => (∀ y ∈ V.zo z, lk L (.zn y) = .zn .live) ∧ ∀ n ∈ V.zf z, lk L (.nm n) = .nm true
  | .hd h', .hd (.own E sz y' zs' rows) => (Uz (lk L') y' ∧ ∀ z ∈ zs', Uz (lk L') z) ∧ V.zf y' = [] ∧ opc (V.hb h') (fun h => khown (lk L (.hd h)) fun E0 sz0 y zs rows0 => E0 = E ∧ sz0 = sz ∧ rows0 = rows ∧ V.zo y' = [y] ∧ subz V zs zs') (rows = [] ∧ V.zo y' = [])
  | _, _ => True
def foks (L L' : Row) (V : Vw) : Row → Prop
  | [] => True
  | (k, v) :: R => fok L L' V k v ∧ foks L L' V R
def fchk (pz : List Nat) (V : Vw) (ns zs : List Nat) : Bool :=
  (ns.all fun n => (ns.all fun m => (V.nb n != V.nb m) || n == m) && zs.all fun z => !((V.zf z).contains (V.nb n))) &&
  (zs.all fun y => (pz.contains y || (V.zo y).all fun x => !pz.contains x) && (!pz.contains y || (V.zo y == [y] && (V.zf y).isEmpty)) && zs.all fun z => y == z || ((V.zo y).all (fun x => !((V.zo z).contains x)) && (V.zf y).all fun x => !((V.zf z).contains x)))
theorem lk_mem : ∀ {L : Row} {k : Key} {v : KV}, lk L k = v → v ≠ dflt k → (k, v) ∈ L
  | [], k, v, h, hn => absurd h.symm hn
  | (k', v') :: L, k, v, h, hn => by
    unfold lk at h
    by_cases e : k' = k
    · rw [if_pos e] at h; subst e; subst h; exact List.mem_cons_self
    · rw [if_neg e] at h; exact List.mem_cons_of_mem _ (lk_mem h hn)
theorem foks_mem {L L' : Row} {V : Vw} : ∀ {R : Row}, foks L L' V R → ∀ k v, (k, v) ∈ R → fok L L' V k v
  | [], _, k, v, h => by simp at h
  | (k', v') :: R, h, k, v, hm => by
    rcases List.mem_cons.1 hm with e | hm
    · cases e; exact h.1
    · exact foks_mem h.2 k v hm
theorem mem_nms : ∀ {L : Row} {n : Nat} {v : KV}, (Key.nm n, v) ∈ L → n ∈ nmsOf L
  | [], n, v, h => by simp at h
  | (k, u) :: L, n, v, h => by
    rcases List.mem_cons.1 h with e | h
    · cases e; simp [nmsOf]
    · have := mem_nms h
      cases k <;> simp [nmsOf, this]
theorem mem_zns : ∀ {L : Row} {n : Nat} {v : KV}, (Key.zn n, v) ∈ L → n ∈ znsOf L
  | [], n, v, h => by simp at h
  | (k, u) :: L, n, v, h => by
    rcases List.mem_cons.1 h with e | h
    · cases e; simp [znsOf]
    · have := mem_zns h
      cases k <;> simp [znsOf, this]
theorem fold_of {C : Cx} {L L' : Row} {V : Vw} {pz : List Nat} (hP : C.pz = pz) (hc : fchk pz V (nmsOf L') (znsOf L') = true) (hdf : lk L' .df = lk L .df) (h : foks L L' V L') : Fold C (lk L) (lk L') V := by
  have nmm : ∀ n, Nm (lk L') n → n ∈ nmsOf L' ∧ Nm (lk L) (V.nb n) := fun n h' => by
    have hm := lk_mem h' (by simp [dflt])
    exact ⟨mem_nms hm, foks_mem h _ _ hm⟩
  have lvv : ∀ z, Lv (lk L') z → z ∈ znsOf L' ∧ (∀ y ∈ V.zo z, Lv (lk L) y) ∧ ∀ n ∈ V.zf z, Nm (lk L) n := fun z h' => by
    have hm := lk_mem h' (by simp [dflt])
    exact ⟨mem_zns hm, foks_mem h _ _ hm⟩
  have kv : ∀ {e : KV} {k : AV → Prop}, kvp e k → ∃ x, e = .av x ∧ k x := fun {e k} h' => by
    unfold kvp at h'
    split at h'
    · exact ⟨_, rfl, h'⟩
    · exact h'.elim
  simp only [fchk, List.all_eq_true, Bool.and_eq_true, Bool.or_eq_true, bne_iff_ne, ne_eq, beq_iff_eq, Bool.not_eq_true', List.contains_eq_mem, decide_eq_false_iff_not, decide_eq_true_eq, List.isEmpty_iff] at hc
  obtain ⟨hn, hz⟩ := hc
  refine ⟨fun n h' => (nmm n h').2, fun n m h1 h2 e => ?_, fun z h' => (lvv z h').2, fun y z hyz hy hz' => ?_, fun n z h1 h2 => (hn n (nmm n h1).1).2 z (lvv z h2).1, fun z h0 h' y hy => ?_, fun z h0 h' => ?_, hdf, fun n c h' => foks_mem h _ _ (lk_mem h' (by simp [dflt])), fun t x' e => ?_, fun i t x' e => ?_, fun n k x' e => ?_, fun h' E sz y' zs' rows e => ?_⟩
  · rcases (hn n (nmm n h1).1).1 m (nmm m h2).1 with h' | h'
    · exact absurd e h'
    · exact h'
  · rcases (hz y (lvv y hy).1).2 z (lvv z hz').1 with h' | h'
    · exact absurd h' hyz
    · exact h'
  · rcases (hz z (lvv z h').1).1.1 with h1 | h1
    · rw [hP] at h0; exact absurd h1 h0
    · rw [hP]; exact h1 y hy
  · rcases (hz z (lvv z h').1).1.2 with h1 | h1
    · rw [hP] at h0; exact absurd h0 h1
    · exact h1
  · exact kv (foks_mem h _ _ (lk_mem e (by simp [dflt])))
  · exact kv (foks_mem h _ _ (lk_mem e (by simp [dflt])))
  · obtain ⟨h1, h2⟩ := (foks_mem h _ _ (lk_mem e (by simp [dflt])) : _ ∧ _)
    exact ⟨h1, kv h2⟩
  · obtain ⟨⟨h1, h2⟩, h3, h4⟩ := (foks_mem h _ _ (lk_mem e (by simp [dflt])) : (_ ∧ _) ∧ _)
    refine ⟨h1, h2, h3, ?_⟩
    rcases opc_ok h4 with ⟨k, e1, h5⟩ | ⟨e1, h5⟩
    · obtain ⟨E0, sz0, y, zs, rows0, e2, rfl, rfl, rfl, h6, h7⟩ := khown_ok h5
      exact .inl ⟨k, y, zs, e1, e2, h6, h7⟩
    · exact .inr ⟨e1, h5⟩

/-! ### equations -/
def obd {α β : Type} (e : Option α) (k : α → Option β) : Option β := match e with
  | some v => k v
  | none => none
def kvd {β : Type} (e : KV) (k : AV → Option β) : Option β := match e with
  | .av x => k x
  | _ => none
def lvd {β : Type} (e : KV) (k : Option β) : Option β := if isLv e then k else none
def hod {β : Type} (e : KV) (k : TypeId → Nat → Nat → List Nat → List (List D) → Option β) : Option β := match e with
  | .hd (.own E sz y zs rows) => k E sz y zs rows
  | _ => none
def chd {β : Type} (b : Bool) (k : Option β) : Option β := if b then k else none
theorem obd_some {α β : Type} (v : α) (k : α → Option β) : obd (some v) k = k v := rfl
theorem obd_none {α β : Type} (k : α → Option β) : obd none k = none := rfl
theorem kvd_av {β : Type} (x : AV) (k : AV → Option β) : kvd (.av x) k = k x := rfl
theorem lvd_live {β : Type} (k : Option β) : lvd (.zn .live) k = k := rfl
theorem hod_own {β : Type} (E sz y : Nat) (zs : List Nat) (rows : List (List D)) (k : TypeId → Nat → Nat → List Nat → List (List D) → Option β) : hod (.hd (.own E sz y zs rows)) k = k E sz y zs rows := rfl
theorem chd_true {β : Type} (k : Option β) : chd true k = k := rfl
section
variable {P : Program} (L : St) (T : Tab P)
theorem dflt_tmp (n : Nat) : dflt (.tmp n) = .unk := rfl
theorem dflt_cell (n k : Nat) : dflt (.cell n k) = .unk := rfl
theorem dflt_zn (n : Nat) : dflt (.zn n) = .zn .free := rfl
theorem dflt_nm (n : Nat) : dflt (.nm n) = .nm false := rfl
theorem dflt_vt (i n : Nat) : dflt (.vt i n) = .unk := rfl
theorem dflt_hd (n : Nat) : dflt (.hd n) = .hd .free := rfl
theorem dflt_sz (n : Nat) : dflt (.sz n) = .unk := rfl
theorem dflt_df : dflt .df = .df 0 := rfl
theorem lk_cons (k' : Key) (v : KV) (r : Row) (k : Key) : lk ((k', v) :: r) k = if k' = k then v else lk r k := rfl
theorem lk_nil (k : Key) : lk [] k = dflt k := rfl
theorem ins_nil (k : Key) (v : KV) : ins k v [] = [(k, v)] := rfl
theorem ins_cons (k k' : Key) (v v' : KV) (r : Row) : ins k v ((k', v') :: r) = if k' = k then (k, v) :: r else (k', v') :: ins k v r := rfl
theorem puts_nil (L : Row) : puts L [] = L := rfl
theorem puts_cons (L : Row) (k : Key) (v : KV) (ws : Row) : puts L ((k, v) :: ws) = ins k v (puts L ws) := rfl
theorem wr_some (d : Tmp) (x : AV) : wr (some d) x = [(.tmp d, .av x)] := rfl
theorem wr_none (x : AV) : wr none x = [] := rfl
theorem opd_tmp (t : Tmp) : opd L (.tmp t) = kvd (L (.tmp t)) fun x => some ([(.tmp t, .av x)], x) := by
  cases h : L (.tmp t) <;> simp [opd, kvd, h]
theorem opd_const (v : Value) : opd L (.const v) = some ([], cst v) := rfl
theorem opd_func (f : FuncId) : opd L (.func f) = some ([], .c [] (.v (.func (.func f) #[] #[]))) := rfl
theorem zr_nil : zr L [] = some [] := rfl
theorem zr_cons (z : Nat) (zs : List Nat) : zr L (z :: zs) = lvd (L (.zn z)) (obd (zr L zs) fun r => some ((.zn z, .zn .live) :: r)) := by
  simp only [zr, lvd, obd]; split
  · cases zr L zs <;> rfl
  · rfl
theorem hdd_c (zs : List Nat) (x : D) : hdd L (.c zs x) = some ([], zs, x) := rfl
theorem hdd_seg (zs : List Nat) (x : List D) : hdd L (.seg zs x) = some ([], zs, .p x) := rfl
theorem hdd_own (h : Nat) : hdd L (.own h) = hod (L (.hd h)) fun E sz y zs rows => some ([(.hd h, .hd (.own E sz y zs rows))], y :: zs, .s sz rows) := by
  simp only [hdd, hod]
  generalize L (.hd h) = e
  cases e with
  | hd s => cases s <;> rfl
  | _ => rfl
theorem rawL_nil : rawL L [] = some ([], []) := rfl
theorem rawL_cons (zs : List Nat) (x : Value) (cs : List (List Nat × D)) : rawL L ((zs, .v x) :: cs) = obd (zr L zs) fun r => obd (rawL L cs) fun y => some (r ++ y.1, x :: y.2) := by
  simp only [rawL, obd]
  cases zr L zs with
  | none => rfl
  | some r => cases rawL L cs <;> rfl
theorem raw_c (zs : List Nat) (x : Value) : raw L (.c zs (.v x)) = obd (zr L zs) fun r => some (r, x) := by
  simp only [raw, obd]; cases zr L zs <;> rfl
theorem raw_st (zs : List Nat) (φ : SP) : raw L (.c zs (.st φ)) = none := rfl
theorem raw_wp (κ : VK) (n : Nat) : raw L (.wp κ n) = none := rfl
theorem raw_optr (h sz i j : Nat) : raw L (.optr h sz i j) = none := rfl
theorem hdd_optr (h sz i j : Nat) : hdd L (.optr h sz i j) = none := rfl
theorem hdd_wp (κ : VK) (n : Nat) : hdd L (.wp κ n) = none := rfl
theorem dst0_wp (pz : List Nat) (esz : Nat) (E : TypeId) (κ : VK) (n : Nat) : dst0 L pz esz E (.wp κ n) = none := rfl
theorem slc_wp (esz : Nat) (κ : VK) (n : Nat) : slc L esz (.wp κ n) = none := rfl
theorem raw_a (cs : List (List Nat × D)) : raw L (.agg cs) = obd (rawL L cs) fun y => some (y.1, .agg y.2.toArray) := by
  simp only [raw, obd]
  cases rawL L cs <;> rfl
theorem opr_e (x : Operand) : opr L x = obd (opd L x) fun y => obd (raw L y.2) fun z => some (y.1 ++ z.1, z.2) := by
  simp only [opr, obd]
  cases opd L x with
  | none => rfl
  | some y => simp only; cases raw L y.2 <;> rfl
theorem cells_zero (n off : Nat) : cells L n off 0 = some ([], []) := rfl
theorem cells_succ (n off c : Nat) : cells L n off (c + 1) = kvd (L (.cell n off)) fun x => obd (hdd L x) fun y => obd (cells L n (off + 1) c) fun z => some ((.cell n off, .av x) :: (y.1 ++ z.1), y.2 :: z.2) := by
  cases h : L (.cell n off) with
  | av x =>
    simp only [cells, kvd, obd, h]
    cases hdd L x with
    | none => rfl
    | some y => cases cells L n (off + 1) c <;> rfl
  | _ => simp only [cells, kvd, h]
theorem ops_e (esz : Nat) (x : Operand) : ops L esz x = obd (opd L x) fun y => obd (slc L esz y.2) fun s => obd (zr L s.2.1) fun r' => some (y.1 ++ (s.1 ++ r'), s.2.1, s.2.2) := by
  simp only [ops, obd]
  cases opd L x with
  | none => rfl
  | some y =>
    simp only
    cases slc L esz y.2 with
    | none => rfl
    | some s => simp only; cases zr L s.2.1 <;> rfl
theorem opb_none : opb L none = some ([], none) := rfl
theorem opb_some (x : Operand) : opb L (some x) = obd (opr L x) fun y => match y.2 with | .int k n => some (y.1, some (k, n)) | _ => none := by
  simp only [opb, obd]
  cases opr L x with
  | none => rfl
  | some y => obtain ⟨r, v⟩ := y; cases v <;> rfl
theorem spread1_c (zs : List Nat) (x : D) : spread1 L (.c zs x) = chd (ocD x) (zr L zs) := rfl
theorem spread1_own (h : Nat) : spread1 L (.own h) = hod (L (.hd h)) fun E sz y zs rows => lvd (L (.zn y)) (some [(.hd h, .hd (.own E sz y zs rows)), (.zn y, .zn .live)]) := by
  simp only [spread1, hod]
  generalize L (.hd h) = e
  cases e with
  | hd s =>
    cases s with
    | own E sz y zs rows => simp only [zr, lvd]; split <;> rfl
    | _ => rfl
  | _ => rfl
theorem spread1_ptr (n off : Nat) : spread1 L (.ptr n off) = some [] := rfl
theorem spread1_fn (g : FuncId) (caps : List Nat) : spread1 L (.fn g caps) = some [] := rfl
theorem spread1_seg (zs : List Nat) (ds : List D) : spread1 L (.seg zs ds) = zr L zs := rfl
theorem spreadL_nil : spreadL L [] = some ([], []) := rfl
theorem spreadL_cons (zs : List Nat) (x : D) (cs : List (List Nat × D)) : spreadL L ((zs, x) :: cs) = obd (spread1 L (.c zs x)) fun r => obd (spreadL L cs) fun y => some (r ++ y.1, .c zs x :: y.2) := by
  simp only [spreadL, obd]
  cases spread1 L (.c zs x) with
  | none => rfl
  | some r => cases spreadL L cs <;> rfl
theorem spread_agg (cs : List (List Nat × D)) : spread L (.agg cs) = spreadL L cs := rfl
theorem spread_c (zs : List Nat) (x : D) : spread L (.c zs x) = obd (spread1 L (.c zs x)) fun r => some (r, [.c zs x]) := by
  simp only [spread, obd]; cases spread1 L (.c zs x) <;> rfl
theorem spread_own (h : Nat) : spread L (.own h) = obd (spread1 L (.own h)) fun r => some (r, [.own h]) := by
  simp only [spread, obd]; cases spread1 L (.own h) <;> rfl
theorem spread_seg (zs : List Nat) (ds : List D) : spread L (.seg zs ds) = obd (zr L zs) fun r => some (r, [.seg zs ds]) := by
  simp only [spread, obd, spread1]; cases zr L zs <;> rfl
theorem spread_ptr (n off : Nat) : spread L (.ptr n off) = some ([], [.ptr n off]) := rfl
theorem spread_fn (g : FuncId) (caps : List Nat) : spread L (.fn g caps) = some ([], [.fn g caps]) := rfl
theorem ex_zero (n off : Nat) : ex L n off 0 = some [] := rfl
theorem ex_succ (n off c : Nat) : ex L n off (c + 1) = kvd (L (.cell n off)) fun x => obd (ex L n (off + 1) c) fun r => some ((.cell n off, .av x) :: r) := by
  cases h : L (.cell n off) with
  | av x =>
    simp only [ex, kvd, obd, h]
    cases ex L n (off + 1) c <;> rfl
  | _ => simp only [ex, kvd, h]
theorem spreadD_agg (cs : List (List Nat × D)) : spreadD L (.agg cs) = chd (cs.all fun c => ocD c.2) (some ([], cs)) := rfl
theorem spreadD_c (zs : List Nat) (x : D) : spreadD L (.c zs x) = obd (spread1 L (.c zs x)) fun r => some (r ++ [], [(zs, x)]) := by
  simp only [spreadD, obd, hdd]; cases spread1 L (.c zs x) <;> rfl
theorem spreadD_own (h : Nat) : spreadD L (.own h) = obd (spread1 L (.own h)) fun r => obd (hdd L (.own h)) fun y => some (r ++ y.1, [y.2]) := by
  simp only [spreadD, obd]
  cases spread1 L (.own h) with
  | none => rfl
  | some r => cases hdd L (.own h) <;> rfl
theorem spreadD_seg (zs : List Nat) (x : List D) : spreadD L (.seg zs x) = obd (zr L zs) fun r => some (r ++ [], [(zs, .p x)]) := by
  simp only [spreadD, obd, hdd, spread1]; cases zr L zs <;> rfl
theorem ocD_v (u : Value) : ocD (.v u) = u.oneCell' := rfl
theorem ocD_n (sz : Nat) : ocD (.n sz) = true := rfl
theorem ocD_s (sz : Nat) (rows : List (List D)) : ocD (.s sz rows) = true := rfl
theorem ocD_p (ds : List D) : ocD (.p ds) = true := rfl
theorem ocD_f (g : FuncId) (ds : List D) : ocD (.f g ds) = true := rfl
theorem ocD_st (φ : SP) : ocD (.st φ) = true := rfl
theorem nrm_v (u : Value) : (D.v u).nrm = .v u := rfl
theorem nrm_n (sz : Nat) : (D.n sz).nrm = .s sz [] := rfl
theorem nrm_s (sz : Nat) (rows : List (List D)) : (D.s sz rows).nrm = .s sz rows := rfl
theorem nrm_p (ds : List D) : (D.p ds).nrm = .p ds := rfl
theorem nrm_f (g : FuncId) (ds : List D) : (D.f g ds).nrm = .f g ds := rfl
theorem nrm_st (φ : SP) : (D.st φ).nrm = .st φ := rfl
theorem fillO_nil (pl : Nat → Option (Nat × Nat)) (cs : List (List Nat × D)) : fillO L pl cs [] = some ([], cs) := rfl
theorem fillO_cons (pl : Nat → Option (Nat × Nat)) (cs : List (List Nat × D)) (i : Nat) (x : Operand) (rest : List (Nat × Operand)) :
    fillO L pl cs ((i, x) :: rest) = obd (pl i) fun p => obd (opd L x) fun y => obd (spreadD L y.2) fun s => chd (decide (s.2.length = p.2) && decide (p.1 + s.2.length ≤ cs.length)) (obd (fillO L pl (setR cs p.1 s.2) rest) fun z => some (y.1 ++ (s.1 ++ z.1), z.2)) := by
  simp only [fillO, obd, chd]
  cases pl i with
  | none => rfl
  | some p =>
    cases opd L x with
    | none => rfl
    | some y =>
      simp only
      cases spreadD L y.2 with
      | none => rfl
      | some s =>
        simp only [Bool.and_eq_true, decide_eq_true_eq]
        split
        · cases fillO L pl (setR cs p.1 s.2) rest <;> rfl
        · rfl
theorem zrL_nil : zrL L [] = some [] := rfl
theorem zrL_cons (zs : List Nat) (x : D) (cs : List (List Nat × D)) : zrL L ((zs, x) :: cs) = obd (zr L zs) fun r => obd (zrL L cs) fun r' => some (r ++ r') := by
  simp only [zrL, obd]
  cases zr L zs with
  | none => rfl
  | some r => cases zrL L cs <;> rfl
theorem dvOf_c (zs : List Nat) (x : D) : dvOf L (.c zs x) = obd (zr L zs) fun r => some ([] ++ r, zs, .c x.nrm) := by
  simp only [dvOf, obd, hdd]; cases zr L zs <;> rfl
theorem dvOf_seg (zs : List Nat) (x : List D) : dvOf L (.seg zs x) = obd (zr L zs) fun r => some ([] ++ r, zs, .c (.p x)) := by
  simp only [dvOf, obd, hdd]; cases zr L zs <;> rfl
theorem dvOf_own (h : Nat) : dvOf L (.own h) = obd (hdd L (.own h)) fun y => obd (zr L y.2.1) fun r => some (y.1 ++ r, y.2.1, .c y.2.2.nrm) := by
  simp only [dvOf, obd]
  cases hdd L (.own h) with
  | none => rfl
  | some y => simp only; cases zr L y.2.1 <;> rfl
theorem dvOf_agg (cs : List (List Nat × D)) : dvOf L (.agg cs) = obd (zrL L cs) fun r => some (r, zsAll cs, .agg (cs.map (·.2.nrm))) := by
  simp only [dvOf, obd]; cases zrL L cs <;> rfl
theorem argsOf_nil : argsOf L [] = some ([], [], []) := rfl
theorem argsOf_cons (x : Operand) (xs : List Operand) : argsOf L (x :: xs) = obd (opd L x) fun y => obd (dvOf L y.2) fun d => obd (argsOf L xs) fun z => some (y.1 ++ (d.1 ++ z.1), d.2.1 ++ z.2.1, d.2.2 :: z.2.2) := by
  simp only [argsOf, obd]
  cases opd L x with
  | none => rfl
  | some y =>
    simp only
    cases dvOf L y.2 with
    | none => rfl
    | some d => cases argsOf L xs <;> rfl
def clv (L : St) (r : Row) (y : AV) : Option (Row × List Nat × FuncId × List DV) := match y with
  | .c zs (.v (.func (.func f) fi ca)) => if (zs.isEmpty && fi.isEmpty && ca.isEmpty) = true then some (r, [], f, []) else none
  | .c zs (.f f caps) => (zr L zs).map fun r' => (r ++ r', zs, f, caps.map .c)
  | _ => none
theorem clz_e (x : Operand) : clz L x = obd (opd L x) fun y => clv L y.1 y.2 := by
  unfold clz obd clv
  cases opd L x with
  | none => rfl
  | some y =>
    obtain ⟨r, y⟩ := y
    simp only
    split <;> simp_all
theorem clv_raw (r : Row) (f : FuncId) : clv L r (.c [] (.v (.func (.func f) #[] #[]))) = some (r, [], f, []) := rfl
theorem clv_f (r : Row) (zs : List Nat) (f : FuncId) (caps : List D) : clv L r (.c zs (.f f caps)) = obd (zr L zs) fun r' => some (r ++ r', zs, f, caps.map .c) := by
  simp only [clv, obd]; cases zr L zs <;> rfl
theorem callD_e (x : Operand) (args : List Operand) : callD L x args = obd (clz L x) fun c => obd (argsOf L args) fun y => some (c.1 ++ y.1, y.2.1 ++ c.2.1, c.2.2.1, y.2.2 ++ c.2.2.2) := by
  simp only [callD, obd]
  cases clz L x with
  | none => rfl
  | some c => cases argsOf L args <;> rfl
theorem dst0_n (pz : List Nat) (esz sz : Nat) (E : TypeId) : dst0 L pz esz E (.c [] (.n sz)) = some ([], [], [], []) := rfl
theorem dst0_nil (pz : List Nat) (esz : Nat) (E : TypeId) : dst0 L pz esz E (.c [] (.v (.slice none 0 0))) = some ([], [], [], []) := rfl
theorem dst0_own (pz : List Nat) (esz : Nat) (E : TypeId) (h : Nat) : dst0 L pz esz E (.own h) = hod (L (.hd h)) fun E' sz y zs rows => chd (decide (E' = E) && (decide (sz = esz) && !pz.contains y)) (lvd (L (.zn y)) (some ([(.hd h, .hd (.own E' sz y zs rows)), (.zn y, .zn .live)], goneH h y, zs, rows))) := by
  simp only [dst0, hod, chd, lvd]
  generalize L (.hd h) = e
  cases e with
  | hd s =>
    cases s with
    | own E' sz y zs rows =>
      simp only [Bool.and_eq_true, decide_eq_true_eq]
      by_cases h1 : E' = E <;> by_cases h2 : sz = esz <;> by_cases h3 : (!pz.contains y) = true <;> by_cases h4 : isLv (L (.zn y)) = true <;> simp [h1, h2, h3, h4] <;> simp_all
    | _ => rfl
  | _ => rfl
theorem goneH_e (h y : Nat) : goneH h y = [(.hd h, .hd .dead), (.zn y, .zn .dead)] := rfl
def capc (L : St) (r : Row) (y : AV) (k : Option (Row × List Nat)) : Option (Row × List Nat) := match y with
  | .ptr n o => if o = 0 then obd k fun c => some (r ++ c.1, n :: c.2) else none
  | _ => none
theorem capc_ptr (r : Row) (n : Nat) (k : Option (Row × List Nat)) : capc L r (.ptr n 0) k = obd k fun c => some (r ++ c.1, n :: c.2) := rfl
theorem capc_seg (r : Row) (zs : List Nat) (ds : List D) (k : Option (Row × List Nat)) : capc L r (.seg zs ds) k = none := rfl
theorem capc_c (r : Row) (zs : List Nat) (ds : D) (k : Option (Row × List Nat)) : capc L r (.c zs ds) k = none := rfl
theorem capN_nil : capN L [] = some ([], []) := rfl
theorem capN_cons (x : Operand) (xs : List Operand) : capN L (x :: xs) = obd (opd L x) fun y => capc L y.1 y.2 (capN L xs) := by
  simp only [capN, obd, capc]
  cases opd L x with
  | none => rfl
  | some y =>
    obtain ⟨r, y⟩ := y
    cases y with
    | ptr n o =>
      cases o with
      | zero => simp only [if_true]; cases capN L xs <;> rfl
      | succ o => simp
    | _ => rfl
theorem capD_nil : capD L [] = some ([], [], []) := rfl
theorem capD_cons (x : Operand) (xs : List Operand) : capD L (x :: xs) = obd (opd L x) fun y => obd (hdd L y.2) fun d => obd (capD L xs) fun z => some (y.1 ++ (d.1 ++ z.1), d.2.1 ++ z.2.1, d.2.2 :: z.2.2) := by
  simp only [capD, obd]
  cases opd L x with
  | none => rfl
  | some y =>
    simp only
    cases hdd L y.2 with
    | none => rfl
    | some d => cases capD L xs <;> rfl
theorem deadZ_nil : deadZ [] = [] := rfl
theorem deadZ_cons (z : Nat) (zs : List Nat) : deadZ (z :: zs) = (.zn z, .zn .dead) :: deadZ zs := rfl
theorem nzr_e (zs : List Nat) (rows : List (List D)) : nzr zs rows = if rows.all (fun r => r.all D.isV) then [] else zs := rfl
theorem placesT_nil : placesT T [] = some [] := rfl
theorem placesT_cons (off : Nat) (t : TypeId) (fs : List (Nat × TypeId)) : placesT T ((off, t) :: fs) = obd (T.f t) fun ti => obd (placesT T fs) fun l => some ((off, ti.size) :: l) := by
  simp only [placesT, obd]
  cases T.f t with
  | none => rfl
  | some ti => cases placesT T fs <;> rfl
theorem zds_nil (hs : List (Option Nat)) : zds [] hs = [] := rfl
theorem zds_e (v : Value) (vs : List Value) : zds (v :: vs) [] = .v v :: zds vs [] := rfl
theorem zds_v (v : Value) (vs : List Value) (hs : List (Option Nat)) : zds (v :: vs) (none :: hs) = .v v :: zds vs hs := rfl
theorem zds_s (sz : Nat) (vs : List Value) (hs : List (Option Nat)) : zds (.slice none 0 0 :: vs) (some sz :: hs) = .n sz :: zds vs hs := rfl
theorem vcells_agg (c : Array Value) : Value.cells (.agg c) = c := rfl
theorem vcells_int (k : IntKind) (i : Int) : Value.cells (.int k i) = #[.int k i] := rfl
theorem vcells_bool (b : Bool) : Value.cells (.bool b) = #[.bool b] := rfl
theorem vcells_string (b : ByteArray) : Value.cells (.string b) = #[.string b] := rfl
theorem vcells_slice (p : Option Addr) (l c : Nat) : Value.cells (.slice p l c) = #[.slice p l c] := rfl
theorem vcells_pointer (p : Option Addr) : Value.cells (.pointer p) = #[.pointer p] := rfl
theorem toList_lit {α : Type} (l : List α) : (⟨l⟩ : Array α).toList = l := rfl
theorem map_nilL {α β : Type} (f : α → β) : [].map f = [] := rfl
theorem map_consL {α β : Type} (f : α → β) (x : α) (l : List α) : (x :: l).map f = f x :: l.map f := rfl
theorem crow_nil (n k : Nat) : crow n k [] = [] := rfl
theorem crow_cons (n k : Nat) (y : AV) (ys : List AV) : crow n k (y :: ys) = (.cell n k, .av y) :: crow n (k + 1) ys := rfl
def vid {β : Type} (v : Value) (k : IntKind → Int → Option β) : Option β := match v with
  | .int kk n => k kk n
  | _ => none
theorem vid_int {β : Type} (kk : IntKind) (n : Int) (k : IntKind → Int → Option β) : vid (.int kk n) k = k kk n := rfl
theorem opb_int (x : Operand) : opb L (some x) = obd (opr L x) fun y => vid y.2 fun k n => some (y.1, some (k, n)) := by
  rw [opb_some]
  simp only [obd]
  cases opr L x with
  | none => rfl
  | some y => obtain ⟨r, v⟩ := y; cases v <;> rfl
theorem nz_v (zs : List Nat) (x : Value) : nz zs (.v x) = [] := rfl
theorem nz_n (zs : List Nat) (x : Nat) : nz zs (.n x) = [] := rfl
theorem nz_p (zs : List Nat) (x : List D) : nz zs (.p x) = zs := rfl
theorem nz_f (zs : List Nat) (g : FuncId) (x : List D) : nz zs (.f g x) = zs := rfl
theorem nz_st (zs : List Nat) (φ : SP) : nz zs (.st φ) = zs := rfl
theorem nz_s (zs : List Nat) (sz : Nat) (rows : List (List D)) : nz zs (.s sz rows) = zs := rfl
theorem slc_c (esz : Nat) (zs : List Nat) (sz : Nat) (rows : List (List D)) : slc L esz (.c zs (.s sz rows)) = if sz = esz then some ([], zs, rows) else none := by
  unfold slc
  cases zs <;> rfl
theorem slc_n (esz : Nat) (sz : Nat) : slc L esz (.c [] (.n sz)) = if sz = esz then some ([], [], []) else none := rfl
theorem slc_own (esz : Nat) (h : Nat) : slc L esz (.own h) = hod (L (.hd h)) fun E sz y zs rows => if sz = esz then some ([(.hd h, .hd (.own E sz y zs rows))], y :: zs, rows) else none := by
  simp only [slc, hod]
  generalize L (.hd h) = e
  cases e with
  | hd s => cases s <;> rfl
  | _ => rfl
theorem slc_nil (esz : Nat) : slc L esz (.c [] (.v (.slice none 0 0))) = some ([], [], []) := rfl
theorem cst_agg (vs : Array Value) : cst (.agg vs) = .agg (vs.toList.map fun v => ([], .v v)) := rfl
theorem cst_int (k : IntKind) (n : Int) : cst (.int k n) = .c [] (.v (.int k n)) := rfl
theorem cst_bool (b : Bool) : cst (.bool b) = .c [] (.v (.bool b)) := rfl
theorem cst_string (s : ByteArray) : cst (.string s) = .c [] (.v (.string s)) := rfl
theorem cst_slice (a : Option Addr) (n c : Nat) : cst (.slice a n c) = .c [] (.v (.slice a n c)) := rfl
theorem cst_tuple (vs : Array Value) : cst (.tuple vs) = .c [] (.v (.tuple vs)) := rfl
theorem cst_nilFunc : cst .nilFunc = .c [] (.v .nilFunc) := rfl
theorem cst_pointer (a : Option Addr) : cst (.pointer a) = .c [] (.v (.pointer a)) := rfl
theorem cst_func (f : Fn) (a b : Array Value) : cst (.func f a b) = .c [] (.v (.func f a b)) := rfl
theorem bin_add (k : IntKind) (x y : Int) : bin .add (.int k x) (.int k y) = some (.int k (k.wrap (x + y)), True) := by simp [bin]
theorem bin_sub (k : IntKind) (x y : Int) : bin .sub (.int k x) (.int k y) = some (.int k (k.wrap (x - y)), True) := by simp [bin]
theorem bin_mul (k : IntKind) (x y : Int) : bin .mul (.int k x) (.int k y) = some (.int k (k.wrap (x * y)), True) := by simp [bin]
theorem bin_quo (k : IntKind) (x y : Int) : bin .quo (.int k x) (.int k y) = some (.int k (k.wrap (x.tdiv y)), y ≠ 0) := by simp [bin]
theorem bin_rem (k : IntKind) (x y : Int) : bin .rem (.int k x) (.int k y) = some (.int k (x.tmod y), y ≠ 0) := by simp [bin]
theorem bin_eql (k : IntKind) (x y : Int) : bin .eql (.int k x) (.int k y) = some (.bool (decide (x = y)), True) := by
  simp only [bin, if_true, Option.some.injEq, Prod.mk.injEq, and_true, Value.bool.injEq]
  rw [Bool.eq_iff_iff]; simp
theorem bin_neq (k : IntKind) (x y : Int) : bin .neq (.int k x) (.int k y) = some (.bool (!decide (x = y)), True) := by
  simp only [bin, if_true, Option.some.injEq, Prod.mk.injEq, and_true, Value.bool.injEq]
  rw [Bool.eq_iff_iff]; simp
theorem bin_lss (k : IntKind) (x y : Int) : bin .lss (.int k x) (.int k y) = some (.bool (decide (x < y)), True) := by simp [bin]
theorem bin_leq (k : IntKind) (x y : Int) : bin .leq (.int k x) (.int k y) = some (.bool (decide (x ≤ y)), True) := by simp [bin]
theorem bin_gtr (k : IntKind) (x y : Int) : bin .gtr (.int k x) (.int k y) = some (.bool (decide (y < x)), True) := by simp [bin]
theorem bin_geq (k : IntKind) (x y : Int) : bin .geq (.int k x) (.int k y) = some (.bool (decide (y ≤ x)), True) := by simp [bin]
theorem bin_bool (op : BinOp) (x y : Bool) : bin op (.bool x) (.bool y) = none := by cases op <;> rfl
def shbd (s : Sh) (k : Option Value) : Option Value := if s = .bool then k else none
theorem shbd_bool (k : Option Value) : shbd .bool k = k := rfl
def eqb : BinOp → Bool → Bool → Option Value
  | .eql, a, b => some (.bool (a == b))
  | .neq, a, b => some (.bool (!(a == b)))
  | _, _, _ => none
theorem eqb_eql (a b : Bool) : eqb .eql a b = some (.bool (a == b)) := rfl
theorem eqb_neq (a b : Bool) : eqb .neq a b = some (.bool (!(a == b))) := rfl
theorem binT_bool (op : BinOp) (t : TypeId) (x y : Bool) : binT T op t (.bool x) (.bool y) = obd (T.f t) fun ti => shbd ti.sh (eqb op x y) := by
  unfold binT obd shbd
  cases T.f t with
  | none => rfl
  | some ti => cases op <;> rfl
theorem binT_aggs (op : BinOp) (t : TypeId) (x y : Array Value) : binT T op t (.agg x) (.agg y) = none := rfl
theorem bin_aggs (op : BinOp) (x y : Array Value) : bin op (.agg x) (.agg y) = none := by cases op <;> rfl
theorem bin_slice (op : BinOp) (a : Option Addr) (n c : Nat) (y : Value) : bin op (.slice a n c) y = none := by cases op <;> rfl
theorem bin_str_eql (x y : ByteArray) : bin .eql (.string x) (.string y) = some (.bool (x.toList == y.toList), True) := rfl
theorem bin_str_neq (x y : ByteArray) : bin .neq (.string x) (.string y) = some (.bool (!(x.toList == y.toList)), True) := rfl
theorem bin_str_lss (x y : ByteArray) : bin .lss (.string x) (.string y) = some (.bool (Op.bytesLess x.toList y.toList), True) := rfl
theorem bin_str_add (x y : ByteArray) : bin .add (.string x) (.string y) = some (.string (x ++ y), ((x.size + y.size : Nat) : Int) ≤ IntKind.i64.max) := rfl
theorem atz_v (zs : List Nat) (x : Value) : atz zs (.c (.v x)) = .c [] (.v x) := rfl
theorem atz_n (zs : List Nat) (x : Nat) : atz zs (.c (.n x)) = .c [] (.n x) := rfl
theorem atz_s (zs : List Nat) (sz : Nat) (rows : List (List D)) : atz zs (.c (.s sz rows)) = .c zs (.s sz rows) := rfl
theorem atz_p (zs : List Nat) (x : List D) : atz zs (.c (.p x)) = .seg zs x := rfl
theorem atz_f (zs : List Nat) (g : FuncId) (x : List D) : atz zs (.c (.f g x)) = .c zs (.f g x) := rfl
theorem atz_st (zs : List Nat) (φ : SP) : atz zs (.c (.st φ)) = .c zs (.st φ) := rfl
theorem atz_agg (zs : List Nat) (cs : List D) : atz zs (.agg cs) = .agg (cs.map fun x => (nz zs x, x)) := rfl
theorem atR_one (zs : List Nat) (x : DV) : atR zs (.one x) = atz zs x := rfl
theorem atR_tup (zs : List Nat) (l : List DV) : atR zs (.tup l) = .tup zs l := rfl
theorem isV_one (x : DV) : (Res.one x).isV = x.isV := rfl
theorem isV_tup (l : List DV) : (Res.tup l).isV = l.all (·.isV) := rfl
theorem isV_c (x : D) : (DV.c x).isV = x.isV := rfl
theorem isV_agg (cs : List D) : (DV.agg cs).isV = cs.all (·.isV) := rfl
theorem isV_v (x : Value) : (D.v x).isV = true := rfl
theorem isV_n (sz : Nat) : (D.n sz).isV = true := rfl
theorem isV_p (ds : List D) : (D.p ds).isV = false := rfl
theorem isV_f (g : FuncId) (ds : List D) : (D.f g ds).isV = false := rfl
theorem isV_st (φ : SP) : (D.st φ).isV = false := rfl
theorem isV_s (sz : Nat) (rows : List (List D)) : (D.s sz rows).isV = false := rfl
theorem gd_some {ops : Array Oper} {run skip : Row → Prop} {d : Option Tmp} {op : Op} {t : TypeId} {s : String} {e : Array Edge} {j : Nat} {want : Bool} : gd ops L ⟨d, op, t, s, e, some (j, want)⟩ run skip =
    ob ((ops[j]?).bind (·.dst)) fun d => kva (L (.tmp d)) fun x => gav x (fun b => gsel b want (run [(.tmp d, .av (.c [] (.v (.bool b))))]) (skip [(.tmp d, .av (.c [] (.v (.bool b))))])) (skip [(.tmp d, .av (.c [] (.v undef)))]) := rfl
theorem gd_none {ops : Array Oper} {run skip : Row → Prop} {d : Option Tmp} {op : Op} {t : TypeId} {s : String} {e : Array Edge} : gd ops L ⟨d, op, t, s, e, none⟩ run skip = run [] := rfl
theorem dok_some {N : Nat} {d : Tmp} {op : Op} {t : TypeId} {s : String} {e : Array Edge} {g : Option (Nat × Bool)} : dok N ⟨some d, op, t, s, e, g⟩ = decide (d < N) := rfl
theorem dok_none {N : Nat} {op : Op} {t : TypeId} {s : String} {e : Array Edge} {g : Option (Nat × Bool)} : dok N ⟨none, op, t, s, e, g⟩ = true := rfl
end
/-! ### a region's operations, one behind the other -/
theorem AR.nil {P : Program} {T : Tab P} {N : Nat} {pz : List Nat} {ops : Array Oper} {z : Nat} {L : Row} {ks : List (List Key × List Key)} {k : List (List Key × List Key) → Row → Prop} (h : k ks L) : arun T N pz ops z [] L ks k := h
theorem AR.step {P : Program} {T : Tab P} {N : Nat} {pz : List Nat} {ops : Array Oper} {z : Nat} {o : Oper} {todo : List Oper} {L : Row} {ks : List (List Key × List Key)} {k : List (List Key × List Key) → Row → Prop}
    (h : ∀ (K : Row → Trc → Prop) (K' : Row → Prop), Hid (∀ gr tr, arun T N pz ops (z + 1) todo (puts L tr.writes) (ks ++ [((gr ++ tr.reads).map (·.1), tr.writes.map (·.1))]) k → K gr tr) → Hid (∀ gr, arun T N pz ops (z + 1) todo (puts L (wr o.dst (.c [] (.v undef)))) (ks ++ [(gr.map (·.1), (wr o.dst (.c [] (.v undef))).map (·.1))]) k → K' gr) →
      chk (dok N o) (gd ops (lk L) o (fun gr => astep T (lk L) pz z o (K gr)) K')) : arun T N pz ops z (o :: todo) L ks k :=
  h (fun gr tr => arun T N pz ops (z + 1) todo (puts L tr.writes) (ks ++ [((gr ++ tr.reads).map (·.1), tr.writes.map (·.1))]) k) (fun gr => arun T N pz ops (z + 1) todo (puts L (wr o.dst (.c [] (.v undef)))) (ks ++ [(gr.map (·.1), (wr o.dst (.c [] (.v undef))).map (·.1))]) k) (fun _ _ h => h) (fun _ h => h)
theorem keepT_nil (n : Nat) : keepT n [] = [] := rfl
theorem keepT_tmp (n t : Nat) (v : KV) (L : Row) : keepT n ((.tmp t, v) :: L) = if t < n then (.tmp t, v) :: keepT n L else keepT n L := rfl
theorem keepT_vt (n a b : Nat) (v : KV) (L : Row) : keepT n ((.vt a b, v) :: L) = (.vt a b, v) :: keepT n L := rfl
theorem keepT_cell (n a b : Nat) (v : KV) (L : Row) : keepT n ((.cell a b, v) :: L) = (.cell a b, v) :: keepT n L := rfl
theorem keepT_zn (n a : Nat) (v : KV) (L : Row) : keepT n ((.zn a, v) :: L) = (.zn a, v) :: keepT n L := rfl
theorem keepT_sz (n a : Nat) (v : KV) (L : Row) : keepT n ((.sz a, v) :: L) = (.sz a, v) :: keepT n L := rfl
theorem keepT_nm (n a : Nat) (v : KV) (L : Row) : keepT n ((.nm a, v) :: L) = (.nm a, v) :: keepT n L := rfl
theorem keepT_hd (n a : Nat) (v : KV) (L : Row) : keepT n ((.hd a, v) :: L) = (.hd a, v) :: keepT n L := rfl
theorem keepT_df (n : Nat) (v : KV) (L : Row) : keepT n ((.df, v) :: L) = (.df, v) :: keepT n L := rfl

abbrev Pr := Int × Int
def PRow (w : World) (v : Value) (l : List Pr) : Prop :=
  ∃ p cap, v = .slice p l.length cap ∧ l.length ≤ cap ∧ (p = none → cap = 0) ∧ cap ≤ 9223372036854775807 ∧ (0 < l.length → ∃ g o : Nat, p = some ⟨g, o, none⟩ ∧ ∀ j x, l[j]? = some x → w.cell? ⟨g, o + j * 2, none⟩ = some (.int .u64 (x.1)) ∧ w.cell? ⟨g, o + j * 2 + 1, none⟩ = some (.int .u64 (x.2)))
theorem PRow.below {w w' : World} {v : Value} {l : List Pr} (h : PRow w v l) (hb : Below w.heap.size w w') : PRow w' v l := by
  obtain ⟨p, cap, e, h1, h2, h4, h3⟩ := h
  refine ⟨p, cap, e, h1, h2, h4, fun hl => ?_⟩
  obtain ⟨g, o, e, h3⟩ := h3 hl
  exact ⟨g, o, e, fun j x hj => ⟨cellB hb (h3 j x hj).1, cellB hb (h3 j x hj).2⟩⟩
theorem PRow.form {w : World} {v : Value} {l : List Pr} (h : PRow w v l) : ∃ p cap, v = .slice p l.length cap := by
  obtain ⟨p, cap, e, _⟩ := h
  exact ⟨p, cap, e⟩
theorem PRow.len {w : World} {v : Value} {l : List Pr} (h : PRow w v l) : (l.length : Int) ≤ 9223372036854775807 := by
  obtain ⟨p, cap, e, h1, h2, h4, _⟩ := h
  omega
theorem PRow.nil (w : World) : PRow w (.slice none 0 0) [] := ⟨none, 0, rfl, Nat.le_refl _, fun _ => rfl, by omega, fun h => by simp at h⟩
theorem PRow.take {w : World} {p : Option Addr} {cap : Nat} {l : List Pr} (h : PRow w (.slice p l.length cap) l) (k : Nat) (hk : k ≤ l.length) : PRow w (.slice p k cap) (l.take k) := by
  obtain ⟨p', cap', e, h1, h2, h4, h3⟩ := h
  simp only [Value.slice.injEq, true_and] at e
  obtain ⟨rfl, rfl⟩ := e
  refine ⟨p, cap, by simp [Nat.min_eq_left hk], by simp; omega, h2, h4, fun hl => ?_⟩
  simp at hl
  obtain ⟨g, o, e, h3⟩ := h3 (by omega)
  refine ⟨g, o, e, fun j x hj => h3 j x ?_⟩
  rw [List.getElem?_take] at hj
  split at hj
  · exact hj
  · cases hj
theorem PRow.cell {w : World} {v : Value} {l : List Pr} (h : PRow w v l) (hl : 0 < l.length) : ∃ g o cap : Nat, v = .slice (some ⟨g, o, none⟩) l.length cap ∧ ∀ k (hk : k < l.length), w.cell? ⟨g, o + k * 2, none⟩ = some (.int .u64 (l[k].1)) ∧ w.cell? ⟨g, o + k * 2 + 1, none⟩ = some (.int .u64 (l[k].2)) := by
  obtain ⟨p, cap, e, h1, h2, h4, hx⟩ := h
  obtain ⟨g, o, rfl, hx'⟩ := hx hl
  exact ⟨g, o, cap, e, fun k hk => hx' k _ (List.getElem?_eq_getElem hk)⟩

def flat (l : List Pr) : List Value := l.flatMap fun x => [.int .u64 x.1, .int .u64 x.2]
theorem flat_len (l : List Pr) : (flat l).length = l.length * 2 := by
  induction l with
  | nil => rfl
  | cons x l ih =>
    have e : flat (x :: l) = .int .u64 x.1 :: .int .u64 x.2 :: flat l := rfl
    rw [e]
    simp only [List.length_cons, ih]
    omega
theorem flat_append (l m : List Pr) : flat (l ++ m) = flat l ++ flat m := by simp [flat]
theorem flat_get (l : List Pr) : ∀ k (h : k < l.length), (flat l)[k * 2]? = some (.int .u64 (l[k].1)) ∧ (flat l)[k * 2 + 1]? = some (.int .u64 (l[k].2)) := by
  induction l with
  | nil => intro k h; simp at h
  | cons x l ih =>
    intro k h
    have e : flat (x :: l) = .int .u64 x.1 :: .int .u64 x.2 :: flat l := rfl
    rw [e]
    cases k with
    | zero => exact ⟨rfl, rfl⟩
    | succ k =>
      have := ih k (by simpa using h)
      rw [show (k + 1) * 2 = k * 2 + 1 + 1 by omega]
      simpa using this
theorem infoP : (Try.prog.info? 52).map (fun i => (i.zero, i.size, i.bytes)) = some (some (.agg #[.int .u64 0, .int .u64 0]), 2, 16) := by kernel_rfl
theorem infoP' : ∃ i, Try.prog.info? 52 = some i ∧ i.zero = some (.agg #[.int .u64 0, .int .u64 0]) ∧ i.size = 2 ∧ i.bytes = 16 := by
  have h := infoP
  cases hi : Try.prog.info? 52 with
  | none => rw [hi] at h; cases h
  | some i =>
    rw [hi] at h
    simp only [Option.map_some, Option.some.injEq, Prod.mk.injEq] at h
    exact ⟨i, rfl, h.1, h.2.1, h.2.2⟩

def POwn (B : Nat) (w : World) (v : Value) (l : List Pr) : Prop := w.ownsRow B 52 2 v l.length (flat l)
theorem POwn.nil (B : Nat) (w : World) : POwn B w (.slice none 0 0) [] := World.ownsRow_nil _ _ _ _
theorem POwn.keeps {B B' : Nat} {w w' : World} {v : Value} {l : List Pr} (h : POwn B w v l) (hb : Below B' w w') (hB : w.heap.size ≤ B') : POwn B w' v l := by
  refine World.ownsRow.kept (row := none) h ⟨hb.os, hb.tape, hb.output, hb.size, fun k hk _ => hb.block k (by omega)⟩ ?_
  cases v.ownBlock <;> simp
theorem POwn.below {B : Nat} {w w' : World} {v : Value} {l : List Pr} (h : POwn B w v l) (hb : Below w.heap.size w w') : POwn B w' v l := h.keeps hb (Nat.le_refl _)
theorem POwn.lt {B : Nat} {w : World} {v : Value} {l : List Pr} (h : POwn B w v l) : ∀ k, v.ownBlock = some k → B ≤ k ∧ k < w.heap.size := fun k hk => World.ownsRow.lt h k hk
theorem POwn.row {B : Nat} {w : World} {v : Value} {l : List Pr} (h : POwn B w v l) : PRow w v l := by
  rcases h.2 with ⟨rfl, h0⟩ | ⟨g, cap, cur, rfl, hb, hg, h1, h2, h3, h4⟩
  · exact ⟨none, 0, by rw [h0], by omega, fun _ => rfl, by omega, fun h => by omega⟩
  · refine ⟨some ⟨g, 0, none⟩, cap, rfl, h1, fun h => (by cases h), by simpa [maxLen] using h2, fun _ => ⟨g, 0, rfl, fun k x hk => ?_⟩⟩
    obtain ⟨hk', rfl⟩ := List.getElem?_eq_some_iff.1 hk
    obtain ⟨e1, e2⟩ := flat_get l k hk'
    rw [Nat.zero_add]
    refine ⟨?_, ?_⟩
    · rw [World.ownsRow.cellAt h _ (by omega)]; exact e1
    · rw [World.ownsRow.cellAt h _ (by omega)]; exact e2
theorem POwn.weaken {B B' : Nat} {w : World} {v : Value} {l : List Pr} (h : POwn B w v l) (hB : B' ≤ B) : POwn B' w v l := by
  refine ⟨h.1, ?_⟩
  rcases h.2 with h | ⟨g, cap, cur, e, hb, rest⟩
  · exact .inl h
  · exact .inr ⟨g, cap, cur, e, by omega, rest⟩

theorem app1 {ops : Array Oper} {rest : List Oper} {o : Oper} {a : Act} {Q : Exit → Act → World → Prop} (hgd : o.guard = none) (s x : Operand)
    (ho : o.op = .call { callee := .builtin .append, args := #[s, x], argTypes := #[22, 22] }) {w : World} (B : Nat) (v : Value) (l : List Pr) (c d : Int) (W : World)
    (hs : a.eval s = v) (hx : a.eval x = .slice (some ⟨W.heap.size, 0, none⟩) 1 1) (hw : w = W.alloc (.cells #[.int .u64 c, .int .u64 d] 52)) (own : POwn B W v l) (hB : B ≤ W.heap.size) (hlen : l.length ≤ 100000000)
    (h : ∀ v' w1, POwn B w1 v' (l ++ [(c, d)]) → Below B W w1 → wpList Try.prog ops Q rest (a.put o.dst v') w1) : wpList Try.prog ops Q (o :: rest) a w := by
  obtain ⟨i, hi, hz0, hz1, hz2⟩ := infoP'
  subst hw
  refine wpList_append_own _ hgd s x 22 ho B 52 i (.agg #[.int .u64 0, .int .u64 0]) 2 16 Try.underlying22 hi hz0 hz1 hz2 rfl (by decide) v l.length _ hs (World.ownsRow.alloc own _) ⟨W.heap.size, 0, none⟩ 1 1 [.int .u64 c, .int .u64 d] hx rfl ?_ ?_ ?_ ?_ ?_ ?_
  · intro j u hj
    match j, hj with
    | 0, hj => simp at hj; subst hj; simp [Addr.add]
    | 1, hj => simp at hj; subst hj; simp [Addr.add]
    | j + 2, hj => simp at hj
  · intro u hu; simp at hu; rcases hu with rfl | rfl <;> rfl
  · unfold maxLen; omega
  · omega
  · simp; omega
  · intro v' w1 h1 h2 _
    refine h v' w1 ?_ (Below.of_grown own h2 hB)
    unfold POwn
    rw [flat_append, List.length_append]
    exact h1

theorem app_row {ops : Array Oper} {rest : List Oper} {o : Oper} {a : Act} {Q : Exit → Act → World → Prop} (hgd : o.guard = none) (s x : Operand)
    (ho : o.op = .call { callee := .builtin .append, args := #[s, x], argTypes := #[22, 22] }) {w : World} (B : Nat) (vs v : Value) (ls l : List Pr)
    (hs : a.eval s = vs) (hx : a.eval x = v) (own : POwn B w vs ls) (hr : PRow w v l) (hv : (∃ ad n c, v = .slice (some ad) n c) ∨ v = .slice none 0 0) (hB : B ≤ w.heap.size) (hlen : ls.length + l.length ≤ 100000000)
    (h : ∀ v' w1, POwn B w1 v' (ls ++ l) → Below B w w1 → wpList Try.prog ops Q rest (a.put o.dst v') w1) : wpList Try.prog ops Q (o :: rest) a w := by
  obtain ⟨i, hi, hz0, hz1, hz2⟩ := infoP'
  rcases hv with ⟨ad, n, c, rfl⟩ | rfl
  · obtain ⟨p, cap, e, h1, h2, h4, h3⟩ := hr
    simp only [Value.slice.injEq] at e
    obtain ⟨rfl, rfl, rfl⟩ := e
    refine wpList_append_own _ hgd s x 22 ho B 52 i (.agg #[.int .u64 0, .int .u64 0]) 2 16 Try.underlying22 hi hz0 hz1 hz2 rfl (by decide) vs ls.length _ hs own ad l.length c (flat l) hx (flat_len l) ?_ ?_ ?_ ?_ hB ?_
    · intro j u hj
      have hj' := (List.getElem?_eq_some_iff.1 hj).1
      rw [flat_len] at hj'
      obtain ⟨g, o, e, hc⟩ := h3 (by omega)
      obtain rfl := Option.some.inj e
      have hk : j / 2 < l.length := by omega
      obtain ⟨q0, q1⟩ := hc (j / 2) _ (List.getElem?_eq_getElem hk)
      obtain ⟨f0, f1⟩ := flat_get l (j / 2) hk
      have hadd : (⟨g, o, none⟩ : Addr).add j = ⟨g, o + j, none⟩ := by unfold Addr.add; split <;> simp_all
      rw [hadd]
      rcases Nat.mod_two_eq_zero_or_one j with hm | hm
      · rw [show j / 2 * 2 = j by omega] at f0 q0
        rw [hj] at f0
        rw [q0, ← f0]
      · rw [show j / 2 * 2 + 1 = j by omega] at f1
        rw [show o + j / 2 * 2 + 1 = o + j by omega] at q1
        rw [hj] at f1
        rw [q1, ← f1]
    · intro u hu
      simp only [flat, List.mem_flatMap] at hu
      obtain ⟨y, _, hu⟩ := hu
      simp at hu
      rcases hu with rfl | rfl <;> rfl
    · unfold maxLen; omega
    · omega
    · intro v' w1 h4 h5 _
      refine h v' w1 ?_ ?_
      · unfold POwn
        rw [flat_append, List.length_append]
        exact h4
      · refine ⟨h5.os, h5.tape, h5.output, h5.size, fun k hk => h5.block k (by omega) ?_⟩
        intro e
        have := World.ownsRow.lt own k e.symm
        omega
  · obtain ⟨p, cap, e, h1, h2, h4, h3⟩ := hr
    simp only [Value.slice.injEq] at e
    have hl : l = [] := List.length_eq_zero_iff.1 e.2.1.symm
    subst hl
    refine wpList_append_own_none hgd s x 22 ho B 52 i 2 Try.underlying22 hi _ _ _ hs own hx ?_
    exact h _ _ (by rw [List.append_nil]; exact own) (Below.refl _ _)
theorem PRow.forms {w : World} {v : Value} {l : List Pr} (h : PRow w v l) : (∃ ad n c, v = .slice (some ad) n c) ∨ v = .slice none 0 0 := by
  obtain ⟨p, cap, e, h1, h2, _⟩ := h
  cases p with
  | none => have := h2 rfl; exact .inr (by rw [e, this, show l.length = 0 by omega])
  | some ad => exact .inl ⟨ad, _, _, e⟩

set_option maxRecDepth 100000 in
set_option maxHeartbeats 2000000 in
theorem clone_any (v : Value) (l : List Pr) (w : World) (h : PRow w v l) (hn : l.length ≤ 100000000) :
    Calls Try.prog 98 #[v] w fun e w' => (∃ v', e = .returned v' ∧ POwn w.heap.size w' v' l) ∧ Below w.heap.size w w' := by
  have H := hid h
  rcases h.forms with ⟨ad, n, c, rfl⟩ | rfl
  · clear h
    have hc1 : ∀ n c w, (binOp .eql 22 (.slice (some ad) n c) (.slice none 0 0)).run Try.prog w = .ok (.bool false) w := fun n c w => by simp [binOp, run_equal_slice_nil w 22 52 (some ad) n c Try.underlying22]
    have OW : Hid (POwn w.heap.size (w.alloc (.cells #[] 52)) (.slice (some ⟨w.heap.size, 0, none⟩) 0 0) []) :=
      ⟨rfl, .inr ⟨w.heap.size, 0, #[], rfl, Nat.le_refl _, heap_alloc_new w _, Nat.le_refl _, by unfold maxLen; omega, rfl, rfl⟩⟩
    have H1 := hid (H.out.below (below_alloc w (.cells #[] 52)))
    go_enter Try.func98, Try.ntmps98
    go_wp2_with (first | (at_builtin; refine app_row rfl _ _ rfl w.heap.size (.slice (some ⟨w.heap.size, 0, none⟩) 0 0) (.slice (some ad) n c) [] l rfl rfl OW.out H1.out (.inl ⟨_, _, _, rfl⟩) (by simp) (by simpa using hn) ?_))
    intro v' w1 s1 s2
    have A1 := hid s1; have A2 := hid ((below_alloc w (.cells #[] 52)).trans s2)
    clear s1 s2
    go_wp2_with fail
    go_ret
    exact ⟨⟨_, rfl, A1.out⟩, A2.out⟩
  · clear h
    have hl : l = [] := by
      obtain ⟨p, cap, e, _⟩ := H.out
      simp only [Value.slice.injEq] at e
      exact List.length_eq_zero_iff.1 e.2.1.symm
    subst hl
    have hc1 : ∀ w, (binOp .eql 22 (.slice none 0 0) (.slice none 0 0)).run Try.prog w = .ok (.bool true) w := fun w => by kernel_rfl
    go_enter Try.func98, Try.ntmps98
    go_wp2_with fail
    go_ret
    exact ⟨⟨_, rfl, POwn.nil _ _⟩, Below.refl _ _⟩

def cmpI (x y : Int) : Int := if x < y then -1 else if y < x then 1 else 0
def pcmp (p q : Pr) : Int := if cmpI p.1 q.1 = 0 then cmpI p.2 q.2 else cmpI p.1 q.1
def lt (p q : Pr) : Prop := p.1 < q.1 ∨ p.1 = q.1 ∧ p.2 < q.2
instance (p q : Pr) : Decidable (lt p q) := by unfold lt; infer_instance
theorem pcmp_lt (p q : Pr) : pcmp p q < 0 ↔ lt p q := by
  unfold pcmp lt cmpI
  repeat' split
  all_goals omega
theorem pcmp_gt (p q : Pr) : 0 < pcmp p q ↔ lt q p := by
  unfold pcmp lt cmpI
  repeat' split
  all_goals omega
theorem pcmp_eq (p q : Pr) : pcmp p q = 0 ↔ p = q := by
  obtain ⟨a, b⟩ := p
  obtain ⟨c, d⟩ := q
  simp only [pcmp, cmpI, Prod.mk.injEq]
  repeat' split
  all_goals omega
theorem pcmp_small (p q : Pr) : -1 ≤ pcmp p q ∧ pcmp p q ≤ 1 := by
  unfold pcmp cmpI
  repeat' split
  all_goals omega
theorem lt_irrefl (p : Pr) : ¬ lt p p := by unfold lt; omega
theorem lt_trans {p q r : Pr} (h : lt p q) (k : lt q r) : lt p r := by unfold lt at *; omega
theorem lt_asymm {p q : Pr} (h : lt p q) : ¬ lt q p := by unfold lt at *; omega
theorem lt_total (p q : Pr) : lt p q ∨ p = q ∨ lt q p := by
  obtain ⟨a, b⟩ := p
  obtain ⟨c, d⟩ := q
  simp only [lt, Prod.mk.injEq]
  omega

theorem nan_any (x : Int) (w : World) : Calls Try.prog 155 #[(.int .u64 (x))] w fun e w' => e = .returned (.bool false) ∧ w = w' := by
  go_enter Try.func155, Try.ntmps155
  go_wp2_with fail
  go_ret
  exact ⟨by simp, rfl⟩

set_option maxRecDepth 100000 in
theorem cmp_any (x y : Int) (w : World) : Calls Try.prog 114 #[(.int .u64 (x)), (.int .u64 (y))] w fun e w' => e = .returned (.int .i64 (cmpI x y)) ∧ w = w' := by
  rcases Int.lt_trichotomy x y with h | h | h
  · have e : cmpI x y = -1 := by unfold cmpI; rw [if_pos h]
    rw [e]
    go_enter Try.func114, Try.ntmps114
    go_wp2_with fail
    ((with_reducible refine (nan_any _ _).mono ?_); rintro e w' ⟨rfl, rfl⟩)
    go_wp2_with fail
    ((with_reducible refine (nan_any _ _).mono ?_); rintro e w' ⟨rfl, rfl⟩)
    go_wp2_with fail
    go_ret
    exact ⟨rfl, rfl⟩
  · have e : cmpI x y = 0 := by unfold cmpI; rw [if_neg (by omega), if_neg (by omega)]
    rw [e]
    subst h
    go_enter Try.func114, Try.ntmps114
    go_wp2_with fail
    ((with_reducible refine (nan_any _ _).mono ?_); rintro e w' ⟨rfl, rfl⟩)
    go_wp2_with fail
    ((with_reducible refine (nan_any _ _).mono ?_); rintro e w' ⟨rfl, rfl⟩)
    go_wp2_with fail
    go_ret
    exact ⟨rfl, rfl⟩
  · have e : cmpI x y = 1 := by unfold cmpI; rw [if_neg (by omega), if_pos h]
    rw [e]
    have h' : ¬ x < y := by omega
    go_enter Try.func114, Try.ntmps114
    go_wp2_with fail
    ((with_reducible refine (nan_any _ _).mono ?_); rintro e w' ⟨rfl, rfl⟩)
    go_wp2_with fail
    ((with_reducible refine (nan_any _ _).mono ?_); rintro e w' ⟨rfl, rfl⟩)
    go_wp2_with fail
    go_ret
    exact ⟨rfl, rfl⟩

set_option maxRecDepth 100000 in
theorem or_any (g : Nat) (c d : Int) (w : World) (h0 : w.cell? ⟨g, 0, none⟩ = some (.int .i64 (c))) (h1 : w.cell? ⟨g, 1, none⟩ = some (.int .i64 (d))) :
    Calls Try.prog 113 #[.slice (some ⟨g, 0, none⟩) 2 2] w fun e w' => e = .returned (.int .i64 (if c = 0 then d else c)) ∧ w = w' := by
  by_cases hc : c = 0
  · rw [if_pos hc]
    have b0 : (c == 0) = true := by simpa using hc
    have b1 : (c != 0) = false := by simpa using hc
    have HC := hid hc; clear hc
    by_cases hd : d = 0
    · have b2 : (d == 0) = true := by simpa using hd
      have b3 : (d != 0) = false := by simpa using hd
      have HD := hid hd; clear hd
      go_enter Try.func113, Try.ntmps113
      go_wp2_with fail
      refine wp_loop_rounds 3 ?_
      rw [rounds_succ]
      go_wp2_with fail
      rw [rounds_succ]
      go_wp2_with fail
      rw [rounds_succ]
      go_wp2_with fail
      go_ret
      exact ⟨by rw [HD.out]; rfl, rfl⟩
    · have b2 : (d == 0) = false := by simpa using hd
      have b3 : (d != 0) = true := by simpa using hd
      clear hd
      go_enter Try.func113, Try.ntmps113
      go_wp2_with fail
      refine wp_loop_rounds 3 ?_
      rw [rounds_succ]
      go_wp2_with fail
      rw [rounds_succ]
      go_wp2_with fail
      go_ret
      exact ⟨rfl, rfl⟩
  · rw [if_neg hc]
    have b0 : (c == 0) = false := by simpa using hc
    have b1 : (c != 0) = true := by simpa using hc
    clear hc
    go_enter Try.func113, Try.ntmps113
    go_wp2_with fail
    refine wp_loop_rounds 3 ?_
    rw [rounds_succ]
    go_wp2_with fail
    go_ret
    exact ⟨rfl, rfl⟩

set_option maxRecDepth 100000 in
set_option maxHeartbeats 2000000 in
theorem compare_any (a b c d : Int) (w : World) : Calls Try.prog 56 #[.agg #[(.int .u64 (a)), (.int .u64 (b))], .agg #[(.int .u64 (c)), (.int .u64 (d))]] w fun e w' => e = .returned (.int .i64 (pcmp (a, b) (c, d))) ∧ Below w.heap.size w w' := by
  have C1 := hid (fun W => cmp_any a c W)
  have C2 := hid (fun W => cmp_any b d W)
  have E : Hid (pcmp (a, b) (c, d) = if cmpI a c = 0 then cmpI b d else cmpI a c) := rfl
  rw [E.out]
  generalize cmpI a c = x at *
  generalize cmpI b d = y at *
  have O := hid (fun g W h0 h1 => or_any g x y W h0 h1)
  clear E
  generalize (if x = 0 then y else x) = z at *
  go_enter Try.func56, Try.ntmps56
  go_wp2_with fail
  go_region_held3 (fun W => W.cell? ⟨w.heap.size, 0, none⟩ = some (.int .u64 (a)) ∧ W.cell? ⟨w.heap.size, 1, none⟩ = some (.int .u64 (b)) ∧ W.cell? ⟨(w.heap.size + 1), 0, none⟩ = some (.int .u64 (c)) ∧ W.cell? ⟨(w.heap.size + 1), 1, none⟩ = some (.int .u64 (d))) (first | assumption | go_keep)
    (first | (go_at_call_of 114 a; refine (C1.out _).mono ?_; rintro e wa ⟨rfl, rfl⟩) | (go_at_call_of 114 b; refine (C2.out _).mono ?_; rintro e wa ⟨rfl, rfl⟩) | (go_at_call 113; refine (O.out _ _ (by go_simp) (by go_simp)).mono ?_; rintro e wa ⟨rfl, rfl⟩))
  all_goals
    go_wp2_with fail
    go_ret
    refine ⟨rfl, ?_⟩
    repeat' (first | exact Below.refl _ _ | with_reducible refine Below.alloc ?_ ?_ _ | with_reducible refine Below.setCell ?_ ?_ _ | with_reducible refine Below.drew ?_ | with_reducible refine below_drewN ?_ _ | refine Below.trans ?_ (Below.mono (by assumption) ?_))
    all_goals (first | omega | (simp <;> omega))

set_option maxRecDepth 100000 in
set_option maxHeartbeats 1000000 in
theorem ahead_any (a b c d : Int) (w : World) : Calls Try.prog 60 #[.agg #[(.int .u64 (a)), (.int .u64 (b))], .agg #[(.int .u64 (c)), (.int .u64 (d))]] w fun e w' => e = .returned (.bool (decide (lt (a, b) (c, d)))) ∧ Below w.heap.size w w' := by
  by_cases h1 : a < c
  · have e : decide (lt (a, b) (c, d)) = true := by simp [lt, h1]
    rw [e]
    go_enter Try.func60, Try.ntmps60
    go_wp2_with fail
    go_ret
    refine ⟨rfl, ?_⟩
    repeat' (first | exact Below.refl _ _ | with_reducible refine Below.alloc ?_ ?_ _ | with_reducible refine Below.setCell ?_ ?_ _ | with_reducible refine Below.drew ?_ | with_reducible refine below_drewN ?_ _ | refine Below.trans ?_ (Below.mono (by assumption) ?_))
    all_goals (first | omega | (simp <;> omega))
  · by_cases h2 : a = c
    · by_cases h3 : b < d
      · have e : decide (lt (a, b) (c, d)) = true := by simp [lt, h2, h3]
        rw [e]
        have q : (a == c) = true := by simpa using h2
        clear h2
        go_enter Try.func60, Try.ntmps60
        go_wp2_with fail
        go_ret
        refine ⟨rfl, ?_⟩
        repeat' (first | exact Below.refl _ _ | with_reducible refine Below.alloc ?_ ?_ _ | with_reducible refine Below.setCell ?_ ?_ _ | with_reducible refine Below.drew ?_ | with_reducible refine below_drewN ?_ _ | refine Below.trans ?_ (Below.mono (by assumption) ?_))
        all_goals (first | omega | (simp <;> omega))
      · have e : decide (lt (a, b) (c, d)) = false := by simp [lt, h2, h3]
        rw [e]
        have q : (a == c) = true := by simpa using h2
        clear h2
        go_enter Try.func60, Try.ntmps60
        go_wp2_with fail
        go_ret
        refine ⟨rfl, ?_⟩
        repeat' (first | exact Below.refl _ _ | with_reducible refine Below.alloc ?_ ?_ _ | with_reducible refine Below.setCell ?_ ?_ _ | with_reducible refine Below.drew ?_ | with_reducible refine below_drewN ?_ _ | refine Below.trans ?_ (Below.mono (by assumption) ?_))
        all_goals (first | omega | (simp <;> omega))
    · have e : decide (lt (a, b) (c, d)) = false := by simp [lt, h1, h2]
      rw [e]
      have q : (a == c) = false := by simpa using h2
      clear h2
      go_enter Try.func60, Try.ntmps60
      go_wp2_with fail
      go_ret
      refine ⟨rfl, ?_⟩
      repeat' (first | exact Below.refl _ _ | with_reducible refine Below.alloc ?_ ?_ _ | with_reducible refine Below.setCell ?_ ?_ _ | with_reducible refine Below.drew ?_ | with_reducible refine below_drewN ?_ _ | refine Below.trans ?_ (Below.mono (by assumption) ?_))
      all_goals (first | omega | (simp <;> omega))

set_option maxRecDepth 100000 in
set_option maxHeartbeats 1000000 in
theorem has_any (v : Value) (l : List Pr) (a b : Int) (w : World) (h : PRow w v l) : Calls Try.prog 67 #[v, .agg #[(.int .u64 (a)), (.int .u64 (b))]] w fun e w' => e = .returned (.bool (decide ((a, b) ∈ l))) ∧ Below w.heap.size w w' := by
  have HL := h.len
  obtain ⟨p, cap, rfl⟩ := h.form
  have H := hid h; clear h
  go_enter Try.func67, Try.ntmps67
  go_wp2_with fail
  have b3 := hid (Bx.new w a b 52)
  have BEL := hid (below_alloc w (.cells #[(.int .u64 (a)), (.int .u64 (b))] 52))
  go_loopw [9] (fun v9 wr => ∃ k : Nat, v9 = (.int .i64 (k)) ∧ k ≤ l.length ∧ Hid ((a, b) ∉ l.take k) ∧ Hid (Bx w.heap.size a b wr) ∧ Hid (Below w.heap.size w wr)) (fun v9 _ => l.length - (intOf v9).toNat)
  case atStart => exact ⟨0, rfl, Nat.zero_le _, hid (by simp), b3, BEL⟩
  case round =>
    clear b3 BEL
    obtain ⟨k, rfl, hk, NO, b3, BEL⟩ := hrel
    by_cases hgo : k < l.length
    · have hgo' : (k : Int) < (l.length : Int) := by omega
      obtain ⟨g, o, cap, hv, hcell⟩ := (H.out.below BEL.out).cell (by omega)
      simp only [Value.slice.injEq] at hv
      obtain ⟨hv, -, -⟩ := hv
      first | subst hv | (simp only [Option.some.injEq, Addr.mk.injEq] at hv; obtain ⟨rfl, rfl, -⟩ := hv)
      obtain ⟨d0, d1⟩ := hcell k hgo
      have ts := List.take_succ_eq_append_getElem hgo
      obtain ⟨x, hx⟩ : ∃ x, l[k] = x := ⟨_, rfl⟩
      rw [hx] at d0 d1 ts
      have HX := hid hx; have TS := hid ts
      clear hx ts hcell
      obtain ⟨x0, x1⟩ := x
      simp only at d0 d1
      have IN : Hid ((x0, x1) ∈ l) := by have := List.getElem_mem hgo; rw [HX.out] at this; exact this
      obtain ⟨b3_0, b3_1, b3_s⟩ := b3.out
      go_wp2_with fail
      · go_ret
        exact ⟨by have := IN.out; simp_all, bel_step BEL.out (below_alloc _ _)⟩
      all_goals
        refine ⟨⟨k + 1, by simp, hgo, ?_, b3.out.keep (below_alloc _ _), bel_step BEL.out (below_alloc _ _)⟩, by simp [intOf]; omega⟩
        show _ ∉ _
        rw [TS.out]
        have := NO.out
        simp_all
        try omega
    · have h1 : ¬ (k : Int) < (l.length : Int) := by omega
      rw [List.take_of_length_le (by omega)] at NO
      clear hgo
      go_wp2_with fail
      go_ret
      exact ⟨by simp [NO.out], BEL.out⟩

def Rises (l : List Pr) : Prop := l.Pairwise lt
instance (l : List Pr) : Decidable (Rises l) := by unfold Rises; infer_instance
theorem Rises.snoc {l : List Pr} {y x : Pr} (h : Rises (l ++ [y])) (hx : lt y x) : Rises (l ++ [y] ++ [x]) := by
  unfold Rises at *
  rw [List.pairwise_append]
  refine ⟨h, List.pairwise_singleton _ _, fun a ha b hb => ?_⟩
  obtain rfl := List.mem_singleton.1 hb
  rcases List.mem_append.1 ha with ha | ha
  · exact lt_trans ((List.pairwise_append.1 h).2.2 a ha y (List.mem_singleton.2 rfl)) hx
  · obtain rfl := List.mem_singleton.1 ha
    exact hx
theorem Rises.take {l : List Pr} (h : Rises l) (k : Nat) : Rises (l.take k) := List.Pairwise.sublist (List.take_sublist k l) h
theorem Rises.next {l : List Pr} (h : Rises l) (k : Nat) (hk : k + 1 < l.length) : lt l[k] l[k + 1] := List.pairwise_iff_getElem.1 h k (k + 1) (by omega) hk (by omega)
def rightL (l : List Pr) : Bool := decide (Rises l) && decide (l.length ≤ 1048576)

set_option maxRecDepth 100000 in
set_option maxHeartbeats 2000000 in
theorem right_any (v : Value) (l : List Pr) (w : World) (h : PRow w v l) : Calls Try.prog 62 #[v] w fun e w' => e = .returned (.bool (rightL l)) ∧ Below w.heap.size w w' := by
  have HL := h.len
  obtain ⟨p, cap, rfl⟩ := h.form
  have H := hid h; clear h
  go_enter Try.func62, Try.ntmps62
  go_wp2_with fail
  go_loopw [6] (fun v6 wr => ∃ k : Nat, v6 = (.int .i64 (k)) ∧ k ≤ l.length ∧ Hid (Rises (l.take k)) ∧ Hid (Below w.heap.size w wr)) (fun v6 _ => l.length - (intOf v6).toNat)
  case atStart => exact ⟨0, rfl, Nat.zero_le _, List.Pairwise.nil, Below.refl _ _⟩
  case round =>
    obtain ⟨k, rfl, hk, RI, BEL⟩ := hrel
    by_cases hgo : k < l.length
    · have hgo' : (k : Int) < (l.length : Int) := by omega
      have hwk : IntKind.i64.wrap ((k : Int) + 1) = ((k + 1 : Nat) : Int) := by rw [i64_ok _ (by omega) (by omega)]; omega
      by_cases hk0 : k = 0
      · subst hk0
        have q : ¬ (0 : Int) < ((0 : Nat) : Int) := by omega
        have one : Hid (Rises (l.take (0 + 1))) := by
          show Rises _
          rw [List.take_succ_eq_append_getElem hgo]
          exact List.pairwise_singleton _ _
        go_wp2_with fail
        go_big_region
        all_goals
          go_wp2_with fail
          exact ⟨⟨1, by simp, hgo, one, BEL.out.drew⟩, by simp [intOf]; omega⟩
      · obtain ⟨j, hj⟩ : ∃ j, k = j + 1 := ⟨k - 1, by omega⟩
        have HJ := hid hj
        have q : (0 : Int) < (k : Int) := by omega
        have q' : 0 < k := by omega
        have hjl : j < l.length := by omega
        have hb1 : (j : Int) < (l.length : Int) := by omega
        have hb2 : (0 : Int) ≤ (k : Int) := by omega
        have hb3 : (0 : Int) ≤ (j : Int) := by omega
        obtain ⟨g, o, cap, hv, hcell⟩ := (H.out.below BEL.out).cell (by omega)
        simp only [Value.slice.injEq] at hv
        obtain ⟨hv, -, -⟩ := hv
        subst hv
        obtain ⟨d0, d1⟩ := hcell k hgo
        obtain ⟨c0, c1⟩ := hcell j hjl
        have NX : Hid (Rises l → lt l[j] l[k]) := by subst hj; exact fun h => h.next j hgo
        have SN : Hid (lt l[j] l[k] → Rises (l.take (k + 1))) := fun h => by
          have r := RI.out
          subst hj
          rw [List.take_succ_eq_append_getElem hjl] at r
          rw [List.take_succ_eq_append_getElem hgo, List.take_succ_eq_append_getElem hjl]
          exact r.snoc h
        clear hcell
        generalize l[k] = x at *
        generalize l[j] = y at *
        obtain ⟨x0, x1⟩ := x
        obtain ⟨y0, y1⟩ := y
        simp only at d0 d1 c0 c1
        have A := hid (fun W => ahead_any y0 y1 x0 x1 W)
        clear hj hk0
        by_cases hlt : lt (y0, y1) (x0, x1)
        · have e : decide (lt (y0, y1) (x0, x1)) = true := by simpa using hlt
          rw [e] at A
          have SR := hid (SN.out hlt)
          clear hlt e SN NX
          go_wp2_with fail
          have hw1 : (k : Int) - 1 = (j : Int) := by have := HJ.out; omega
          have hw2 : IntKind.i64.wrap (j : Int) = (j : Int) := i64_ok _ (by omega) (by omega)
          have st : Below w.heap.size w wr.drew ∧ wr.drew.cell? ⟨g, o + k * 2, none⟩ = some (.int .u64 (x0)) ∧ wr.drew.cell? ⟨g, o + k * 2 + 1, none⟩ = some (.int .u64 (x1)) ∧ wr.drew.cell? ⟨g, o + j * 2, none⟩ = some (.int .u64 (y0)) ∧ wr.drew.cell? ⟨g, o + j * 2 + 1, none⟩ = some (.int .u64 (y1)) := ⟨BEL.out.drew, d0, d1, c0, c1⟩
          go_region_held3 (fun W => Below w.heap.size w W ∧ W.cell? ⟨g, o + k * 2, none⟩ = some (.int .u64 (x0)) ∧ W.cell? ⟨g, o + k * 2 + 1, none⟩ = some (.int .u64 (x1)) ∧ W.cell? ⟨g, o + j * 2, none⟩ = some (.int .u64 (y0)) ∧ W.cell? ⟨g, o + j * 2 + 1, none⟩ = some (.int .u64 (y1))) (first | assumption | go_keep)
            (first | (go_at_call 60; refine (A.out _).mono ?_; rintro e wa ⟨rfl, B⟩; have hx := (show Below w.heap.size w wa ∧ wa.cell? ⟨g, o + k * 2, none⟩ = some (.int .u64 (x0)) ∧ wa.cell? ⟨g, o + k * 2 + 1, none⟩ = some (.int .u64 (x1)) ∧ wa.cell? ⟨g, o + j * 2, none⟩ = some (.int .u64 (y0)) ∧ wa.cell? ⟨g, o + j * 2 + 1, none⟩ = some (.int .u64 (y1)) from ⟨bel_step st.1 B, cellB B st.2.1, cellB B st.2.2.1, cellB B st.2.2.2.1, cellB B st.2.2.2.2⟩); clear B))
          all_goals
            have hz := hid (And.left (by assumption : Below w.heap.size w wa ∧ _))
            go_wp2_with fail
            exact ⟨⟨k + 1, by simp, hgo, SR, hz.out⟩, by simp [intOf]; omega⟩
        · have e : decide (lt (y0, y1) (x0, x1)) = false := by simpa using hlt
          rw [e] at A
          have NR : Hid (rightL l = false) := by
            show _ = _
            have : ¬ Rises l := fun h => hlt (NX.out h)
            simp [rightL, this]
          clear hlt e SN NX
          go_wp2_with fail
          have hw1 : (k : Int) - 1 = (j : Int) := by have := HJ.out; omega
          have hw2 : IntKind.i64.wrap (j : Int) = (j : Int) := i64_ok _ (by omega) (by omega)
          have st : Below w.heap.size w wr.drew ∧ wr.drew.cell? ⟨g, o + k * 2, none⟩ = some (.int .u64 (x0)) ∧ wr.drew.cell? ⟨g, o + k * 2 + 1, none⟩ = some (.int .u64 (x1)) ∧ wr.drew.cell? ⟨g, o + j * 2, none⟩ = some (.int .u64 (y0)) ∧ wr.drew.cell? ⟨g, o + j * 2 + 1, none⟩ = some (.int .u64 (y1)) := ⟨BEL.out.drew, d0, d1, c0, c1⟩
          go_region_held3 (fun W => Below w.heap.size w W ∧ W.cell? ⟨g, o + k * 2, none⟩ = some (.int .u64 (x0)) ∧ W.cell? ⟨g, o + k * 2 + 1, none⟩ = some (.int .u64 (x1)) ∧ W.cell? ⟨g, o + j * 2, none⟩ = some (.int .u64 (y0)) ∧ W.cell? ⟨g, o + j * 2 + 1, none⟩ = some (.int .u64 (y1))) (first | assumption | go_keep)
            (first | (go_at_call 60; refine (A.out _).mono ?_; rintro e wa ⟨rfl, B⟩; have hx := (show Below w.heap.size w wa ∧ wa.cell? ⟨g, o + k * 2, none⟩ = some (.int .u64 (x0)) ∧ wa.cell? ⟨g, o + k * 2 + 1, none⟩ = some (.int .u64 (x1)) ∧ wa.cell? ⟨g, o + j * 2, none⟩ = some (.int .u64 (y0)) ∧ wa.cell? ⟨g, o + j * 2 + 1, none⟩ = some (.int .u64 (y1)) from ⟨bel_step st.1 B, cellB B st.2.1, cellB B st.2.2.1, cellB B st.2.2.2.1, cellB B st.2.2.2.2⟩); clear B))
          all_goals
            have hz := hid (And.left (by assumption : Below w.heap.size w wa ∧ _))
            go_wp2_with fail
            go_ret
            exact ⟨by rw [NR.out]; rfl, hz.out⟩
    · have h1 : ¬ (k : Int) < (l.length : Int) := by omega
      rw [List.take_of_length_le (by omega)] at RI
      have e : decide (Rises l) = true := by simpa using RI.out
      clear hgo
      by_cases hm : l.length ≤ 1048576
      · have E : Hid (rightL l = true) := by show _ = _; simp [rightL, e, hm]
        have hm' : (l.length : Int) ≤ 1048576 := by omega
        go_wp2_with fail
        go_ret
        exact ⟨by rw [E.out]; rfl, BEL.out⟩
      · have E : Hid (rightL l = false) := by show _ = _; simp [rightL, hm]
        have hm' : ¬ (l.length : Int) ≤ 1048576 := by omega
        go_wp2_with fail
        go_ret
        exact ⟨by rw [E.out]; rfl, BEL.out⟩

def withL (l : List Pr) (p : Pr) : List Pr := l.filter (fun x => decide (lt x p)) ++ [p] ++ l.filter (fun x => decide (lt p x))
def ofL (l : List Pr) : List Pr := l.foldl withL []
def unionL (a b : List Pr) : List Pr := b.foldl withL (ofL a)
def keptL (a b : List Pr) (has : Bool) : List Pr := a.filter (fun p => decide (p ∈ b) == has)
theorem filter_take_succ {l : List Pr} {k : Nat} {x : Pr} (f : Pr → Bool) (h : l.take (k + 1) = l.take k ++ [x]) : (l.take (k + 1)).filter f = (l.take k).filter f ++ (if f x then [x] else []) := by
  rw [h, List.filter_append]
  congr 1
  cases hx : f x <;> simp [hx]
theorem filter_take_len (l : List Pr) (f : Pr → Bool) (k : Nat) : ((l.take k).filter f).length ≤ l.length := by
  have := List.length_filter_le f (l.take k)
  rw [List.length_take] at this
  omega
theorem withL_len (l : List Pr) (p : Pr) : (withL l p).length ≤ l.length + 1 := by
  induction l with
  | nil => simp [withL]
  | cons x l ih =>
    simp only [withL, List.filter_cons, List.length_append, List.length_cons, List.length_nil] at ih ⊢
    have : ¬ (decide (lt x p) = true ∧ decide (lt p x) = true) := fun ⟨a, b⟩ => lt_asymm (by simpa using a) (by simpa using b)
    split <;> split <;> simp_all <;> omega

theorem Bx.keepN {T n : Nat} {x y : Int} {W W' : World} (h : Bx T x y W) (B : Below n W W') (hT : T < n) : Bx T x y W' :=
  ⟨(B.cell (p := ⟨T, 0, none⟩) hT).trans h.1, (B.cell (p := ⟨T, 1, none⟩) hT).trans h.2.1, by have := B.size; have := h.2.2; omega⟩

set_option maxRecDepth 100000 in
set_option maxHeartbeats 4000000 in
theorem with_any (v : Value) (l : List Pr) (a b : Int) (w : World) (h : PRow w v l) (hlen : l.length ≤ 10000000) : Calls Try.prog 119 #[v, .agg #[(.int .u64 (a)), (.int .u64 (b))]] w fun e w' => (∃ v', e = .returned v' ∧ POwn w.heap.size w' v' (withL l (a, b))) ∧ Below w.heap.size w w' := by
  obtain ⟨p, cap, rfl⟩ := h.form
  have H := hid h; clear h
  go_enter Try.func119, Try.ntmps119
  go_wp2_with fail
  have b3 := hid (Bx.new w a b 52)
  have BEL := hid (below_alloc w (.cells #[(.int .u64 (a)), (.int .u64 (b))] 52))
  go_loopw [5, 12] (fun v5 v12 wr => ∃ k : Nat, v12 = (.int .i64 (k)) ∧ k ≤ l.length ∧ Hid (POwn (w.heap.size + 1) wr v5 ((l.take k).filter (fun x => decide (lt x (a, b))))) ∧ Hid (Bx w.heap.size a b wr) ∧ Hid (Below w.heap.size w wr)) (fun _ v12 _ => l.length - (intOf v12).toNat)
  case atStart => exact ⟨0, rfl, Nat.zero_le _, POwn.nil _ _, b3, BEL⟩
  case round =>
    clear b3 BEL
    obtain ⟨k, rfl, hk, OW, b3, BEL⟩ := hrel
    by_cases hgo : k < l.length
    · have hgo' : (k : Int) < (l.length : Int) := by omega
      have hwk : IntKind.i64.wrap ((k : Int) + 1) = ((k + 1 : Nat) : Int) := by rw [i64_ok _ (by omega) (by omega)]; omega
      obtain ⟨g, o, cap, hv, hcell⟩ := (H.out.below BEL.out).cell (by omega)
      simp only [Value.slice.injEq] at hv
      obtain ⟨hv, -, -⟩ := hv
      first | subst hv | (simp only [Option.some.injEq, Addr.mk.injEq] at hv; obtain ⟨rfl, rfl, -⟩ := hv)
      obtain ⟨d0, d1⟩ := hcell k hgo
      have ts := List.take_succ_eq_append_getElem hgo
      obtain ⟨x, hx⟩ : ∃ x, l[k] = x := ⟨_, rfl⟩
      rw [hx] at d0 d1 ts
      have HX := hid hx; have TS := hid ts
      clear hx ts hcell
      obtain ⟨x0, x1⟩ := x
      simp only at d0 d1
      have FT := hid (filter_take_succ (fun x => decide (lt x (a, b))) TS.out)
      obtain ⟨b3_0, b3_1, b3_s⟩ := b3.out
      go_wp2_with fail
      refine (ahead_any x0 x1 a b _).mono ?_
      rintro e w2 ⟨rfl, B⟩
      have bE := hid ((Bx.new wr x0 x1 52).keep B)
      replace B := blift B
      clear b3_0 b3_1 b3_s d0 d1
      replace BEL := hid (bel_step BEL.out B)
      replace OW := hid (OW.out.below B)
      replace b3 := hid (b3.out.keep B)
      clear B
      obtain ⟨bE_0, bE_1, bE_s⟩ := bE.out
      have size := BEL.out.size
      have s0 := b3.out.2.2
      obtain ⟨E, hE⟩ : ∃ E, E = wr.heap.size := ⟨_, rfl⟩
      rw [← hE] at bE bE_0 bE_1 bE_s ⊢
      clear hE
      by_cases hlt : lt (x0, x1) (a, b)
      · have e : decide (lt (x0, x1) (a, b)) = true := by simpa using hlt
        rw [e, if_pos rfl] at FT
        rw [e]
        clear hlt e
        go_wp2_with (first | (at_builtin; refine app1 rfl _ _ rfl (w.heap.size + 1) _ _ x0 x1 w2 rfl rfl rfl OW.out (by omega) ?_ ?_))
        · have := filter_take_len l (fun x => decide (lt x (a, b))) k; omega
        · intro v' w3 hown hbel
          have OW := hid hown
          rw [← FT.out] at OW
          have BEL := hid (BEL.out.trans (hbel.mono (by omega)))
          have b3 := hid (b3.out.keepN hbel (by omega))
          clear hown hbel
          go_wp2_with fail
          exact ⟨⟨k + 1, by simp, hgo, OW, b3, BEL⟩, by simp [intOf]; omega⟩
      · have e : decide (lt (x0, x1) (a, b)) = false := by simpa using hlt
        rw [e] at FT
        simp only [Bool.false_eq_true, if_false, List.append_nil] at FT
        rw [e]
        rw [← FT.out] at OW
        clear hlt e
        go_wp2_with fail
        exact ⟨⟨k + 1, by simp, hgo, OW, b3, BEL⟩, by simp [intOf]; omega⟩
    · have h1 : ¬ (k : Int) < (l.length : Int) := by omega
      rw [List.take_of_length_le (by omega)] at OW
      have s0 := b3.out.2.2
      have lenF : (l.filter (fun x => decide (lt x (a, b)))).length ≤ l.length := List.length_filter_le _ _
      obtain ⟨b3_0, b3_1, b3_s⟩ := b3.out
      clear hgo
      go_wp2_with (first | (at_builtin; refine app1 rfl _ _ rfl (w.heap.size + 1) _ _ a b wr rfl rfl rfl OW.out (by omega) (by omega) ?_))
      intro v' w3 hown hbel
      have OW := hid hown
      replace BEL := hid (BEL.out.trans (hbel.mono (by omega)))
      replace b3 := hid (b3.out.keepN hbel (by omega))
      clear hown hbel b3_0 b3_1 b3_s
      go_wp2_with fail
      go_loopw [5, 30] (fun v5 v30 wr => ∃ k : Nat, v30 = (.int .i64 (k)) ∧ k ≤ l.length ∧ Hid (POwn (w.heap.size + 1) wr v5 (l.filter (fun x => decide (lt x (a, b))) ++ [(a, b)] ++ (l.take k).filter (fun x => decide (lt (a, b) x)))) ∧ Hid (Bx w.heap.size a b wr) ∧ Hid (Below w.heap.size w wr)) (fun _ v30 _ => l.length - (intOf v30).toNat)
      case atStart => exact ⟨0, rfl, Nat.zero_le _, by simpa using OW, b3, BEL⟩
      case round =>
        clear b3 BEL OW hk h1 s0
        obtain ⟨k, rfl, hk, OW, b3, BEL⟩ := hrel
        by_cases hgo : k < l.length
        · have hgo' : (k : Int) < (l.length : Int) := by omega
          have hwk : IntKind.i64.wrap ((k : Int) + 1) = ((k + 1 : Nat) : Int) := by rw [i64_ok _ (by omega) (by omega)]; omega
          obtain ⟨g, o, cap, hv, hcell⟩ := (H.out.below BEL.out).cell (by omega)
          simp only [Value.slice.injEq] at hv
          obtain ⟨hv, -, -⟩ := hv
          first | subst hv | (simp only [Option.some.injEq, Addr.mk.injEq] at hv; obtain ⟨rfl, rfl, -⟩ := hv)
          obtain ⟨d0, d1⟩ := hcell k hgo
          have ts := List.take_succ_eq_append_getElem hgo
          obtain ⟨x, hx⟩ : ∃ x, l[k] = x := ⟨_, rfl⟩
          rw [hx] at d0 d1 ts
          have HX := hid hx; have TS := hid ts
          clear hx ts hcell
          obtain ⟨x0, x1⟩ := x
          simp only at d0 d1
          have FT := hid (filter_take_succ (fun x => decide (lt (a, b) x)) TS.out)
          obtain ⟨b3_0, b3_1, b3_s⟩ := b3.out
          go_wp2_with fail
          refine (ahead_any a b x0 x1 _).mono ?_
          rintro e w2 ⟨rfl, B⟩
          have bE := hid ((Bx.new wr x0 x1 52).keep B)
          replace B := blift B
          clear b3_0 b3_1 b3_s d0 d1
          replace BEL := hid (bel_step BEL.out B)
          replace OW := hid (OW.out.below B)
          replace b3 := hid (b3.out.keep B)
          clear B
          obtain ⟨bE_0, bE_1, bE_s⟩ := bE.out
          have size := BEL.out.size
          have s0 := b3.out.2.2
          obtain ⟨E, hE⟩ : ∃ E, E = wr.heap.size := ⟨_, rfl⟩
          rw [← hE] at bE bE_0 bE_1 bE_s ⊢
          clear hE
          by_cases hlt : lt (a, b) (x0, x1)
          · have e : decide (lt (a, b) (x0, x1)) = true := by simpa using hlt
            rw [e, if_pos rfl] at FT
            rw [e]
            clear hlt e
            go_wp2_with (first | (at_builtin; refine app1 rfl _ _ rfl (w.heap.size + 1) _ _ x0 x1 w2 rfl rfl rfl OW.out (by omega) ?_ ?_))
            · have := filter_take_len l (fun x => decide (lt (a, b) x)) k; simp only [List.length_append, List.length_singleton]; omega
            · intro v' w3 hown hbel
              have OW := hid hown
              have BEL := hid (BEL.out.trans (hbel.mono (by omega)))
              have b3 := hid (b3.out.keepN hbel (by omega))
              clear hown hbel
              go_wp2_with fail
              exact ⟨⟨k + 1, by simp, hgo, hid (by first | exact OW.out | (rw [FT.out]; simpa using OW.out)), b3, BEL⟩, by simp [intOf]; omega⟩
          · have e : decide (lt (a, b) (x0, x1)) = false := by simpa using hlt
            rw [e] at FT
            simp only [Bool.false_eq_true, if_false, List.append_nil] at FT
            rw [e]
            rw [← FT.out] at OW
            clear hlt e
            go_wp2_with fail
            exact ⟨⟨k + 1, by simp, hgo, hid (by first | exact OW.out | (rw [FT.out]; simpa using OW.out)), b3, BEL⟩, by simp [intOf]; omega⟩
        · have h1 : ¬ (k : Int) < (l.length : Int) := by omega
          rw [List.take_of_length_le (by omega)] at OW
          clear hgo
          go_wp2_with fail
          go_ret
          exact ⟨⟨_, rfl, POwn.weaken (by simpa [withL] using OW.out) (by omega)⟩, BEL.out⟩

theorem fold_len (l : List Pr) : ∀ s : List Pr, (l.foldl withL s).length ≤ s.length + l.length := by
  induction l with
  | nil => intro s; simp
  | cons x l ih =>
    intro s
    have a := ih (withL s x)
    have b := withL_len s x
    simp only [List.foldl_cons, List.length_cons]
    omega
theorem ofL_len (l : List Pr) : (ofL l).length ≤ l.length := by have := fold_len l []; simpa [ofL] using this
theorem unionL_len (a b : List Pr) : (unionL a b).length ≤ a.length + b.length := by have := fold_len b (ofL a); have := ofL_len a; simp only [unionL]; omega
theorem fold_take_succ {l : List Pr} {k : Nat} {x : Pr} (s : List Pr) (h : l.take (k + 1) = l.take k ++ [x]) : (l.take (k + 1)).foldl withL s = withL ((l.take k).foldl withL s) x := by rw [h, List.foldl_append]; rfl

set_option maxRecDepth 100000 in
set_option maxHeartbeats 2000000 in
theorem of_any (v : Value) (l : List Pr) (w : World) (h : PRow w v l) (hlen : l.length ≤ 1000000) : Calls Try.prog 61 #[v] w fun e w' => (∃ v', e = .returned v' ∧ POwn w.heap.size w' v' (ofL l)) ∧ Below w.heap.size w w' := by
  obtain ⟨p, cap, rfl⟩ := h.form
  have H := hid h; clear h
  go_enter Try.func61, Try.ntmps61
  go_wp2_with fail
  go_loopw [3, 8] (fun v3 v8 wr => ∃ k : Nat, v8 = (.int .i64 (k)) ∧ k ≤ l.length ∧ Hid (POwn w.heap.size wr v3 ((l.take k).foldl withL [])) ∧ Hid (Below w.heap.size w wr)) (fun _ v8 _ => l.length - (intOf v8).toNat)
  case atStart => exact ⟨0, rfl, Nat.zero_le _, POwn.nil _ _, Below.refl _ _⟩
  case round =>
    obtain ⟨k, rfl, hk, N3, BEL⟩ := hrel
    by_cases hgo : k < l.length
    · have hgo' : (k : Int) < (l.length : Int) := by omega
      have hwk : IntKind.i64.wrap ((k : Int) + 1) = ((k + 1 : Nat) : Int) := by rw [i64_ok _ (by omega) (by omega)]; omega
      obtain ⟨g, o, cap, hv, hcell⟩ := (H.out.below BEL.out).cell (by omega)
      simp only [Value.slice.injEq] at hv
      obtain ⟨hv, -, -⟩ := hv
      first | subst hv | (simp only [Option.some.injEq, Addr.mk.injEq] at hv; obtain ⟨rfl, rfl, -⟩ := hv)
      obtain ⟨d0, d1⟩ := hcell k hgo
      have ts := List.take_succ_eq_append_getElem hgo
      obtain ⟨x, hx⟩ : ∃ x, l[k] = x := ⟨_, rfl⟩
      rw [hx] at d0 d1 ts
      have HX := hid hx; have TS := hid ts
      clear hx ts hcell
      obtain ⟨x0, x1⟩ := x
      simp only at d0 d1
      have FT := hid (fold_take_succ [] TS.out)
      have hL := fold_len (l.take k) []
      rw [List.length_take] at hL
      simp only [List.length_nil] at hL
      go_wp2_with fail
      refine (with_any _ _ x0 x1 _ (N3.out.row.below (below_alloc _ _)) (by omega)).mono ?_
      rintro e w2 ⟨⟨v', rfl, ho⟩, B⟩
      rw [← FT.out] at ho
      replace B := blift B
      have N3 := hid (ho.weaken (B' := w.heap.size) (by have := BEL.out.size; simp; omega))
      replace BEL := hid (bel_step BEL.out B)
      clear B
      clear ho d0 d1 hL
      go_wp2_with fail
      exact ⟨⟨k + 1, by simp, hgo, N3, BEL⟩, by simp [intOf]; omega⟩
    · have h1 : ¬ (k : Int) < (l.length : Int) := by omega
      rw [List.take_of_length_le (by omega)] at N3
      clear hgo
      go_wp2_with fail
      go_ret
      exact ⟨⟨_, rfl, N3.out⟩, BEL.out⟩

set_option maxRecDepth 100000 in
set_option maxHeartbeats 2000000 in
theorem union_any (v u : Value) (m l : List Pr) (w : World) (h' : PRow w v m) (h : PRow w u l) (hlen' : m.length ≤ 1000000) (hlen : l.length ≤ 1000000) : Calls Try.prog 78 #[v, u] w fun e w' => (∃ v', e = .returned v' ∧ POwn w.heap.size w' v' (unionL m l)) ∧ Below w.heap.size w w' := by
  obtain ⟨p, cap, rfl⟩ := h.form
  obtain ⟨p', cap', rfl⟩ := h'.form
  have H := hid h; clear h
  have H' := hid h'; clear h'
  go_enter Try.func78, Try.ntmps78
  go_wp2_with fail
  refine (of_any _ m _ H'.out hlen').mono ?_
  rintro e w1 ⟨⟨v1, rfl, ho⟩, B⟩
  have N5 := hid ho
  have BEL := hid B
  clear ho B
  go_wp2_with fail
  go_loopw [5, 12] (fun v3 v8 wr => ∃ k : Nat, v8 = (.int .i64 (k)) ∧ k ≤ l.length ∧ Hid (POwn w.heap.size wr v3 ((l.take k).foldl withL (ofL m))) ∧ Hid (Below w.heap.size w wr)) (fun _ v8 _ => l.length - (intOf v8).toNat)
  case atStart => exact ⟨0, rfl, Nat.zero_le _, N5, BEL⟩
  case round =>
    clear N5 BEL
    obtain ⟨k, rfl, hk, N3, BEL⟩ := hrel
    by_cases hgo : k < l.length
    · have hgo' : (k : Int) < (l.length : Int) := by omega
      have hwk : IntKind.i64.wrap ((k : Int) + 1) = ((k + 1 : Nat) : Int) := by rw [i64_ok _ (by omega) (by omega)]; omega
      obtain ⟨g, o, cap, hv, hcell⟩ := (H.out.below BEL.out).cell (by omega)
      simp only [Value.slice.injEq] at hv
      obtain ⟨hv, -, -⟩ := hv
      first | subst hv | (simp only [Option.some.injEq, Addr.mk.injEq] at hv; obtain ⟨rfl, rfl, -⟩ := hv)
      obtain ⟨d0, d1⟩ := hcell k hgo
      have ts := List.take_succ_eq_append_getElem hgo
      obtain ⟨x, hx⟩ : ∃ x, l[k] = x := ⟨_, rfl⟩
      rw [hx] at d0 d1 ts
      have HX := hid hx; have TS := hid ts
      clear hx ts hcell
      obtain ⟨x0, x1⟩ := x
      simp only at d0 d1
      have FT := hid (fold_take_succ (ofL m) TS.out)
      have hL := fold_len (l.take k) (ofL m)
      have hM := ofL_len m
      rw [List.length_take] at hL
      go_wp2_with fail
      refine (with_any _ _ x0 x1 _ (N3.out.row.below (below_alloc _ _)) (by omega)).mono ?_
      rintro e w2 ⟨⟨v', rfl, ho⟩, B⟩
      rw [← FT.out] at ho
      replace B := blift B
      have N3 := hid (ho.weaken (B' := w.heap.size) (by have := BEL.out.size; simp; omega))
      replace BEL := hid (bel_step BEL.out B)
      clear B
      clear ho d0 d1 hL hM
      go_wp2_with fail
      exact ⟨⟨k + 1, by simp, hgo, N3, BEL⟩, by simp [intOf]; omega⟩
    · have h1 : ¬ (k : Int) < (l.length : Int) := by omega
      rw [List.take_of_length_le (by omega)] at N3
      clear hgo
      go_wp2_with fail
      go_ret
      exact ⟨⟨_, rfl, N3.out⟩, BEL.out⟩

set_option maxRecDepth 100000 in
set_option maxHeartbeats 2000000 in
theorem kept_any (v u : Value) (l m : List Pr) (has : Bool) (w : World) (h : PRow w v l) (h' : PRow w u m) (hlen : l.length ≤ 1000000) : Calls Try.prog 79 #[v, u, .bool has] w fun e w' => (∃ v', e = .returned v' ∧ POwn w.heap.size w' v' (keptL l m has)) ∧ Below w.heap.size w w' := by
  obtain ⟨p, cap, rfl⟩ := h.form
  obtain ⟨p', cap', rfl⟩ := h'.form
  have H := hid h; clear h
  have H' := hid h'; clear h'
  go_enter Try.func79, Try.ntmps79
  go_wp2_with fail
  go_loopw [7, 12] (fun v7 v12 wr => ∃ k : Nat, v12 = (.int .i64 (k)) ∧ k ≤ l.length ∧ Hid (POwn w.heap.size wr v7 ((l.take k).filter (fun p => decide (p ∈ m) == has))) ∧ Hid (Below w.heap.size w wr)) (fun _ v12 _ => l.length - (intOf v12).toNat)
  case atStart => exact ⟨0, rfl, Nat.zero_le _, POwn.nil _ _, Below.refl _ _⟩
  case round =>
    obtain ⟨k, rfl, hk, OW, BEL⟩ := hrel
    by_cases hgo : k < l.length
    · have hgo' : (k : Int) < (l.length : Int) := by omega
      have hwk : IntKind.i64.wrap ((k : Int) + 1) = ((k + 1 : Nat) : Int) := by rw [i64_ok _ (by omega) (by omega)]; omega
      obtain ⟨g, o, cap, hv, hcell⟩ := (H.out.below BEL.out).cell (by omega)
      simp only [Value.slice.injEq] at hv
      obtain ⟨hv, -, -⟩ := hv
      first | subst hv | (simp only [Option.some.injEq, Addr.mk.injEq] at hv; obtain ⟨rfl, rfl, -⟩ := hv)
      obtain ⟨d0, d1⟩ := hcell k hgo
      have ts := List.take_succ_eq_append_getElem hgo
      obtain ⟨x, hx⟩ : ∃ x, l[k] = x := ⟨_, rfl⟩
      rw [hx] at d0 d1 ts
      have HX := hid hx; have TS := hid ts
      clear hx ts hcell
      obtain ⟨x0, x1⟩ := x
      simp only at d0 d1
      have FT := hid (filter_take_succ (fun p => decide (p ∈ m) == has) TS.out)
      go_wp2_with fail
      refine (has_any _ m x0 x1 _ ((H'.out.below BEL.out).below (below_alloc _ _))).mono ?_
      rintro e w2 ⟨rfl, B⟩
      have bE := hid ((Bx.new wr x0 x1 52).keep B)
      replace B := blift B
      clear d0 d1
      replace BEL := hid (bel_step BEL.out B)
      replace OW := hid (OW.out.below B)
      clear B
      obtain ⟨bE_0, bE_1, bE_s⟩ := bE.out
      have size := BEL.out.size
      obtain ⟨E, hE⟩ : ∃ E, E = wr.heap.size := ⟨_, rfl⟩
      rw [← hE] at bE bE_0 bE_1 bE_s ⊢
      clear hE
      generalize decide ((x0, x1) ∈ m) = r at *
      cases hr : (r == has)
      · rw [hr] at FT
        simp only [Bool.false_eq_true, if_false, List.append_nil] at FT
        rw [← FT.out] at OW
        go_wp2_with fail
        exact ⟨⟨k + 1, by simp, hgo, OW, BEL⟩, by simp [intOf]; omega⟩
      · rw [hr, if_pos rfl] at FT
        go_wp2_with (first | (at_builtin; refine app1 rfl _ _ rfl (w.heap.size) u7 _ x0 x1 w2 rfl rfl rfl OW.out (by omega) ?_ ?_))
        · have := filter_take_len l (fun p => decide (p ∈ m) == has) k; omega
        · intro v' w3 hown hbel
          have OW := hid hown
          rw [← FT.out] at OW
          have BEL := hid (BEL.out.trans hbel)
          clear hown hbel
          go_wp2_with fail
          exact ⟨⟨k + 1, by simp, hgo, OW, BEL⟩, by simp [intOf]; omega⟩
    · have h1 : ¬ (k : Int) < (l.length : Int) := by omega
      rw [List.take_of_length_le (by omega)] at OW
      clear hgo
      go_wp2_with fail
      go_ret
      exact ⟨⟨_, rfl, OW.out⟩, BEL.out⟩

abbrev Tr := List Pr × List Pr
def TPair (w : World) (vA vD : Value) (t : Tr) : Prop := PRow w vA t.1 ∧ PRow w vD t.2
theorem TPair.below {w w' : World} {vA vD : Value} {t : Tr} (h : TPair w vA vD t) (hb : Below w.heap.size w w') : TPair w' vA vD t := ⟨h.1.below hb, h.2.below hb⟩
def TRow (w : World) (v : Value) (l : List Tr) : Prop :=
  ∃ p cap, v = .slice p l.length cap ∧ l.length ≤ cap ∧ (p = none → cap = 0) ∧ cap ≤ 9223372036854775807 ∧ (0 < l.length → ∃ g o : Nat, p = some ⟨g, o, none⟩ ∧ ∀ j t, l[j]? = some t → ∃ vA vD, w.cell? ⟨g, o + j * 2, none⟩ = some vA ∧ w.cell? ⟨g, o + j * 2 + 1, none⟩ = some vD ∧ TPair w vA vD t)
theorem TRow.below {w w' : World} {v : Value} {l : List Tr} (h : TRow w v l) (hb : Below w.heap.size w w') : TRow w' v l := by
  obtain ⟨p, cap, e, h1, h2, h4, h3⟩ := h
  refine ⟨p, cap, e, h1, h2, h4, fun hl => ?_⟩
  obtain ⟨g, o, e, h3⟩ := h3 hl
  refine ⟨g, o, e, fun j t hj => ?_⟩
  obtain ⟨vA, vD, c0, c1, ht⟩ := h3 j t hj
  exact ⟨vA, vD, cellB hb c0, cellB hb c1, ht.below hb⟩
theorem TRow.form {w : World} {v : Value} {l : List Tr} (h : TRow w v l) : ∃ p cap, v = .slice p l.length cap := by
  obtain ⟨p, cap, e, _⟩ := h
  exact ⟨p, cap, e⟩
theorem TRow.len {w : World} {v : Value} {l : List Tr} (h : TRow w v l) : (l.length : Int) ≤ 9223372036854775807 := by
  obtain ⟨p, cap, e, h1, h2, h4, _⟩ := h
  omega
theorem TRow.cell {w : World} {v : Value} {l : List Tr} (h : TRow w v l) (hl : 0 < l.length) : ∃ g o cap : Nat, v = .slice (some ⟨g, o, none⟩) l.length cap ∧ ∀ k (hk : k < l.length), ∃ vA vD, w.cell? ⟨g, o + k * 2, none⟩ = some vA ∧ w.cell? ⟨g, o + k * 2 + 1, none⟩ = some vD ∧ TPair w vA vD l[k] := by
  obtain ⟨p, cap, e, h1, h2, h4, hx⟩ := h
  obtain ⟨g, o, rfl, hx'⟩ := hx hl
  exact ⟨g, o, cap, e, fun k hk => hx' k _ (List.getElem?_eq_getElem hk)⟩
abbrev Vx (T : Nat) (x y : Value) (W : World) : Prop := W.cell? ⟨T, 0, none⟩ = some x ∧ W.cell? ⟨T, 1, none⟩ = some y ∧ T < W.heap.size
theorem Vx.keep {T : Nat} {x y : Value} {W W' : World} (h : Vx T x y W) (B : Below W.heap.size W W') : Vx T x y W' :=
  ⟨cellB B h.1, cellB B h.2.1, by have := B.size; have := h.2.2; omega⟩
theorem Vx.new (W : World) (x y : Value) (t : Nat) : Vx W.heap.size x y (W.alloc (.cells #[x, y] t)) := ⟨by go_simp, by go_simp, by simp⟩

def oneL (t : Tr) : Bool := rightL t.1 && rightL t.2 && decide ((keptL t.1 t.2 true).length = 0)
def saysL (l : List Tr) (p : Pr) : Int := l.foldl (fun out t => if p ∈ t.2 then 2 else if p ∈ t.1 then 1 else out) 0

set_option maxRecDepth 100000 in
set_option maxHeartbeats 2000000 in
theorem one_any (vA vD : Value) (t : Tr) (w : World) (h : TPair w vA vD t) (hlen : t.1.length ≤ 1000000) : Calls Try.prog 37 #[.agg #[vA, vD]] w fun e w' => e = .returned (.bool (oneL t)) ∧ Below w.heap.size w w' := by
  obtain ⟨A, D⟩ := t
  obtain ⟨hA, hD⟩ := h
  simp only at hA hD hlen
  obtain ⟨pA, cA, rfl⟩ := hA.form
  obtain ⟨pD, cD, rfl⟩ := hD.form
  have HA := hid hA; have HD := hid hD; clear hA hD
  have b1 := hid (Vx.new w (.slice pA A.length cA) (.slice pD D.length cD) 24)
  have BEL := hid (below_alloc w (.cells #[.slice pA A.length cA, .slice pD D.length cD] 24))
  have E : Hid (oneL (A, D) = (rightL A && rightL D && decide ((keptL A D true).length = 0))) := rfl
  rw [E.out]
  go_enter Try.func37, Try.ntmps37
  go_wp2_with fail
  refine (right_any _ A _ (HA.out.below BEL.out)).mono ?_
  rintro e w1 ⟨rfl, B⟩
  replace BEL := hid (bel_step BEL.out B)
  replace b1 := hid (b1.out.keep B)
  clear B
  cases hr : rightL A
  · have HR := hid hr
    clear hr
    go_wp2_with fail
    go_ret
    exact ⟨by simp [HR.out], BEL.out⟩
  · have HR := hid hr
    clear hr
    obtain ⟨b1_0, b1_1, b1_s⟩ := b1.out
    go_wp2_with fail
    refine (right_any _ D _ (HD.out.below BEL.out)).mono ?_
    rintro e w2 ⟨rfl, B⟩
    clear b1_0 b1_1 b1_s
    replace BEL := hid (bel_step BEL.out B)
    replace b1 := hid (b1.out.keep B)
    clear B
    cases hd : rightL D
    · have HS := hid hd
      clear hd
      go_wp2_with fail
      go_ret
      exact ⟨by simp [HR.out, HS.out], BEL.out⟩
    · have HS := hid hd
      clear hd
      obtain ⟨b1_0, b1_1, b1_s⟩ := b1.out
      go_wp2_with fail
      refine (kept_any _ _ A D true _ (HA.out.below BEL.out) (HD.out.below BEL.out) hlen).mono ?_
      rintro e w3 ⟨⟨v3, rfl, h3⟩, B⟩
      obtain ⟨p3, c3, rfl⟩ := h3.row.form
      clear b1_0 b1_1 b1_s
      replace BEL := hid (bel_step BEL.out B)
      replace b1 := hid (b1.out.keep B)
      clear B
      go_wp2_with fail
      go_ret
      refine ⟨?_, BEL.out⟩
      simp only [HR.out, HS.out, Bool.true_and]
      have q : ((↑(keptL A D true).length : Int) == 0) = decide ((keptL A D true).length = 0) := by rw [Bool.eq_iff_iff]; simp
      rw [← q]
      rfl

set_option maxRecDepth 100000 in
set_option maxHeartbeats 2000000 in
theorem says_any (v : Value) (l : List Tr) (a b : Int) (w : World) (h : TRow w v l) : Calls Try.prog 96 #[v, .agg #[(.int .u64 (a)), (.int .u64 (b))]] w fun e w' => e = .returned (.int .i64 (saysL l (a, b))) ∧ Below w.heap.size w w' := by
  have HL := h.len
  obtain ⟨p, cap, rfl⟩ := h.form
  have H := hid h; clear h
  go_enter Try.func96, Try.ntmps96
  go_wp2_with fail
  have b3 := hid (Bx.new w a b 52)
  have BEL := hid (below_alloc w (.cells #[(.int .u64 (a)), (.int .u64 (b))] 52))
  go_loopw [5, 10] (fun v5 v10 wr => ∃ (k : Nat) (o : Int), v10 = (.int .i64 (k)) ∧ k ≤ l.length ∧ v5 = (.int .i64 (o)) ∧ Hid (o = saysL (l.take k) (a, b)) ∧ Hid (Bx w.heap.size a b wr) ∧ Hid (Below w.heap.size w wr)) (fun _ v10 _ => l.length - (intOf v10).toNat)
  case atStart => exact ⟨0, 0, rfl, Nat.zero_le _, rfl, rfl, b3, BEL⟩
  case round =>
    clear b3 BEL
    obtain ⟨k, out, rfl, hk, rfl, OUT, b3, BEL⟩ := hrel
    by_cases hgo : k < l.length
    · have hgo' : (k : Int) < (l.length : Int) := by omega
      have hwk : IntKind.i64.wrap ((k : Int) + 1) = ((k + 1 : Nat) : Int) := by rw [i64_ok _ (by omega) (by omega)]; omega
      obtain ⟨g, o, cap, hv, hcell⟩ := (H.out.below BEL.out).cell (by omega)
      simp only [Value.slice.injEq] at hv
      obtain ⟨hv, -, -⟩ := hv
      subst hv
      obtain ⟨vA, vD, d0, d1, hA, hD⟩ := hcell k hgo
      have ts := List.take_succ_eq_append_getElem hgo
      generalize l[k] = t at *
      obtain ⟨A, D⟩ := t
      simp only at hA hD
      have SS : Hid (saysL (l.take (k + 1)) (a, b) = if (a, b) ∈ D then 2 else if (a, b) ∈ A then 1 else saysL (l.take k) (a, b)) := by
        show _ = _
        rw [ts]; simp only [saysL, List.foldl_append, List.foldl_cons, List.foldl_nil]
      clear ts hcell
      obtain ⟨pA, cA, rfl⟩ := hA.form
      obtain ⟨pD, cD, rfl⟩ := hD.form
      have HA := hid hA; have HD := hid hD; clear hA hD
      obtain ⟨b3_0, b3_1, b3_s⟩ := b3.out
      go_wp2_with fail
      refine (has_any _ A a b _ (HA.out.below (below_alloc _ _))).mono ?_
      rintro e w2 ⟨rfl, B⟩
      have bT := hid ((Vx.new wr (.slice pA A.length cA) (.slice pD D.length cD) 24).keep B)
      replace B := blift B
      replace HD := hid (HD.out.below B)
      clear d0 d1 b3_0 b3_1 b3_s HA
      replace BEL := hid (bel_step BEL.out B)
      replace b3 := hid (b3.out.keep B)
      clear B
      obtain ⟨b3_0, b3_1, b3_s⟩ := b3.out
      obtain ⟨bT_0, bT_1, bT_s⟩ := bT.out
      obtain ⟨E, hE⟩ : ∃ E, E = wr.heap.size := ⟨_, rfl⟩
      rw [← hE] at bT bT_0 bT_1 bT_s ⊢
      clear hE
      have SS2 : Hid (saysL (l.take (k + 1)) (a, b) = if (a, b) ∈ D then 2 else if decide ((a, b) ∈ A) = true then 1 else out) := by
        show _ = _
        rw [SS.out, OUT.out]; simp
      clear SS
      generalize decide ((a, b) ∈ A) = rA at *
      cases rA
      all_goals
        go_wp2_with fail
        refine (has_any _ D a b _ HD.out).mono ?_
        rintro e w3 ⟨rfl, B⟩
        clear b3_0 b3_1 b3_s bT_0 bT_1 bT_s
        replace BEL := hid (bel_step BEL.out B)
        replace b3 := hid (b3.out.keep B)
        clear B
        by_cases hD' : (a, b) ∈ D
        · have e : decide ((a, b) ∈ D) = true := by simpa using hD'
          have SE : Hid (saysL (l.take (k + 1)) (a, b) = 2) := by show _ = _; rw [SS2.out, if_pos hD']
          rw [e]
          clear hD' e
          go_wp2_with fail
          exact ⟨⟨k + 1, 2, by simp, hgo, rfl, SE.out.symm, b3, BEL⟩, by simp [intOf]; omega⟩
        · have e : decide ((a, b) ∈ D) = false := by simpa using hD'
          have SE := hid (SS2.out.trans (if_neg hD'))
          rw [e]
          clear hD' e
          go_wp2_with fail
          exact ⟨⟨k + 1, _, by simp, hgo, rfl, hid (by have := SE.out; simp at this; exact this.symm), b3, BEL⟩, by simp [intOf]; omega⟩
    · have h1 : ¬ (k : Int) < (l.length : Int) := by omega
      rw [List.take_of_length_le (by omega)] at OUT
      clear hgo
      go_wp2_with fail
      go_ret
      exact ⟨by rw [← OUT.out]; rfl, BEL.out⟩

abbrev VV (w : World) (T : Nat) (x y : Value) (g o0 o1 : Nat) (p q : Value) (W : World) : Prop := Below w.heap.size w W ∧ W.cell? ⟨T, 0, none⟩ = some x ∧ W.cell? ⟨T, 1, none⟩ = some y ∧ W.cell? ⟨g, o0, none⟩ = some p ∧ W.cell? ⟨g, o1, none⟩ = some q
theorem VV.keep {w : World} {T : Nat} {x y : Value} {g o0 o1 : Nat} {p q : Value} {W W' : World} (h : VV w T x y g o0 o1 p q W) (B : Below W.heap.size W W') : VV w T x y g o0 o1 p q W' :=
  ⟨bel_step h.1 B, cellB B h.2.1, cellB B h.2.2.1, cellB B h.2.2.2.1, cellB B h.2.2.2.2⟩

theorem POwn.keepK {K : Nat → Prop} {B : Nat} {w w' : World} {v : Value} {l : List Pr} (h : POwn B w v l) (hk : Keeps K w w') (hK : ∀ k, v.ownBlock = some k → K k) : POwn B w' v l := by
  refine ⟨h.1, ?_⟩
  rcases h.2 with h0 | ⟨g, cap, cur, e, hb, hg, rest⟩
  · exact .inl h0
  · exact .inr ⟨g, cap, cur, e, hb, (hk.block g (Array.getElem?_eq_some_iff.1 hg).1 (hK g (by rw [e]; rfl))).trans hg, rest⟩
structure OutI (W4 : World) (T : Nat) (lA lD : List Pr) (vA vD : Value) (wr : World) : Prop where
  keep : Keeps (fun k => k ≠ T) W4 wr
  c0 : wr.cell? ⟨T, 0, none⟩ = some vA
  c1 : wr.cell? ⟨T, 1, none⟩ = some vD
  f0 : wr.frozen? ⟨T, 0, none⟩ = false
  f1 : wr.frozen? ⟨T, 1, none⟩ = false
  oA : POwn W4.heap.size wr vA lA
  oD : POwn W4.heap.size wr vD lD
  apart : ∀ k, vA.ownBlock = some k → vD.ownBlock ≠ some k
  lt : T < W4.heap.size
theorem OutI.below {W4 : World} {T : Nat} {lA lD : List Pr} {vA vD : Value} {wr w' : World} (I : OutI W4 T lA lD vA vD wr) (B : Below wr.heap.size wr w') : OutI W4 T lA lD vA vD w' := by
  have hT := World.lt_of_cell I.c0
  exact ⟨I.keep.trans (.of_below B), cellB B I.c0, cellB B I.c1, (B.frozen (p := ⟨T, 0, none⟩) hT).trans I.f0, (B.frozen (p := ⟨T, 1, none⟩) hT).trans I.f1, I.oA.below B, I.oD.below B, I.apart, I.lt⟩
theorem POwn.fresh {B : Nat} {w : World} {v : Value} {l : List Pr} (h : POwn B w v l) {T : Nat} (hT : T < B) : v.ownBlock ≠ some T := fun e => by have := h.lt T e; omega
def mval (oA oD nA nD uA uD : Value) (ob : Bool) (n : Int) : Value := .agg #[oA, oD, nA, nD, .bool ob, .int .i64 n, uA, uD]

structure Mg where
  older : Tr
  newer : Tr
  oldest : Bool
  at_ : Int
  out : Tr
  deriving DecidableEq
structure MIs (w : World) (oA oD nA nD uA uD : Value) (m : Mg) : Prop where
  o : TPair w oA oD m.older
  n : TPair w nA nD m.newer
  u : TPair w uA uD m.out
theorem MIs.below {w w' : World} {oA oD nA nD uA uD : Value} {m : Mg} (h : MIs w oA oD nA nD uA uD m) (hb : Below w.heap.size w w') : MIs w' oA oD nA nD uA uD m := ⟨h.o.below hb, h.n.below hb, h.u.below hb⟩
abbrev MB (w : World) (T : Nat) (oA oD nA nD : Value) (ob : Bool) (n : Int) (uA uD : Value) (W : World) : Prop :=
  Below w.heap.size w W ∧ W.cell? ⟨T, 0, none⟩ = some oA ∧ W.cell? ⟨T, 1, none⟩ = some oD ∧ W.cell? ⟨T, 2, none⟩ = some nA ∧ W.cell? ⟨T, 3, none⟩ = some nD ∧ W.cell? ⟨T, 4, none⟩ = some (.bool ob) ∧ W.cell? ⟨T, 5, none⟩ = some (.int .i64 n) ∧ W.cell? ⟨T, 6, none⟩ = some uA ∧ W.cell? ⟨T, 7, none⟩ = some uD ∧ T < W.heap.size
theorem MB.keep {w : World} {T : Nat} {oA oD nA nD : Value} {ob : Bool} {n : Int} {uA uD : Value} {W W' : World} (h : MB w T oA oD nA nD ob n uA uD W) (B : Below W.heap.size W W') : MB w T oA oD nA nD ob n uA uD W' := by
  obtain ⟨h0, h1, h2, h3, h4, h5, h6, h7, h8, h9⟩ := h
  have := B.size
  exact ⟨bel_step h0 B, cellB B h1, cellB B h2, cellB B h3, cellB B h4, cellB B h5, cellB B h6, cellB B h7, cellB B h8, by omega⟩
theorem MB.new (w : World) (oA oD nA nD : Value) (ob : Bool) (n : Int) (uA uD : Value) (t : Nat) : MB w w.heap.size oA oD nA nD ob n uA uD (w.alloc (.cells #[oA, oD, nA, nD, .bool ob, .int .i64 n, uA, uD] t)) :=
  ⟨below_alloc _ _, by go_simp, by go_simp, by go_simp, by go_simp, by go_simp, by go_simp, by go_simp, by go_simp, by simp⟩
def Mg.small (m : Mg) : Prop := m.older.1.length ≤ 200000 ∧ m.older.2.length ≤ 200000 ∧ m.newer.1.length ≤ 200000 ∧ m.newer.2.length ≤ 200000

end Go.Proofs.Ytlkdkhmdmgchbaa
