/- The second logic: chapter 11: spoil; the law TiersPush. -/
import Derived.Test.YtlkdkhmdmgchbaaJV
import Derived.Test.YtlkdkhmdmgchbaaJM
import Derived.Test.YtlkdkhmdmgchbaaJT
import Derived.Test.YtlkdkhmdmgchbaaJD
import Derived.Test.YtlkdkhmdmgchbaaTC
namespace Go.Proofs.Ytlkdkhmdmgchbaa
set_option linter.unusedSimpArgs false
set_option linter.unusedVariables false
open Go.RowKit
def isVar : Key → Bool
  | .tmp _ => true
  | .cell _ _ => true
  | _ => false
/-- slots and cells that lean on a zone of such data. -/
def keptK (z : Nat) (l : List (Key × D)) : Row := l.map fun x => (x.1, .av (.c [z] x.2))
theorem fnd_keptK_ne (z : Nat) {k : Key} (h : isVar k = false) : ∀ l : List (Key × D), (∀ x ∈ l, isVar x.1 = true) → fnd (keptK z l) k = none
  | [], _ => rfl
  | x :: l, hl => by
    simp only [keptK, List.map_cons, fnd]
    rw [if_neg (fun e => by have := hl x List.mem_cons_self; rw [e, h] at this; cases this)]
    exact fnd_keptK_ne z h l fun y hy => hl y (List.mem_cons_of_mem _ hy)
theorem fnd_keptK (z : Nat) (k : Key) : ∀ (l : List (Key × D)) {y : KV}, fnd (keptK z l) k = some y → ∃ d, (k, d) ∈ l ∧ y = .av (.c [z] d)
  | [], y, h => by cases h
  | x :: l, y, h => by
    simp only [keptK, List.map_cons, fnd] at h
    by_cases e : x.1 = k
    · rw [if_pos e] at h
      subst e
      exact ⟨x.2, List.mem_cons_self, by cases h; rfl⟩
    · rw [if_neg e] at h
      obtain ⟨d, h1, h2⟩ := fnd_keptK z k l h
      exact ⟨d, List.mem_cons_of_mem _ h1, h2⟩
theorem keptK_rd {L : St} {z : Nat} : ∀ {l : List (Key × D)}, (∀ x ∈ l, L x.1 = .av (.c [z] x.2)) → Rd L (keptK z l)
  | [], _ => Rd.nil
  | x :: l, h => Rd.cons (h x List.mem_cons_self) (keptK_rd fun y hy => h y (List.mem_cons_of_mem _ hy))
theorem keptK_mem {z : Nat} {σ : St} {l : List (Key × D)} (h : Rd σ (keptK z l)) : ∀ x ∈ l, σ x.1 = .av (.c [z] x.2) := by
  induction l with
  | nil => intro x hx; cases hx
  | cons y l ih =>
    intro x hx
    have h' : Rd σ ((y.1, .av (.c [z] y.2)) :: keptK z l) := h
    rcases List.mem_cons.1 hx with rfl | hx
    · exact h'.head
    · exact ih h'.tail x hx
section
variable {P : Program} {L : St}
/-- a number in a zone of such data is written over. -/
theorem hatch_stK {T : Tab P} {pz : List Nat} {t ty : TypeId} {ti : TI} {s : String} {e : Array Edge} {g : Option (Nat × Bool)} {x v : Operand} {r r' : Row} {z zn : Nat} {ds : List D} {k : Trc → Prop} (l : List (Key × D)) (ht : T.f t = some ti) (h1 : ti.size = 1)
    (hx : opd L x = some (r, .seg [z] (.st isU :: ds))) (hv : opd L v = some (r', .c [] (.st isU))) (hl : L (.zn z) = .zn .live) (hf : L (.zn zn) = .zn .free) (hp : pz.contains z = false) (hiv : ∀ y ∈ l, isVar y.1 = true) (hk0 : ∀ y ∈ l, L y.1 = .av (.c [z] y.2)) (hu : ∀ y ∈ l, Nums y.2)
    (hk : k ⟨(.zn z, .zn .live) :: (.zn zn, .zn .free) :: (r ++ (r' ++ keptK z l)), keptK zn l ++ [(.zn zn, .zn .live), (.zn z, .zn .dead)]⟩) : stHatchZ P L pz zn ⟨none, .store t x v, ty, s, e, g⟩ k := by
  refine ⟨_, hk, Rd.cons hl (Rd.cons hf (Rd.app (opd_rd hx) (Rd.app (opd_rd hv) (keptK_rd hk0)))), fun C hd hpz hzb => ?_⟩
  subst hpz
  intro σ a w K ⟨G, hA⟩ hr hK
  have z0 : z ∉ C.pz := fun h => by simp [h] at hp
  have zn0 : zn ∉ C.pz := fun h => Nat.lt_irrefl _ (hzb _ h)
  have lz : Lv σ z := hr.head
  have fz : σ (.zn zn) = .zn .free := hr.tail.head
  have hrr := hr.tail.tail
  have ne : z ≠ zn := fun e => by subst e; unfold Lv at lz; rw [fz] at lz; cases lz
  obtain ⟨g0, o0, ex, kx⟩ := (opd_ok hx hA hrr.left).rep (fun y hy => by simp at hy; subst hy; exact lz)
  obtain ⟨⟨y, hy, hg0⟩, u, hc, hru⟩ := kx 0 _ rfl
  simp at hy; subst hy
  have ev := (opd_ok hv hA hrr.right.left).rep (fun y hy => absurd hy (by simp))
  have hkp := keptK_mem hrr.right.right
  have hu1 : ∃ n : Int, u = .int .u64 n := by cases hru with | st _ _ h => exact h
  obtain ⟨n, rfl⟩ := hu1
  have hu2 : ∃ n' : Int, a.eval v = .int .u64 n' := by
    generalize a.eval v = q at ev
    cases ev with | st _ _ h => exact h
  obtain ⟨n', ev⟩ := hu2
  have hsf := (hA.new y g0 z0 lz hg0).2
  have hc' : w.cell? ⟨g0, o0, none⟩ = some (.int .u64 n) := hc
  have hfz : w.frozen? ⟨g0, o0, none⟩ = false := by
    obtain ⟨cur, tt, hh⟩ := hsf.cells hc
    simp [World.frozen?, hh]
  have er : (execOp a.eval ⟨none, .store t x v, ty, s, e, g⟩).run P w = .ok .skip (w.setCell ⟨g0, o0, none⟩ (.int .u64 n')) := by
    have hsz := (T.ok t ti ht).run_size w
    simp only [execOp]
    rw [ex, ev]
    have hst : (store ((⟨g0, o0, none⟩ : Addr).add 0) (.int .u64 n')).run P w = .ok () (w.setCell ⟨g0, o0, none⟩ (.int .u64 n')) := by
      rw [add_none, Nat.add_zero, run_store P w _ _ _ rfl, hc']
      simp [hfz]
    simp [Instr.storeAt, Instr.sureAddr, storeVar, hsz, h1, storeCells, Value.cells, hst]
  refine ⟨fun c => by simp, .inr (.inl ⟨_, er, ?_⟩)⟩
  obtain ⟨w', hw⟩ : ∃ w', w' = w.setCell ⟨g0, o0, none⟩ (.int .u64 n') := ⟨_, rfl⟩
  have blk : ∀ i, i ≠ g0 → w'.heap[i]? = w.heap[i]? := fun i hi => by rw [hw]; exact Below.heap_setCell _ _ _ _ hi
  have hsz' : w'.heap.size = w.heap.size := by rw [hw]; simp [World.setCell]
  have hA1 : ASG C G (ovr σ (deadZ [y])) a w' := by
    refine hA.kill (fun q hq => by simp at hq; subst hq; exact lz) (fun q hq => by simp at hq; subst hq; exact z0) ?_
    rw [hw]
    exact ⟨rfl, rfl, rfl, by simp [World.setCell], fun i hi hb => Below.heap_setCell _ _ _ _ (fun e => hb (e ▸ ⟨y, by simp, hg0⟩))⟩
  have dz : ∀ q, Lv (ovr σ (deadZ [y])) q → q ≠ y ∧ Lv σ q := fun q hq => by
    have := (lesser_dead (σ := σ) [y]).lv hq
    refine ⟨?_, this⟩
    rintro rfl
    unfold Lv at hq
    simp [ovr, fnd_dead] at hq
  obtain ⟨hA2, _⟩ := hA1.addzone (z := zn) zn0 (by simp only [ovr, fnd_dead]; rw [if_neg (by simp; exact fun e => ne e.symm)]; exact fz) (G.ζ y) (fun q hq => by
    refine ⟨⟨by rw [hsz']; exact (hA.sep y q lz hq).1, (hA.new y q z0 lz hq).1, fun m hm => (hA.sep y q lz hq).2 m ?_, fun b hb hg' => ?_, fun c i e hi e' => ?_, fun p hpp e => (hA.ob p hpp).nz y lz (e ▸ hq)⟩, ?_⟩
    · unfold Nm at hm ⊢; rw [← (lesser_dead (σ := σ) [y]).nm]; exact hm
    · obtain ⟨a1, a2⟩ := dz b hb
      exact hA.disj b y q a1 a2 lz hg' hq
    · obtain ⟨k', d1, d2⟩ := hA.df
      rw [(lesser_dead (σ := σ) [y]).df, d1] at e; cases e
      exact (d2.ok i hi).nz y lz (e' ▸ hq)
    · by_cases e : q = g0
      · subst e
        obtain ⟨cur, tt, hs⟩ := hsf.cells hc'
        rw [hw]
        exact .mk (set_heap_same hs)
      · exact (hA.new y q z0 lz hq).2.of_eq (blk q e))
  have told : ∀ {vv : Value} {d : D}, Rep G σ w vv (.c [y] d) → Nums d → RepD (fun g => G.ζ y g) w' vv d := fun {vv d} t2 hn => by
    have := Nums.set (n' := n') (t2.rep (fun b hb => by simp at hb; subst hb; exact lz)) hn hc'
    rw [← hw] at this
    refine this.mono fun b ⟨c, hcm, hb⟩ => ?_
    simp at hcm; subst hcm
    exact hb
  have hfin : AS C (ovr σ (keptK zn l ++ [(.zn zn, .zn .live), (.zn y, .zn .dead)])) a w' := by
    have um : Uz (ovr (ovr σ (deadZ [y])) [(.zn zn, .zn .live)]) zn := by unfold Uz; rw [ovr_one]; simp
    refine ⟨_, hA2.retell (fun key hk1 hk2 => ?_) (fun q x hx => ?_) (fun m j x hx => ?_)⟩
    · have hkey : isVar key = false := by
        cases key with
        | tmp t => exact absurd rfl (hk1 t)
        | cell n k => exact absurd rfl (hk2 n k)
        | _ => rfl
      simp only [ovr, fnd_app, fnd_keptK_ne _ hkey l hiv, deadZ, List.map_cons, List.map_nil, fnd, Option.none_or]
      by_cases e1 : Key.zn zn = key
      · simp [e1]
      · rw [if_neg e1, if_neg e1]
        by_cases e2 : Key.zn y = key
        · simp [e2]
        · simp [e2]
    · simp only [ovr, fnd_app] at hx
      cases hq : fnd (keptK zn l) (.tmp q) with
      | some yy =>
        rw [hq] at hx
        obtain ⟨d, hd1, rfl⟩ := fnd_keptK zn _ l hq
        simp only [Option.some_or, Option.getD_some, KV.av.injEq] at hx
        subst hx
        obtain ⟨vv, t1, t2⟩ := hA.tmp q _ (hkp _ hd1)
        refine ⟨vv, t1, ⟨fun b hb => ?_, fun _ => ?_⟩⟩
        · simp at hb; subst hb
          exact um
        · refine (told t2 (hu _ hd1)).mono fun b hb => ⟨zn, by simp, ?_⟩
          simpa using hb
      | none =>
        rw [hq] at hx
        refine hA2.tmp q x ?_
        simpa [ovr, deadZ, fnd] using hx
    · simp only [ovr, fnd_app] at hx
      cases hq : fnd (keptK zn l) (.cell m j) with
      | some yy =>
        rw [hq] at hx
        obtain ⟨d, hd1, rfl⟩ := fnd_keptK zn _ l hq
        simp only [Option.some_or, Option.getD_some, KV.av.injEq] at hx
        subst hx
        have hs : σ (.cell m j) = .av (.c [y] d) := hkp _ hd1
        obtain ⟨n1, vv, t1, f1, t2⟩ := hA.cell m j _ hs
        have hne := (hA.sep y g0 lz hg0).2 m n1
        obtain ⟨n2, vv', t1', f1', -⟩ := hA2.cell m j (.c [y] d) (by simpa [ovr, deadZ, fnd] using hs)
        have e0 : w'.cell? ⟨G.ρ m, j, none⟩ = w.cell? ⟨G.ρ m, j, none⟩ := World.cell?_of_block (a := ⟨G.ρ m, j, none⟩) (blk _ hne)
        refine ⟨n2, vv, e0.trans t1, f1', ⟨fun b hb => ?_, fun _ => ?_⟩⟩
        · simp at hb; subst hb
          exact um
        · refine (told t2 (hu _ hd1)).mono fun b hb => ⟨zn, by simp, ?_⟩
          simpa using hb
      | none =>
        rw [hq] at hx
        refine hA2.cell m j x ?_
        simpa [ovr, deadZ, fnd] using hx
  rw [← hw]
  exact hK _ _ hfin
end
section
variable {P : Program} {c : Code}
/-- a context: what is handed may be written over, nothing else that was there. -/
def ck (W0 : World) (N : Nat) (Z : Zone) : Cx := ⟨W0, fun k => k < W0.heap.size ∧ ¬ Z k, N, fun _ _ => undef, fun _ _ => False, [], [], fun _ h => h.1⟩
def KtR (W0 : World) (Z : Zone) : Ending → World → Prop := fun e w' => e = .returned (.tuple #[]) ∧ Keeps (fun k => ¬ Z k) W0 w'
theorem kt_start {Z : Zone} {w : World} {vs : Array Value} {args : List DV} {N : Nat} (h : Reps Z w vs args) (hz : ∀ g, Z g → Soft w g) (hargs : args.length ≤ N) :
    AS (ck w N Z) (lk (argRows 0 args ++ [(.zn 0, .zn .live)])) { tmps := vs ++ Array.replicate (N - vs.size) undef, defers := [] } w := by
  obtain ⟨hs, hv⟩ := h
  refine ⟨⟨fun _ => 0, fun z g => z = 0 ∧ Z g ∧ g < w.heap.size, fun _ => undef, fun _ => 0⟩, Keeps.refl _ _, ⟨0, ?_, rfl, fun i hi => by omega, fun i j hi => by omega⟩, ?_, fun t x e => ?_, fun i t x e => ?_, fun n k x e => ?_, fun n e => ?_, fun n m e => ?_, fun z g hl hz => ?_, fun z g h0 hl hzz => ⟨fun hb => hb.2 hzz.2.1, hz g hzz.2.1⟩, fun y z g hne hy hz h1 h2 => hne (h1.1.trans h2.1.symm), fun h E sz y zs rows e => ?_, fun z hz => by simp [ck] at hz, fun p hp => by simp [ck] at hp, fun n e => ?_⟩
  · rw [lk_args_ne _ _ _ (by simp)]; rfl
  · show _ = N
    simp; omega
  · rw [lk_args] at e
    simp only [Nat.zero_le, true_and, Nat.zero_add, Nat.sub_zero] at e
    split at e
    · rename_i ht
      rw [List.getElem?_eq_getElem ht] at e
      simp only [KV.av.injEq] at e
      subst e
      have hlt : t < vs.size := by omega
      refine ⟨vs.getD t undef, ?_, atz_rep (fun z hz => ?_) ((hv t _ (List.getElem?_eq_getElem ht)).evo fun g hg hlt => ⟨⟨0, by simp, rfl, hg, hlt⟩, rfl⟩)⟩
      · simp only [Array.getElem?_append, hlt, if_true, Array.getD_eq_getD_getElem?]
        simp [hlt]
      · simp at hz; subst hz
        unfold Uz; rw [lk_args_ne _ _ _ (by simp)]; simp [lk]
    · simp [lk, dflt] at e
  · rw [lk_args_ne _ _ _ (by simp)] at e; simp [lk, dflt] at e
  · rw [lk_args_ne _ _ _ (by simp)] at e; simp [lk, dflt] at e
  · unfold Nm at e; rw [lk_args_ne _ _ _ (by simp)] at e; simp [lk, dflt] at e
  · unfold Nm at e; rw [lk_args_ne _ _ _ (by simp)] at e; simp [lk, dflt] at e
  · refine ⟨hz.2.2, fun n e => ?_⟩
    unfold Nm at e; rw [lk_args_ne _ _ _ (by simp)] at e; simp [lk, dflt] at e
  · rw [lk_args_ne _ _ _ (by simp)] at e; simp [lk, dflt] at e
  · unfold Nm at e; rw [lk_args_ne _ _ _ (by simp)] at e; simp [lk, dflt] at e
theorem kt_intro {f : FuncId} {fn : Func} {args : List DV} (hf : P.funcs[f]? = some fn) (hb : fn.body = some c) {N : Nat} (hn : fn.ntmps = N) (hargs : args.length ≤ N)
    (h : ∀ W0 Z, AW P (ck W0 N Z) none c (bodyPostM Fence.wide 10 P fn (KtR W0 Z)) (argRows 0 args ++ [(.zn 0, .zn .live)])) : Kt P f args := by
  intro Z w vs hr hz
  refine calls_of_aw hf hb (h w Z _ w ?_)
  rw [hn]
  exact kt_start hr hz hargs
/-- the end of such a function. -/
theorem nx_kt {fn : Func} {e : Exit} {L : Row} {W0 : World} {Z : Zone} {N : Nat} (T : Tab P) (he : e = .normal ∨ e = .ret) (hrs : fn.results = #[]) : NX (ck W0 N Z) (bodyPostM Fence.wide 10 P fn (KtR W0 Z)) e L := by
  intro a w ⟨G, hA⟩
  obtain ⟨k, d1, _⟩ := hA.df
  have : LeavesInM Fence.wide 10 P fn a.tmps (KtR W0 Z) a.defers .returning w := by
    refine leave_ok rfl k G _ a w hA d1 fun σ' a' w' h' et ek => ?_
    obtain ⟨v, q1, q2⟩ := res_vals (T := T) (P := P) (fn := fn) (rs := []) (zs := []) (ds := []) hrs rfl (fun z hz => absurd hz (by simp)) h'
    rw [et] at q1
    obtain ⟨vs, rfl, h2, -⟩ := q2
    refine ⟨_, q1, ?_, ⟨h'.fr.os, h'.fr.tape, h'.fr.output, h'.fr.size, fun i hi hz => h'.fr.block i hi ⟨hi, hz⟩⟩⟩
    have : vs = #[] := Array.eq_empty_of_size_eq_zero (by simpa using h2)
    rw [this]
  rcases he with rfl | rfl <;> exact this
end
end Go.Proofs.Ytlkdkhmdmgchbaa
namespace Go.Proofs.Ytlkdkhmdmgchbaa
set_option linter.unusedSimpArgs false
set_option linter.unusedVariables false
open Go.RowKit
/-- tiers of which only the lengths are told. -/
def uT (ns : List (Nat × Nat)) : List (List D) := ns.map fun x => [.s 2 (uR x.1), .s 2 (uR x.2)]
theorem nums_uT (ns : List (Nat × Nat)) : Nums (.s 2 (uT ns)) := .s _ _ fun i r j x hi hj => by
  unfold uT at hi
  rw [List.getElem?_map, Option.map_eq_some_iff] at hi
  obtain ⟨y, -, rfl⟩ := hi
  rcases j with _ | _ | j
  · cases hj; exact ud_uR _
  · cases hj; exact ud_uR _
  · simp at hj
def lensT (l : List Tr) : List (Nat × Nat) := l.map fun t => (t.1.length, t.2.length)
theorem ud_TsD {Z : Zone} {w : World} {v : Value} (l : List Tr) (h : RepD Z w v (TsD l)) : RepD Z w v (.s 2 (uT (lensT l))) := by
  refine RepD.conv h (by simp [uT, lensT]) fun i r' hi => ?_
  unfold uT lensT at hi
  rw [List.map_map, List.getElem?_map, Option.map_eq_some_iff] at hi
  obtain ⟨t, ht, rfl⟩ := hi
  refine ⟨[RD t.1, RD t.2], by rw [List.getElem?_map, ht]; rfl, rfl, fun j x' hj => ?_⟩
  rcases j with _ | _ | j
  · cases hj; exact ⟨_, rfl, fun u hu => ud_RD t.1 hu⟩
  · cases hj; exact ⟨_, rfl, fun u hu => ud_RD t.2 hu⟩
  · simp at hj
attribute [local simp ↓] gav_bool gav_undef arun_nil ob_some kva_av kfree_free khfree_free khown_own klive_live knm_false chk_true ya_true gsel_tt gsel_ff gsel_tf gsel_ft vb_bool vi_int vstr_string avps_ptr avps_seg avp_ptr avagg_agg avtup_tup avb_bool avown_own shs_struct shsa_struct shsa_arr sharr_arr shl_slice shla_slice shla_arr shls_slice shls_str shi_int bc_true bc_false hd1_cons opc_some opc_none opn_some opn_none unc_not unc_neg gd_none gd_some as_move as_assign as_pick as_bin as_un as_conv as_load as_faddr as_field as_extract as_iaddr as_slice as_alloc as_box as_store as_build as_rows as_call as_append as_lookup as_mapUpdate as_makeMap as_range as_next as_entry as_index as_fn as_len as_min as_max stMove stPick stBin stUn stConv stLoad stFaddr stField stExtract stIaddr stSlice stAlloc stBox stStore stBuild stIndex stRows stCall stAppend stFn stLen stMin stMax opd_tmp opd_const opd_func rawL_nil rawL_cons raw_c raw_st raw_a opr_e zr_nil zr_cons lvd_live hod_own obd_some obd_none kvd_av chd_true vid_int lk_cons lk_nil ins_nil ins_cons cells_zero cells_succ spread1_c spread1_own spread1_ptr spread1_fn spread1_seg spreadL_nil spreadL_cons spread_agg spread_c spread_own spread_seg spread_ptr spread_fn ex_zero ex_succ ops_e opb_none opb_int spreadD_agg spreadD_c spreadD_own spreadD_seg fillO_nil fillO_cons argsOf_nil argsOf_cons dvOf_c dvOf_seg dvOf_own dvOf_agg zrL_nil zrL_cons hdd_c hdd_seg hdd_own clz_e clv_raw clv_f callD_e dst0_n dst0_nil dst0_own goneH_e capc_ptr capc_seg capc_c capN_nil capN_cons capD_nil capD_cons deadZ_nil deadZ_cons
attribute [local simp] dok_some dok_none dflt_tmp dflt_vt dflt_cell dflt_zn dflt_nm dflt_hd dflt_df puts_nil puts_cons wr_some wr_none cst_agg cst_int cst_bool cst_string cst_slice cst_tuple cst_nilFunc cst_pointer cst_func bin_add bin_sub bin_mul bin_quo bin_rem bin_eql bin_neq bin_lss bin_leq bin_gtr bin_geq bin_bool bin_aggs binT_bool binT_aggs shbd_bool eqb_eql eqb_neq bin_slice bin_str_eql bin_str_neq bin_str_lss bin_str_add nz_v nz_n nz_s nz_p nz_f nz_st atz_v atz_n atz_s atz_p atz_f atz_st atz_agg atR_one atR_tup crow_nil crow_cons slc_c slc_n slc_own slc_nil raws setR placesT_nil placesT_cons zc chunk zsAll ocD_v ocD_n ocD_s ocD_p ocD_f ocD_st nrm_v nrm_n nrm_s nrm_p nrm_f nrm_st isV_one isV_tup isV_c isV_agg isV_v isV_n isV_s isV_p isV_f isV_st argRows Sh.agg zds_nil zds_e zds_v zds_s vcells_agg vcells_int vcells_bool vcells_string vcells_slice vcells_pointer toList_lit map_nilL map_consL nzr_e rowsOc_nil rowsOc_cons rowsOc_RD nzr_RD foks_nil foks_cons fok_tmp fok_vt fok_cell fok_nm fok_zn fok_hd fok_df Fv_c Fv_seg Fv_tup Fv_agg Fv_ptr Fv_ptrs Fv_fn Fv_fnd Fv_own Fv_ownd Fv_nown Fv_vown FvL_nil FvL_cons kvp_av hdp_some subz frz Uz Nm Uh vw_nb vw_zo vw_zf vw_hb tb_nil tb_cons fzc_nil fzc_cons fzcaps_nil fzcaps_cons ty2 ty3 ty4 ty5 ty6 ty7 ty8 ty9 ty10 ty11 ty12 ty13 ty14 ty15 ty16 ty17 ty18 ty19 ty20 ty21 ty22 ty23 ty24 ty25 ty26 ty27 ty30 ty40 ty48 ty50 ty51 ty52 ty55 ty57 ty62 ty63 ty85 ty94 ty101 ty121 ty122 ty123 ty124 ty125 ty126 ty128 ty148 ty149 ty151 ty164 ty165 ty179 ty182 ty196 ty203 ty205 ty209 ty211 ty215 ty216 ty217 ty218 ty219 ty220 ty221 ty223 ty224 ty225 ty226 ty227 Value.oneCell'
set_option maxRecDepth 100000
def spS (ns : List (Nat × Nat)) (k : Nat) : Row := [(.zn 900, .zn .live), (.tmp 6, .av (.c [900] (.s 2 (uT ns)))), (.tmp 7, .av (.c [] (.v (.int .i64 ns.length)))), (.tmp 8, .av (.c [] (.v (.int .i64 k))))]
def spT (ns : List (Nat × Nat)) (k a b : Nat) : Row := [(.nm 901, .nm true), (.cell 901 0, .av (.c [900] (.s 2 (uR a)))), (.cell 901 1, .av (.c [900] (.s 2 (uR b)))), (.tmp 3, .av (.ptr 901 0))] ++ spS ns k
def spA (ns : List (Nat × Nat)) (k a b j : Nat) : Row := [(.tmp 14, .av (.c [] (.v (.int .i64 a)))), (.tmp 15, .av (.c [] (.v (.int .i64 j))))] ++ spT ns k a b
def spB (ns : List (Nat × Nat)) (k a b j : Nat) : Row := [(.tmp 30, .av (.c [] (.v (.int .i64 b)))), (.tmp 31, .av (.c [] (.v (.int .i64 j))))] ++ spT ns k a b
set_option maxHeartbeats 8000000 in
theorem spoil11_kt (l : List Tr) (hl : l.length ≤ 1000000) (hs : ∀ t ∈ l, t.1.length ≤ 1000000 ∧ t.2.length ≤ 1000000) : Kt Try.prog 85 [.c (TsD l)] := by
  refine kt_intro Try.func85 rfl Try.ntmps85 (by simp) (fun W0 Z => ?_)
  have hN : (ck W0 45 Z).N = 45 := rfl
  have hP : (ck W0 45 Z).pz = [] := rfl
  have hns : (lensT l).length ≤ 1000000 := by unfold lensT; rw [List.length_map]; exact hl
  have hxs : ∀ x ∈ lensT l, x.1 ≤ 1000000 ∧ x.2 ≤ 1000000 := fun x hx => by
    unfold lensT at hx
    obtain ⟨t, ht, rfl⟩ := List.mem_map.1 hx
    exact hs t ht
  refine AW.conv 0 (zs := [0]) (d' := .s 2 (uT (lensT l))) rfl (fun Z w v h => ud_TsD l h) ?_
  generalize lensT l = ns at *
  have hun : (uT ns).length = ns.length := by simp [uT]
  with_reducible repeat first | refine Jt.i ?_ | refine .g (by decide) ?_
  refine AW.at_ (fun L hL => ?_)
  simp at hL
  subst hL
  refine AW.rc 1 fun K hK => ?_
  repeat (with_reducible refine .s fun X Y Z W => ?_; simp [hun]; (first | refine Z.out _ _ ?_ | refine W.out _ ?_ | refine ⟨by kernel_rfl, W.out _ ?_⟩); clear Z W X Y; simp [hun]); (try refine .n ?_)
  refine Jt.f hK ?_
  clear hK K
  with_reducible repeat first | refine Jt.i ?_ | refine .g (by decide) ?_
  refine AW.loop (X := { k : Nat // k ≤ ns.length }) (fun x => spS ns x.1) (fun x => ns.length - x.1) ⟨0, by simp⟩ (view_of (vw [] [(900, [0])] [] []) (by simp [spS])) (fun x => ?_)
  obtain ⟨k, hk⟩ := x
  refine AW.at_ (fun L hL => ?_)
  simp [spS] at hL
  subst hL
  with_reducible repeat first | refine Jt.i ?_ | refine .g (by decide) ?_
  by_cases hgo : k < ns.length
  · have w5 : IntKind.i64.wrap ((k : Int) + 1) = ((k + 1 : Nat) : Int) := by rw [i64_ok _ (by omega) (by omega)]; omega
    obtain ⟨a, b, hab⟩ : ∃ a b, ns[k] = (a, b) := ⟨ns[k].1, ns[k].2, rfl⟩
    have hm := hxs (a, b) (by rw [← hab]; exact List.getElem_mem hgo)
    have hrow : (uT ns)[k]? = some [.s 2 (uR a), .s 2 (uR b)] := by unfold uT; rw [List.getElem?_map, List.getElem?_eq_getElem hgo, hab]; rfl
    simp only at hm
    have hla := uR_len a
    have hlb := uR_len b
    refine AW.rc 100 fun K hK => ?_
    repeat (with_reducible refine .s fun X Y Z W => ?_; simp [hgo]; (first | refine Z.out _ _ ?_ | refine W.out _ ?_ | refine ⟨by kernel_rfl, W.out _ ?_⟩); clear Z W X Y; simp [hgo]); (try refine .n ?_)
    refine Jt.f hK ?_
    clear hK K
    with_reducible repeat first | refine Jt.i ?_ | refine .g (by decide) ?_
    refine AW.ct rfl ?_
    with_reducible repeat first | refine Jt.i ?_ | refine .g (by decide) ?_
    refine AW.rc 110 fun K hK => ?_
    repeat (with_reducible refine .s fun X Y Z W => ?_; simp; (first | refine Z.out _ _ ?_ | refine W.out _ ?_ | refine ⟨by kernel_rfl, W.out _ ?_⟩); clear Z W X Y; simp); (try refine .n ?_)
    refine .s fun K1 K2 hK1 hK2 => ?_
    simp
    refine ⟨k, [.s 2 (uR a), .s 2 (uR b)], rfl, hrow, ?_⟩
    refine hK1.out _ _ ?_
    clear hK1 hK2 K1 K2
    (try simp)
    repeat (with_reducible refine .s fun X Y Z W => ?_; simp; (first | refine Z.out _ _ ?_ | refine W.out _ ?_ | refine ⟨by kernel_rfl, W.out _ ?_⟩); clear Z W X Y; simp); (try refine .n ?_)
    refine Jt.f hK ?_
    clear hK K
    with_reducible repeat first | refine Jt.i ?_ | refine .g (by decide) ?_
    refine AW.rc 120 fun K hK => ?_
    repeat (with_reducible refine .s fun X Y Z W => ?_; simp [hla]; (first | refine Z.out _ _ ?_ | refine W.out _ ?_ | refine ⟨by kernel_rfl, W.out _ ?_⟩); clear Z W X Y; simp [hla]); (try refine .n ?_)
    refine Jt.f hK ?_
    clear hK K
    with_reducible repeat first | refine Jt.i ?_ | refine .g (by decide) ?_
    refine AW.loop (X := { j : Nat // j ≤ a }) (fun y => spA ns k a b y.1) (fun y => a - y.1) ⟨0, by simp⟩ (view_of (vw [(901, 112)] [] [] []) (by simp [spA, spT, spS])) (fun y => ?_)
    obtain ⟨j, hj⟩ := y
    refine AW.at_ (fun L hL => ?_)
    simp [spA, spT, spS] at hL
    subst hL
    with_reducible repeat first | refine Jt.i ?_ | refine .g (by decide) ?_
    by_cases hgo2 : j < a
    · have w6 : IntKind.i64.wrap ((j : Int) + 1) = ((j + 1 : Nat) : Int) := by rw [i64_ok _ (by omega) (by omega)]; omega
      refine AW.rc 300 fun K hK => ?_
      repeat (with_reducible refine .s fun X Y Z W => ?_; simp [hgo2]; (first | refine Z.out _ _ ?_ | refine W.out _ ?_ | refine ⟨by kernel_rfl, W.out _ ?_⟩); clear Z W X Y; simp [hgo2]); (try refine .n ?_)
      refine Jt.f hK ?_
      clear hK K
      with_reducible repeat first | refine Jt.i ?_ | refine .g (by decide) ?_
      refine AW.ct rfl ?_
      with_reducible repeat first | refine Jt.i ?_ | refine .g (by decide) ?_
      refine AW.rc 310 fun K hK => ?_
      repeat (with_reducible refine .s fun X Y Z W => ?_; simp; (first | refine Z.out _ _ ?_ | refine W.out _ ?_ | refine ⟨by kernel_rfl, W.out _ ?_⟩); clear Z W X Y; simp); (try refine .n ?_)
      refine Jt.f hK ?_
      clear hK K
      with_reducible repeat first | refine Jt.i ?_ | refine .g (by decide) ?_
      refine AW.rc 320 fun K hK => ?_
      repeat (with_reducible refine .s fun X Y Z W => ?_; simp; (first | refine Z.out _ _ ?_ | refine W.out _ ?_ | refine ⟨by kernel_rfl, W.out _ ?_⟩); clear Z W X Y; simp); (try refine .n ?_)
      refine .s fun K1 K2 hK1 hK2 => ?_
      simp
      refine ⟨j, [.st isU, .st isU], rfl, uR_get hgo2, ?_⟩
      refine hK1.out _ _ ?_
      clear hK1 hK2 K1 K2
      (try simp)
      repeat (with_reducible refine .s fun X Y Z W => ?_; simp; (first | refine Z.out _ _ ?_ | refine W.out _ ?_ | refine ⟨by kernel_rfl, W.out _ ?_⟩); clear Z W X Y; simp); (try refine .n ?_)
      refine .s fun K1 K2 hK1 hK2 => ?_
      simp
      refine hatch_add rfl rfl rfl ?_
      refine hK1.out _ _ ?_
      clear hK1 hK2 K1 K2
      (try simp)
      repeat (with_reducible refine .s fun X Y Z W => ?_; simp; (first | refine Z.out _ _ ?_ | refine W.out _ ?_ | refine ⟨by kernel_rfl, W.out _ ?_⟩); clear Z W X Y; simp); (try refine .n ?_)
      refine .s fun K1 K2 hK1 hK2 => ?_
      simp
      refine ⟨j, [.st isU, .st isU], rfl, uR_get hgo2, ?_⟩
      refine hK1.out _ _ ?_
      clear hK1 hK2 K1 K2
      (try simp)
      repeat (with_reducible refine .s fun X Y Z W => ?_; simp; (first | refine Z.out _ _ ?_ | refine W.out _ ?_ | refine ⟨by kernel_rfl, W.out _ ?_⟩); clear Z W X Y; simp); (try refine .n ?_)
      refine .s fun K1 K2 hK1 hK2 => ?_
      simp [keptK]
      refine hatch_stK [(.tmp 6, .s 2 (uT ns)), (.cell 901 0, .s 2 (uR a)), (.cell 901 1, .s 2 (uR b))] (T := ty) rfl rfl rfl rfl rfl rfl rfl (by simp [isVar]) (by simp) (by simp [nums_uT, ud_uR]) ?_
      refine hK1.out _ _ ?_
      clear hK1 hK2 K1 K2
      (try simp [keptK])
      repeat (with_reducible refine .s fun X Y Z W => ?_; simp [keptK]; (first | refine Z.out _ _ ?_ | refine W.out _ ?_ | refine ⟨by kernel_rfl, W.out _ ?_⟩); clear Z W X Y; simp [keptK]); (try refine .n ?_)
      refine Jt.f hK ?_
      clear hK K
      with_reducible repeat first | refine Jt.i ?_ | refine .g (by decide) ?_
      refine AW.rc 340 fun K hK => ?_
      repeat (with_reducible refine .s fun X Y Z W => ?_; simp [w6]; (first | refine Z.out _ _ ?_ | refine W.out _ ?_ | refine ⟨by kernel_rfl, W.out _ ?_⟩); clear Z W X Y; simp [w6]); (try refine .n ?_)
      refine Jt.f hK ?_
      clear hK K
      with_reducible repeat first | refine Jt.i ?_ | refine .g (by decide) ?_
      exact NX.round ⟨j + 1, hgo2⟩ (by show a - (j + 1) < a - j; omega) (view_of (vw [] [(900, [329])] [] []) (by simp [spA, spT, spS]))
    · obtain rfl : j = a := by omega
      refine AW.rc 350 fun K hK => ?_
      repeat (with_reducible refine .s fun X Y Z W => ?_; simp; (first | refine Z.out _ _ ?_ | refine W.out _ ?_ | refine ⟨by kernel_rfl, W.out _ ?_⟩); clear Z W X Y; simp); (try refine .n ?_)
      refine Jt.f hK ?_
      clear hK K
      with_reducible repeat first | refine Jt.i ?_ | refine .g (by decide) ?_
      refine AW.cf rfl ?_
      with_reducible repeat first | refine Jt.i ?_ | refine .g (by decide) ?_
      refine AW.rc 360 fun K hK => ?_
      repeat (with_reducible refine .s fun X Y Z W => ?_; simp [hlb]; (first | refine Z.out _ _ ?_ | refine W.out _ ?_ | refine ⟨by kernel_rfl, W.out _ ?_⟩); clear Z W X Y; simp [hlb]); (try refine .n ?_)
      refine Jt.f hK ?_
      clear hK K
      with_reducible repeat first | refine Jt.i ?_ | refine .g (by decide) ?_
      refine AW.loop (X := { i : Nat // i ≤ b }) (fun y => spB ns k j b y.1) (fun y => b - y.1) ⟨0, by simp⟩ (view_of (vw [] [] [] []) (by simp [spB, spT, spS])) (fun y => ?_)
      obtain ⟨i, hi⟩ := y
      refine AW.at_ (fun L hL => ?_)
      simp [spB, spT, spS] at hL
      subst hL
      with_reducible repeat first | refine Jt.i ?_ | refine .g (by decide) ?_
      by_cases hgo3 : i < b
      · have w7 : IntKind.i64.wrap ((i : Int) + 1) = ((i + 1 : Nat) : Int) := by rw [i64_ok _ (by omega) (by omega)]; omega
        refine AW.rc 400 fun K hK => ?_
        repeat (with_reducible refine .s fun X Y Z W => ?_; simp [hgo3]; (first | refine Z.out _ _ ?_ | refine W.out _ ?_ | refine ⟨by kernel_rfl, W.out _ ?_⟩); clear Z W X Y; simp [hgo3]); (try refine .n ?_)
        refine Jt.f hK ?_
        clear hK K
        with_reducible repeat first | refine Jt.i ?_ | refine .g (by decide) ?_
        refine AW.ct rfl ?_
        with_reducible repeat first | refine Jt.i ?_ | refine .g (by decide) ?_
        refine AW.rc 410 fun K hK => ?_
        repeat (with_reducible refine .s fun X Y Z W => ?_; simp; (first | refine Z.out _ _ ?_ | refine W.out _ ?_ | refine ⟨by kernel_rfl, W.out _ ?_⟩); clear Z W X Y; simp); (try refine .n ?_)
        refine Jt.f hK ?_
        clear hK K
        with_reducible repeat first | refine Jt.i ?_ | refine .g (by decide) ?_
        refine AW.rc 420 fun K hK => ?_
        repeat (with_reducible refine .s fun X Y Z W => ?_; simp; (first | refine Z.out _ _ ?_ | refine W.out _ ?_ | refine ⟨by kernel_rfl, W.out _ ?_⟩); clear Z W X Y; simp); (try refine .n ?_)
        refine .s fun K1 K2 hK1 hK2 => ?_
        simp
        refine ⟨i, [.st isU, .st isU], rfl, uR_get hgo3, ?_⟩
        refine hK1.out _ _ ?_
        clear hK1 hK2 K1 K2
        (try simp)
        repeat (with_reducible refine .s fun X Y Z W => ?_; simp; (first | refine Z.out _ _ ?_ | refine W.out _ ?_ | refine ⟨by kernel_rfl, W.out _ ?_⟩); clear Z W X Y; simp); (try refine .n ?_)
        refine .s fun K1 K2 hK1 hK2 => ?_
        simp
        refine hatch_add rfl rfl rfl ?_
        refine hK1.out _ _ ?_
        clear hK1 hK2 K1 K2
        (try simp)
        repeat (with_reducible refine .s fun X Y Z W => ?_; simp; (first | refine Z.out _ _ ?_ | refine W.out _ ?_ | refine ⟨by kernel_rfl, W.out _ ?_⟩); clear Z W X Y; simp); (try refine .n ?_)
        refine .s fun K1 K2 hK1 hK2 => ?_
        simp
        refine ⟨i, [.st isU, .st isU], rfl, uR_get hgo3, ?_⟩
        refine hK1.out _ _ ?_
        clear hK1 hK2 K1 K2
        (try simp)
        repeat (with_reducible refine .s fun X Y Z W => ?_; simp; (first | refine Z.out _ _ ?_ | refine W.out _ ?_ | refine ⟨by kernel_rfl, W.out _ ?_⟩); clear Z W X Y; simp); (try refine .n ?_)
        refine .s fun K1 K2 hK1 hK2 => ?_
        simp [keptK]
        refine hatch_stK [(.tmp 6, .s 2 (uT ns)), (.cell 901 0, .s 2 (uR j)), (.cell 901 1, .s 2 (uR b))] (T := ty) rfl rfl rfl rfl rfl rfl rfl (by simp [isVar]) (by simp) (by simp [nums_uT, ud_uR]) ?_
        refine hK1.out _ _ ?_
        clear hK1 hK2 K1 K2
        (try simp [keptK])
        repeat (with_reducible refine .s fun X Y Z W => ?_; simp [keptK]; (first | refine Z.out _ _ ?_ | refine W.out _ ?_ | refine ⟨by kernel_rfl, W.out _ ?_⟩); clear Z W X Y; simp [keptK]); (try refine .n ?_)
        refine Jt.f hK ?_
        clear hK K
        with_reducible repeat first | refine Jt.i ?_ | refine .g (by decide) ?_
        refine AW.rc 440 fun K hK => ?_
        repeat (with_reducible refine .s fun X Y Z W => ?_; simp [w7]; (first | refine Z.out _ _ ?_ | refine W.out _ ?_ | refine ⟨by kernel_rfl, W.out _ ?_⟩); clear Z W X Y; simp [w7]); (try refine .n ?_)
        refine Jt.f hK ?_
        clear hK K
        with_reducible repeat first | refine Jt.i ?_ | refine .g (by decide) ?_
        exact NX.round ⟨i + 1, hgo3⟩ (by show b - (i + 1) < b - i; omega) (view_of (vw [] [(900, [429])] [] []) (by simp [spB, spT, spS]))
      · obtain rfl : i = b := by omega
        refine AW.rc 450 fun K hK => ?_
        repeat (with_reducible refine .s fun X Y Z W => ?_; simp; (first | refine Z.out _ _ ?_ | refine W.out _ ?_ | refine ⟨by kernel_rfl, W.out _ ?_⟩); clear Z W X Y; simp); (try refine .n ?_)
        refine Jt.f hK ?_
        clear hK K
        with_reducible repeat first | refine Jt.i ?_ | refine .g (by decide) ?_
        refine AW.cf rfl ?_
        with_reducible repeat first | refine Jt.i ?_ | refine .g (by decide) ?_
        refine AW.rc 460 fun K hK => ?_
        repeat (with_reducible refine .s fun X Y Z W => ?_; simp [w5]; (first | refine Z.out _ _ ?_ | refine W.out _ ?_ | refine ⟨by kernel_rfl, W.out _ ?_⟩); clear Z W X Y; simp [w5]); (try refine .n ?_)
        refine Jt.f hK ?_
        clear hK K
        with_reducible repeat first | refine Jt.i ?_ | refine .g (by decide) ?_
        exact NX.round ⟨k + 1, hgo⟩ (by show ns.length - (k + 1) < ns.length - k; omega) (view_of (vw [] [] [] []) (by simp [spS]))
  · obtain rfl : k = ns.length := by omega
    refine AW.rc 500 fun K hK => ?_
    repeat (with_reducible refine .s fun X Y Z W => ?_; simp; (first | refine Z.out _ _ ?_ | refine W.out _ ?_ | refine ⟨by kernel_rfl, W.out _ ?_⟩); clear Z W X Y; simp); (try refine .n ?_)
    refine Jt.f hK ?_
    clear hK K
    with_reducible repeat first | refine Jt.i ?_ | refine .g (by decide) ?_
    refine AW.cf rfl ?_
    with_reducible repeat first | refine Jt.i ?_ | refine .g (by decide) ?_
    exact nx_kt ty (by first | exact .inl rfl | exact .inr rfl) rfl
end Go.Proofs.Ytlkdkhmdmgchbaa
namespace Go.Proofs.Ytlkdkhmdmgchbaa
set_option linter.unusedSimpArgs false
set_option linter.unusedVariables false
open Go.RowKit
theorem Kt.niln {P : Program} {f : FuncId} {sz : Nat} {rest : List DV} (h : Kt P f (.c (.s sz []) :: rest)) : Kt P f (.c (.v (.slice none 0 0)) :: rest) := fun Z w vs ⟨hs, hv⟩ hz => by
  refine h Z w vs ⟨by simpa using hs, fun i x hx => ?_⟩ hz
  rcases i with _ | i
  · cases hx
    have := hv 0 (.c (.v (.slice none 0 0))) rfl
    have := RepD.raw this
    rw [this]
    exact .nil _
  · exact hv (i + 1) x (by simpa using hx)
theorem spoil0_kt : Kt Try.prog 85 [.c (.v (.slice none 0 0))] := Kt.niln (spoil11_kt [] (by simp) (fun t ht => by simp at ht))
theorem tsame0_ct : Ct Try.prog 32 [.c (.v (.slice none 0 0)), .c (.v (.slice none 0 0))] none (.one (dB true)) := by
  have := tsame_ct [] []
  rw [decide_eq_true rfl] at this
  exact Ct.nilat (pre := [.c (.v (.slice none 0 0))]) (rest := []) (Ct.niln this)
theorem kept_one {a d : List Pr} (h1 : rightL a = true) (h2 : rightL d = true) : oneL (a, d) = decide ((keptL a d true).length = 0) := by
  unfold oneL
  simp [h1, h2]
end Go.Proofs.Ytlkdkhmdmgchbaa
