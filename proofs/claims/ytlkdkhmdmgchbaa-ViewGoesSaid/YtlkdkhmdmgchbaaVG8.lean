/- texts on which the statement stands, part 8. -/
import Derived.Test.YtlkdkhmdmgchbaaVG7
import Derived.Shelf.SlSortCmp.WholeK
import Derived.Shelf.SlicesG.Cmp
import Derived.Shelf.SlSortCmp.NoneTotal
import Derived.Lib.SlicesCompact
import Derived.Lib.SliceRun
import Derived.Laws.IdiomCopy
import Derived.OpenShut
import Derived.Laws.StructEq
import Derived.Shelf.SlicesE.Kit
namespace Go.Proofs.Ytlkdkhmdmgchbaa
set_option linter.unusedSimpArgs false
set_option linter.unusedVariables false
open Go.RowKit
attribute [local simp ↓] raw_wp hdd_wp dst0_wp slc_wp gav_bool gav_undef avpo_ptr avpo_seg avpo_wp avpo_optr avtupw_tup avtupw_wp raw_optr hdd_optr arun_nil ob_some kva_av kfree_free khfree_free khown_own klive_live knm_false chk_true ya_true gsel_tt gsel_ff gsel_tf gsel_ft vb_bool vi_int vstr_string avps_ptr avps_seg avp_ptr avagg_agg avtup_tup avb_bool avown_own shs_struct shsa_struct shsa_arr sharr_arr shl_slice shla_slice shla_arr shls_slice shls_str shi_int bc_true bc_false hd1_cons opc_some opc_none opn_some opn_none unc_not unc_neg gd_none gd_some as_move as_assign as_pick as_bin as_un as_conv as_load as_faddr as_field as_extract as_iaddr as_slice as_alloc as_box as_store as_build as_rows as_call as_append as_invoke as_copy as_nilCheck as_makeIface as_assert as_makeSlice as_lookup as_mapUpdate as_makeMap as_range as_next as_entry as_index as_fn as_len as_min as_max stMove stPick stBin stUn stConv stLoad stFaddr stField stExtract stIaddr stSlice stAlloc stBox stStore stBuild stIndex stRows stCall stAppend stFn stLen stMin stMax opd_tmp opd_const opd_func rawL_nil rawL_cons raw_c raw_st raw_a opr_e zr_nil zr_cons lvd_live hod_own obd_some obd_none kvd_av chd_true vid_int lk_cons lk_nil ins_nil ins_cons cells_zero cells_succ spread1_c spread1_own spread1_ptr spread1_fn spread1_seg spreadL_nil spreadL_cons spread_agg spread_c spread_own spread_seg spread_ptr spread_fn ex_zero ex_succ ops_e opb_none opb_int spreadD_agg spreadD_c spreadD_own spreadD_seg fillO_nil fillO_cons argsOf_nil argsOf_cons dvOf_c dvOf_seg dvOf_own dvOf_agg zrL_nil zrL_cons hdd_c hdd_seg hdd_own clz_e clv_raw clv_f callD_e dst0_n dst0_nil dst0_own goneH_e capc_ptr capc_seg capc_c capN_nil capN_cons capD_nil capD_cons deadZ_nil deadZ_cons
attribute [local simp] dok_some dok_none dflt_tmp dflt_vt dflt_cell dflt_zn dflt_nm dflt_hd dflt_sz dflt_df puts_nil puts_cons wr_some wr_none cst_agg cst_int cst_bool cst_string cst_slice cst_tuple cst_nilFunc cst_pointer cst_func bin_add bin_sub bin_mul bin_quo bin_rem bin_eql bin_neq bin_lss bin_leq bin_gtr bin_geq bin_bool bin_aggs binT_bool binT_aggs shbd_bool eqb_eql eqb_neq bin_slice bin_str_eql bin_str_neq bin_str_lss bin_str_add nz_v nz_n nz_s nz_p nz_f nz_st atz_v atz_n atz_s atz_p atz_f atz_st atz_agg atR_one atR_tup crow_nil crow_cons slc_c slc_n slc_own slc_nil raws setR placesT_nil placesT_cons zc chunk zsAll setD ocD_v ocD_n ocD_s ocD_p ocD_f ocD_st nrm_v nrm_n nrm_s nrm_p nrm_f nrm_st isV_one isV_tup isV_c isV_agg isV_v isV_n isV_s isV_p isV_f isV_st argRows Sh.agg zds_nil zds_e zds_v zds_s vcells_agg vcells_int vcells_bool vcells_string vcells_slice vcells_pointer toList_lit map_nilL map_consL nzr_e rowsOc_nil rowsOc_cons rowsOc_RD nzr_RD foks_nil foks_cons fok_tmp fok_vt fok_cell fok_nm fok_zn fok_hd fok_sz fok_df Fv_c Fv_seg Fv_tup Fv_agg Fv_ptr Fv_ptrs Fv_wp Fv_fn Fv_fnd Fv_own Fv_ownd Fv_nown Fv_vown FvL_nil FvL_cons kvp_av hdp_some subz frz Uz Nm Uh vw_nb vw_zo vw_zf vw_hb tb_nil tb_cons fzc_nil fzc_cons fzcaps_nil fzcaps_cons ty2 ty3 ty4 ty5 ty6 ty7 ty8 ty9 ty10 ty11 ty12 ty13 ty14 ty15 ty16 ty17 ty18 ty19 ty20 ty21 ty22 ty23 ty24 ty25 ty26 ty27 ty30 ty40 ty48 ty50 ty51 ty52 ty55 ty57 ty62 ty63 ty85 ty94 ty101 ty121 ty122 ty123 ty124 ty125 ty126 ty128 ty148 ty149 ty151 ty164 ty165 ty179 ty182 ty196 ty203 ty205 ty209 ty211 ty215 ty216 ty217 ty218 ty219 ty220 ty221 ty223 ty224 ty225 ty226 ty227 Value.oneCell'
set_option maxRecDepth 100000
end Go.Proofs.Ytlkdkhmdmgchbaa
namespace Go.Proofs.Ytlkdkhmdmgchbaa
set_option linter.unusedSimpArgs false
set_option linter.unusedVariables false
open Go.RowKit
set_option maxRecDepth 100000
def ifaSP (t : TypeId) (ds : List D) : SP where
  p := fun Z w v => ∃ vs : Array Value, v = .iface t (.agg vs) ∧ vs.size = ds.length ∧ ∀ (i : Nat) (x : D), ds[i]? = some x → RepD Z w (vs.getD i undef) x
  evo := by
    rintro Z Z' w w' v ⟨vs, e, n, h⟩ hz
    exact ⟨vs, e, n, fun i x hx => (h i x hx).evo hz⟩
  one := by
    rintro Z w v ⟨vs, rfl, _⟩
    rfl
section
variable {P : Program} {C : Cx} {G : Gh} {σ : St} {a : Act} {w : World} {L : St} {T : Tab P}
theorem run_loadVar {t : TypeId} {ti : TI} (ht : T.f t = some ti) (hg : ti.sh.agg = false) {b : Nat} {v : Value} (h : w.cell? ⟨b, 0, none⟩ = some v) : (loadVar t ⟨b, 0, none⟩).run P w = .ok v w := by
  have h1 := (T.ok t ti ht).run_agg w
  simp [loadVar, h1, hg, h]
theorem hatch_invct {pz : List Nat} {z : Nat} {t ts : TypeId} {tsi : TI} {m : String} {args : Array Operand} {ats : Array TypeId} {f : FuncId} {d t0 : Tmp} {ty : TypeId} {st : String} {e : Array Edge} {gd : Option (Nat × Bool)} {k : Trc → Prop} {n h E sz y : Nat} {zs zs2 : List Nat} {rows : List (List D)} {r r1 : Row} {ds : List DV} {res : Res} (hf : callOk P f = true)
    (hm : ∀ (g : Nat) (w : World), (method (P.types.size + Made.depth) t (.pointer (some ⟨g, 0, none⟩)) m).run P w = (do let s ← loadVar ts ⟨g, 0, none⟩; pure (f, s) : Sem (FuncId × Value)).run P w) (hts : T.f ts = some tsi) (hag : tsi.sh.agg = false)
    (hx : L (.tmp t0) = .av (.wp (.ifc t) n)) (hc0 : L (.cell n 0) = .av (.own h)) (hh : L (.hd h) = .hd (.own E sz y zs rows)) (hl : zr L (y :: zs) = some r) (hargs : argsOf L args.toList = some (r1, zs2, ds)) (hc : Ct P f (.c (.s sz rows) :: ds) none res) (hv : res.isV = true)
    (hk : k ⟨(.tmp t0, .av (.wp (.ifc t) n)) :: (.cell n 0, .av (.own h)) :: (.hd h, .hd (.own E sz y zs rows)) :: (r ++ r1), wr (some d) (atR [] res)⟩) : stHatchZ P L pz z ⟨some d, .call ⟨.invoke (.tmp t0) m, args, ats⟩, ty, st, e, gd⟩ k := by
  refine ⟨_, hk, Rd.cons hx (Rd.cons hc0 (Rd.cons hh (Rd.app (zr_rd hl) (argsOf_rd hargs)))), fun C hd hpz hzb => ?_⟩
  intro σ a w K ⟨G, hA⟩ hr hK
  obtain ⟨u, t1, t2⟩ := hA.tmp _ _ hr.head
  obtain ⟨_, s, c1, c2, c3⟩ := hA.cell n 0 _ hr.tail.head
  have hhd := hr.tail.tail.head
  have hrr := hr.tail.tail.tail
  have lz := zr_ok hl hrr.left
  have es : s = G.τ h := c3.rep ⟨_, _, _, _, _, hhd⟩
  subst es
  obtain ⟨k1, k2⟩ := (hA.hd h _ _ _ _ _ hhd).own (lz y List.mem_cons_self)
  obtain ⟨j0, j1, j2⟩ := argsOf_ok hargs hA hrr.right
  have ev : a.eval (.tmp t0) = .iface t (.pointer (some ⟨G.ρ n, 0, none⟩)) := by simp only [Act.eval, Array.getD_eq_getD_getElem?, t1]; exact t2.rep
  have hm' : (method (P.types.size + Made.depth) t (.pointer (some ⟨G.ρ n, 0, none⟩)) m).run P w = .ok (f, G.τ h) w := by
    rw [hm, Sem.run_bind, run_loadVar hts hag c1]
    rfl
  have hrun := run_invoke (d := some d) (args := args) (ats := ats) (ty := ty) (st := st) (e := e) (gd := gd) ev hm' hf
  have hreps : Reps (fun _ => True) w (#[G.τ h] ++ (args.toList.map a.eval).toArray) (.c (.s sz rows) :: ds) := by
    refine ⟨by simp at j1 ⊢; omega, fun i x hi => ?_⟩
    cases i with
    | zero =>
      cases hi
      have e : (#[G.τ h] ++ (args.toList.map a.eval).toArray).getD 0 undef = G.τ h := by simp [Array.getD_eq_getD_getElem?]
      rw [e]
      exact k2.data (fun z hz => lz z (List.mem_cons_of_mem _ hz)) (fun _ _ => trivial) fun _ _ => trivial
    | succ i =>
      have := j2 i x (by simpa using hi)
      refine RepDV.mono (Z := G.zu zs2) ?_ fun _ _ => trivial
      simpa [Array.getD_eq_getD_getElem?, List.getD, Array.getElem?_append] using this
  refine ⟨fun c => by simp, .inr (.inr ⟨f, _, w, hrun, (hc _ w _ hreps).mono ?_⟩)⟩
  rintro ee w' ⟨v, Zn, rfl, B, _, hres⟩
  exact ⟨v, rfl, hK _ _ ⟨G, (hA.below B).1.put (dok_ok hd) (atR_rep (fun z hz => absurd hz (by simp)) (Res.isV_rep hv hres))⟩⟩
theorem hatch_invku {pz : List Nat} {z : Nat} {t ts : TypeId} {tsi : TI} {m : String} {args : Array Operand} {ats : Array TypeId} {f : FuncId} {d : Option Tmp} {t0 : Tmp} {ty : TypeId} {st : String} {e : Array Edge} {gd : Option (Nat × Bool)} {k : Trc → Prop} {n h E sz y : Nat} {zs zs2 : List Nat} {rows rows' : List (List D)} {r r1 : Row} {ds : List DV} (hf : callOk P f = true)
    (hm : ∀ (g : Nat) (w : World), (method (P.types.size + Made.depth) t (.pointer (some ⟨g, 0, none⟩)) m).run P w = (do let s ← loadVar ts ⟨g, 0, none⟩; pure (f, s) : Sem (FuncId × Value)).run P w) (hts : T.f ts = some tsi) (hag : tsi.sh.agg = false)
    (hx : L (.tmp t0) = .av (.wp (.ifc t) n)) (hc0 : L (.cell n 0) = .av (.own h)) (hh : L (.hd h) = .hd (.own E sz y zs rows)) (hy : L (.zn y) = .zn .live) (hl : zr L zs = some r) (hargs : argsOf L args.toList = some (r1, zs2, ds)) (hz2 : zs2 = []) (hc : Ku P f ds E sz rows rows') (hf0 : L (.zn z) = .zn .free) (hp : pz.contains y = false) (hny : zs.contains y = false)
    (hk : k ⟨(.tmp t0, .av (.wp (.ifc t) n)) :: (.cell n 0, .av (.own h)) :: (.hd h, .hd (.own E sz y zs rows)) :: (.zn y, .zn .live) :: (.zn z, .zn .free) :: (r ++ r1), wr d (.c [] (.v (.tuple #[]))) ++ [(.hd h, .hd (.own E sz z zs rows')), (.zn z, .zn .live), (.zn y, .zn .dead)]⟩) : stHatchZ P L pz z ⟨d, .call ⟨.invoke (.tmp t0) m, args, ats⟩, ty, st, e, gd⟩ k := by
  subst hz2
  refine ⟨_, hk, Rd.cons hx (Rd.cons hc0 (Rd.cons hh (Rd.cons hy (Rd.cons hf0 (Rd.app (zr_rd hl) (argsOf_rd hargs)))))), fun C hd hpz hzb => ?_⟩
  subst hpz
  intro σ a w K ⟨G, hA⟩ hr hK
  obtain ⟨u, t1, t2⟩ := hA.tmp _ _ hr.head
  obtain ⟨_, s, c1, c2, c3⟩ := hA.cell n 0 _ hr.tail.head
  have hhd := hr.tail.tail.head
  have ly : Lv σ y := hr.tail.tail.tail.head
  have fz := hr.tail.tail.tail.tail.head
  have hrr := hr.tail.tail.tail.tail.tail
  have lz := zr_ok hl hrr.left
  have es : s = G.τ h := c3.rep ⟨_, _, _, _, _, hhd⟩
  subst es
  obtain ⟨k1, vals, p1, p2, p3, p4⟩ := (hA.hd h _ _ _ _ _ hhd).own ly
  obtain ⟨j0, j1, j2⟩ := argsOf_ok hargs hA hrr.right
  have ev : a.eval (.tmp t0) = .iface t (.pointer (some ⟨G.ρ n, 0, none⟩)) := by simp only [Act.eval, Array.getD_eq_getD_getElem?, t1]; exact t2.rep
  have hm' : (method (P.types.size + Made.depth) t (.pointer (some ⟨G.ρ n, 0, none⟩)) m).run P w = .ok (f, G.τ h) w := by
    rw [hm, Sem.run_bind, run_loadVar hts hag c1]
    rfl
  have hrun := run_invoke (d := d) (args := args) (ats := ats) (ty := ty) (st := st) (e := e) (gd := gd) ev hm' hf
  have hreps : Reps (G.zu zs) w (args.toList.map a.eval).toArray ds := ⟨by simpa using j1, fun i x hi => by
    have e : ((args.toList.map a.eval).toArray).getD i undef = (args.toList.map a.eval).getD i undef := by simp [Array.getD_eq_getD_getElem?, List.getD]
    rw [e]
    exact (j2 i x hi).mono fun b ⟨y, hy, _⟩ => absurd hy (by simp)⟩
  have row0 : RowAt (G.zu zs) w (G.τ h) E sz rows True := ⟨vals, p1, p2, p3, fun _ => p4 lz⟩
  refine ⟨fun c => by simp, .inr (.inr ⟨f, _, w, hrun, (hc (G.zu zs) w _ _ row0 (fun b hb ⟨z', hz', hb'⟩ => hA.disj z' y b (fun e => by subst e; rw [Bool.eq_false_iff] at hny; exact hny (by simpa using hz')) (lz z' hz') ly hb' ((k1 b).2 hb)) hreps).mono ?_⟩)⟩
  rintro ee w' ⟨rfl, hkeeps, hrow⟩
  refine ⟨_, rfl, hK _ _ ?_⟩
  obtain ⟨G2, h2⟩ := hA.over hhd ly (fun h => by simp [h] at hp) (fun h => Nat.lt_irrefl _ (hzb _ h)) fz lz hkeeps hrow
  have h3 := h2.put (dst := d) (v := .tuple #[]) (x := .c [] (.v (.tuple #[]))) (dok_ok hd) (rep_raw _)
  rw [ovr_ovr] at h3
  exact ⟨_, h3⟩
theorem RowAt.cut {Z : Zone} {v : Value} {E sz k : Nat} {rows : List (List D)} (h : RowAt Z w v E sz rows True) (hk : k ≤ rows.length) {p : Option Addr} {n cap : Nat} (hv : v = .slice p n cap) : n = rows.length ∧ k ≤ cap ∧ RowAt Z w (.slice (if cap = 0 then p else p.map (·.add 0)) k cap) E sz (rows.take k) True := by
  obtain ⟨vals, k1, k2, k3, k4⟩ := h
  have lenk : (rows.take k).length = k := by rw [List.length_take]; omega
  have base : ∀ (i : Nat) (r : List D), (rows.take k)[i]? = some r → i < k ∧ rows[i]? = some r := fun i r hi => by
    rw [List.getElem?_take] at hi
    split at hi
    · exact ⟨by assumption, hi⟩
    · cases hi
  rcases k1.2 with ⟨e, h0⟩ | ⟨g, cap', cur, e, h1, h2, h3, h4, h5, h6⟩
  · rw [e] at hv
    cases hv
    have : k = 0 := by omega
    subst this
    refine ⟨by omega, Nat.le_refl _, [], ?_, fun u hu => by simp at hu, fun i r hi => k3 i r (base i r hi).2, fun _ i r j x hi _ => absurd (base i r hi).1 (by omega)⟩
    rw [List.take_zero]
    exact World.ownsRow_nil _ _ _ _
  · rw [e] at hv
    simp only [Value.slice.injEq] at hv
    obtain ⟨rfl, rfl, rfl⟩ := hv
    refine ⟨rfl, by omega, vals.take (k * sz), ?_, fun u hu => k2 u (List.mem_of_mem_take hu), fun i r hi => k3 i r (base i r hi).2, fun _ i r j x hi hj => ?_⟩
    · have ep : (if cap' = 0 then some (⟨g, 0, none⟩ : Addr) else (some (⟨g, 0, none⟩ : Addr)).map (·.add 0)) = some ⟨g, 0, none⟩ := by
        split
        · rfl
        · simp [add_none]
      rw [ep, lenk]
      have hmul : k * sz ≤ rows.length * sz := Nat.mul_le_mul_right _ hk
      refine ⟨by rw [List.length_take, k1.1]; omega, .inr ⟨g, cap', cur, rfl, h1, h2, by omega, h4, h5, ?_⟩⟩
      rw [← h6, List.take_take, Nat.min_eq_left hmul]
    · obtain ⟨i1, i2⟩ := base i r hi
      have hj' : j < sz := by rw [← k3 i r i2]; exact (List.getElem?_eq_some_iff.1 hj).1
      have hle : (i + 1) * sz ≤ k * sz := Nat.mul_le_mul_right _ i1
      rw [Nat.add_mul, Nat.one_mul] at hle
      have := k4 trivial i r j x i2 hj
      simp only [List.getD] at this ⊢
      rw [List.getElem?_take, if_pos (by omega)]
      exact this
theorem hatch_cutown {pz : List Nat} {t e' : TypeId} {ti ei : TI} {d t0 : Tmp} {ty : TypeId} {st : String} {e : Array Edge} {gd : Option (Nat × Bool)} {k : Trc → Prop} {z h E sz y : Nat} {zs : List Nat} {rows : List (List D)} {hi : Operand} {r r2 : Row} {kk : IntKind} {n : Int} {q : Prop} (m : Nat) (ht : T.f t = some ti) (hsh : ti.sh = .slice e') (he : T.f e' = some ei)
    (hx : L (.tmp t0) = .av (.own h)) (hh : L (.hd h) = .hd (.own E sz y zs rows)) (hy : L (.zn y) = .zn .live) (hl : zr L zs = some r) (hb : opr L hi = some (r2, .int kk n)) (hn : n = (m : Int)) (hm : m ≤ rows.length) (fz : L (.zn z) = .zn .free) (fh : L (.hd z) = .hd .free) (hp : pz.contains y = false) (hny : zs.contains y = false)
    (hk : k ⟨(.zn z, .zn .free) :: (.hd z, .hd .free) :: (.tmp t0, .av (.own h)) :: (.hd h, .hd (.own E sz y zs rows)) :: (.zn y, .zn .live) :: (r ++ r2), wr (some d) (.own z) ++ ([(.hd z, .hd (.own E sz z zs (rows.take m))), (.zn z, .zn .live)] ++ goneH h y)⟩) : orr q (stHatchZ P L pz z ⟨some d, .slice t (.tmp t0) none (some hi) none, ty, st, e, gd⟩ k) := by
  refine orr_r ⟨_, hk, Rd.cons fz (Rd.cons fh (Rd.cons hx (Rd.cons hh (Rd.cons hy (Rd.app (zr_rd hl) (opr_rd hb)))))), fun C hd hpz hzb => ?_⟩
  subst hpz
  intro σ a w K ⟨G, hA⟩ hr hK
  have f1 := hr.head
  have f2 := hr.tail.head
  obtain ⟨u, t1, t2⟩ := hA.tmp _ _ hr.tail.tail.head
  have hhd := hr.tail.tail.tail.head
  have ly : Lv σ y := hr.tail.tail.tail.tail.head
  have hrr := hr.tail.tail.tail.tail.tail
  have lz := zr_ok hl hrr.left
  have eu : u = G.τ h := t2.rep ⟨_, _, _, _, _, hhd⟩
  subst eu
  have eh := opr_ok hb hA hrr.right
  obtain ⟨k1, vals, p1, p2, p3, p4⟩ := (hA.hd h _ _ _ _ _ hhd).own ly
  have row0 : RowAt (G.zu zs) w (G.τ h) E sz rows True := ⟨vals, p1, p2, p3, fun _ => p4 lz⟩
  have y0 : y ∉ C.pz := fun h => by simp [h] at hp
  have z0 : z ∉ C.pz := fun h => Nat.lt_irrefl _ (hzb _ h)
  obtain ⟨pp, cap, ev, _⟩ := (row0.data (Z' := fun _ => True) trivial (fun _ _ => trivial) (fun _ _ => trivial)).form
  obtain ⟨_, c2, c3⟩ := row0.cut hm ev
  have e0 : a.eval (.tmp t0) = .slice pp rows.length cap := by simp [Act.eval, t1, ev]
  have hrun := run_sliceAt (w := w) ht hsh he pp rows.length cap none (some (kk, m)) none (by simp) (by simp) (by simpa using c2) (by simp)
  have er : (execOp a.eval ⟨some d, .slice t (.tmp t0) none (some hi) none, ty, st, e, gd⟩).run P w = .ok (.value (.slice (if cap = 0 then pp else pp.map (·.add 0)) m cap)) w := by
    simp only [execOp, e0]
    have eb : (some hi).map a.eval = bnd (some (kk, m)) := by simp [bnd, eh, hn]
    have en : (none : Option Operand).map a.eval = bnd none := rfl
    rw [eb, en, Sem.run_bind, hrun]
    simp
  have hob : ∀ b, (Value.slice (if cap = 0 then pp else pp.map (·.add 0)) m cap).ownBlock = some b → (G.τ h).ownBlock = some b := fun b hb => by
    rw [ev]
    cases pp with
    | none => split at hb <;> simp [Value.ownBlock] at hb
    | some ad =>
      split at hb
      · simpa [Value.ownBlock] using hb
      · simpa [Value.ownBlock, Addr.add] using hb
  refine ⟨fun c => by simp, .inl ⟨_, w, er, hK _ _ ?_⟩⟩
  obtain ⟨g1, g2, _⟩ := hA.gone hhd ly y0
  have hne : ∀ z' ∈ zs, z' ≠ y := fun z' hz' e => by subst e; rw [Bool.eq_false_iff] at hny; exact hny (by simpa using hz')
  have ko : ∀ key, key ≠ .hd h → key ≠ .zn y → (ovr σ (goneH h y)) key = σ key := fun key q1 q2 => by
    unfold goneH; simp only [ovr, fnd]; rw [if_neg (fun e => q1 e.symm), if_neg (fun e => q2 e.symm)]; rfl
  have zy : z ≠ y := fun e => by subst e; unfold Lv at ly; rw [f1] at ly; cases ly
  have zh : z ≠ h := fun e => by subst e; rw [f2] at hhd; cases hhd
  have lz' : ∀ z' ∈ zs, Lv (ovr σ (goneH h y)) z' := fun z' hz' => by
    have := lz z' hz'
    unfold Lv at this ⊢
    rw [ko _ (by simp) (by simpa using hne z' hz')]; exact this
  obtain ⟨G2, u1, u2, u3, u4, u5, _⟩ := g1.addrow (z := z) (v := .slice (if cap = 0 then pp else pp.map (·.add 0)) m cap) (by rw [ko _ (by simp) (by simpa using zy)]; exact f1) (by rw [ko _ (by simpa using zh) (by simp)]; exact f2) z0 lz' (fun b hb => g2 b (hob b hb)) c3
  have h3 := u1.put (dst := some d) (v := .slice (if cap = 0 then pp else pp.map (·.add 0)) m cap) (x := .own z) (dok_ok hd) ⟨by show Uh _ _; unfold Uh; simp [ovr, fnd], fun _ => u5.symm⟩
  rw [ovr_ovr, ovr_ovr] at h3
  exact ⟨_, by simpa using h3⟩
section
variable {d t0 : Tmp} {ty : TypeId} {st : String} {e : Array Edge} {gd : Option (Nat × Bool)} {k : Trc → Prop}
theorem hatch_ifa {t : TypeId} {ds : List D} {cs : List (List Nat × D)} {r : Row} (zs : List Nat) (hm : ∀ (v : Value) (w : World), (Instr.makeInterface t v).run P w = .ok (.iface t v) w) (hx : L (.tmp t0) = .av (.agg cs)) (hcs : cs.map (·.2) = ds) (hsub : cs.all (fun c => c.1.all fun y => zs.contains y) = true) (hzs : zr L zs = some r)
    (hk : k ⟨(.tmp t0, .av (.agg cs)) :: r, wr (some d) (.c zs (.st (ifaSP t ds)))⟩) : stHatch P L ⟨some d, .makeInterface t (.tmp t0), ty, st, e, gd⟩ k := by
  refine hatch_pure ((.tmp t0, .av (.agg cs)) :: r) _ (fun c => by simp) (Rd.cons hx (zr_rd hzs)) (fun C G σ a w hA hr => ?_) hk
  obtain ⟨v, t1, t2⟩ := hA.tmp _ _ hr.head
  have lzs := zr_ok hzs hr.tail
  obtain ⟨vs, rfl, k1, k2⟩ := t2.rep
  simp only [List.all_eq_true, List.contains_iff_mem] at hsub
  refine ⟨.iface t (.agg vs), ?_, ⟨fun y hy => (lzs y hy).used, fun _ => .st _ _ ⟨vs, rfl, by rw [k1, ← hcs]; simp, fun i x hx => ?_⟩⟩⟩
  · have ev : a.eval (.tmp t0) = .agg vs := by simp [Act.eval, t1]
    simp only [execOp]
    rw [ev]
    simp [hm]
  · rw [← hcs, List.getElem?_map, Option.map_eq_some_iff] at hx
    obtain ⟨⟨zz, y⟩, h1, rfl⟩ := hx
    have hmem := hsub _ (List.mem_of_getElem? h1)
    exact (k2 i zz y h1 (fun q hq => lzs q (by simpa using hmem q hq))).mono fun b ⟨q, hq, hb⟩ => ⟨q, by simpa using hmem q hq, hb⟩
theorem hatch_out {t u : TypeId} {ds : List D} {r : Row} {zs : List Nat} (hm : ∀ (v : Value) (w : World), (Instr.typeAssert (.iface t v) u t false).run P w = .ok v w) (hx : L (.tmp t0) = .av (.c zs (.st (ifaSP t ds)))) (hzs : zr L zs = some r)
    (hk : k ⟨(.tmp t0, .av (.c zs (.st (ifaSP t ds)))) :: r, wr (some d) (.agg (ds.map fun x => (nz zs x, x)))⟩) : stHatch P L ⟨some d, .typeAssert (.tmp t0) u t false, ty, st, e, gd⟩ k := by
  refine hatch_pure ((.tmp t0, .av (.c zs (.st (ifaSP t ds)))) :: r) _ (fun c => by simp) (Rd.cons hx (zr_rd hzs)) (fun C G σ a w hA hr => ?_) hk
  obtain ⟨v, t1, t2⟩ := hA.tmp _ _ hr.head
  have lzs := zr_ok hzs hr.tail
  have h := t2.rep lzs
  cases h with
  | st _ _ h =>
    obtain ⟨vs, rfl, k1, k2⟩ := h
    refine ⟨.agg vs, ?_, rep_agg (fun i zz x hi => ?_) (by simpa using k1)⟩
    · have ev : a.eval (.tmp t0) = .iface t (.agg vs) := by simp [Act.eval, t1]
      simp only [execOp]
      rw [ev]
      simp [hm]
    · rw [List.getElem?_map, Option.map_eq_some_iff] at hi
      obtain ⟨y, h1, h2⟩ := hi
      cases h2
      exact ⟨fun q hq => (lzs q (nz_sub _ _ hq)).used, fun _ => nz_rep (k2 i _ h1)⟩
end
end
theorem cst_nilI : cst .nilIface = .c [] (.v .nilIface) := rfl
end Go.Proofs.Ytlkdkhmdmgchbaa
namespace Go.Proofs.Ytlkdkhmdmgchbaa
set_option linter.unusedSimpArgs false
set_option linter.unusedVariables false
open Go.RowKit Go.Shelf
attribute [local go_sem] Oper.semAt_some
set_option maxRecDepth 100000

end Go.Proofs.Ytlkdkhmdmgchbaa
namespace Go.Proofs.Ytlkdkhmdmgchbaa
set_option linter.unusedSimpArgs false
set_option linter.unusedVariables false
open Go.RowKit
set_option maxRecDepth 100000
end Go.Proofs.Ytlkdkhmdmgchbaa
namespace Go.Proofs.Ytlkdkhmdmgchbaa
set_option linter.unusedSimpArgs false
set_option linter.unusedVariables false
open Go.RowKit Go.Shelf Go.Lib Go.Sort

end Go.Proofs.Ytlkdkhmdmgchbaa
namespace Go.Proofs.Ytlkdkhmdmgchbaa
set_option linter.unusedSimpArgs false
set_option linter.unusedVariables false
open Go.RowKit Go.Shelf Go.Lib Go.Sort
end Go.Proofs.Ytlkdkhmdmgchbaa
namespace Go.Proofs.Ytlkdkhmdmgchbaa
set_option linter.unusedSimpArgs false
set_option linter.unusedVariables false
open Go.RowKit Go.Shelf Go.Lib Go.Sort
set_option maxRecDepth 100000

abbrev encP (p : Pr) : List Value := [.int .u64 p.1, .int .u64 p.2]
def flatP : List Pr → List Value
  | [] => []
  | p :: l => .int .u64 p.1 :: .int .u64 p.2 :: flatP l
theorem flatP_get : ∀ (l : List Pr) (i : Nat) (h : i < l.length), (flatP l)[i * 2]? = some (.int .u64 l[i].1) ∧ (flatP l)[i * 2 + 1]? = some (.int .u64 l[i].2)
  | p :: l, 0, h => ⟨rfl, rfl⟩
  | p :: l, i + 1, h => by
    have := flatP_get l i (by simpa using h)
    have e : (i + 1) * 2 = i * 2 + 2 := by omega
    rw [e]
    simpa [flatP] using this
def RwB (w : World) (g C : Nat) (l : List Pr) (wr : World) : Prop := Keeps (fun k => k ≠ g) w wr ∧ l.length * 2 ≤ C ∧ ∃ cur, wr.heap[g]? = some (.cells cur 52 (0, 0)) ∧ cur.size = C ∧ cur.toList.take (l.length * 2) = flatP l
section
variable {w wr : World} {g C : Nat} {l : List Pr}
theorem RwB.drew (h : RwB w g C l wr) : RwB w g C l wr.drew := ⟨⟨h.1.os, h.1.tape, h.1.output, h.1.size, h.1.block⟩, h.2⟩
theorem RwB.cells (h : RwB w g C l wr) {k : Nat} (hk : k < l.length) : wr.cell? ⟨g, k * 2, none⟩ = some (.int .u64 l[k].1) ∧ wr.cell? ⟨g, k * 2 + 1, none⟩ = some (.int .u64 l[k].2) ∧ wr.frozen? ⟨g, k * 2, none⟩ = false ∧ wr.frozen? ⟨g, k * 2 + 1, none⟩ = false := by
  obtain ⟨_, hC, cur, hg, hs, ht⟩ := h
  obtain ⟨q1, q2⟩ := flatP_get l k hk
  have e : ∀ t, t < l.length * 2 → cur[t]? = (flatP l)[t]? := fun t htl => by
    rw [← ht, List.getElem?_take, if_pos htl]; simp
  have f : ∀ t, wr.frozen? ⟨g, t, none⟩ = false := fun t => by
    unfold World.frozen?
    simp [hg]
  refine ⟨?_, ?_, f _, f _⟩
  · unfold World.cell?
    simp only [hg]
    rw [e _ (by omega), q1]
    rfl
  · unfold World.cell?
    simp only [hg]
    rw [e _ (by omega), q2]
    rfl
theorem flatP_set : ∀ (l : List Pr) (i : Nat) (u : Pr), i < l.length → flatP (l.set i u) = ((flatP l).set (i * 2) (.int .u64 u.1)).set (i * 2 + 1) (.int .u64 u.2)
  | [], i, u, h => by simp at h
  | p :: l, 0, u, h => rfl
  | p :: l, i + 1, u, h => by
    have e : (i + 1) * 2 = i * 2 + 2 := by omega
    rw [e]
    simp only [List.set_cons_succ, flatP]
    rw [flatP_set l i u (by simpa using h)]
theorem flatP_take : ∀ (l : List Pr) (k : Nat), flatP (l.take k) = (flatP l).take (k * 2)
  | [], k => by simp [flatP]
  | p :: l, 0 => rfl
  | p :: l, k + 1 => by
    have e : (k + 1) * 2 = k * 2 + 2 := by omega
    rw [e]
    simp only [List.take_succ_cons, flatP]
    rw [flatP_take l k]
theorem RwB.set (h : RwB w g C l wr) {i : Nat} (hi : i < l.length) (u : Pr) : RwB w g C (l.set i u) ((wr.setCell ⟨g, i * 2, none⟩ (.int .u64 u.1)).setCell ⟨g, i * 2 + 1, none⟩ (.int .u64 u.2)) := by
  obtain ⟨k, hC, cur, hg, hs, ht⟩ := h
  refine ⟨(k.setCell (by simp) _).setCell (by simp) _, by simpa using hC, _, set_heap_same (set_heap_same hg), by simpa using hs, ?_⟩
  rw [List.length_set, flatP_set l i u hi, ← ht]
  simp only [Array.toList_setIfInBounds, List.take_set]
theorem setCells_block (g : Nat) (E : TypeId) : ∀ (vs : List Value) (o : Nat) (W : World) (cur : Array Value), W.heap[g]? = some (.cells cur E (0, 0)) → ∃ cur', (W.setCells g o vs).heap[g]? = some (.cells cur' E (0, 0)) ∧ cur'.size = cur.size ∧ cur'.toList.take o = cur.toList.take o ∧ Keeps (fun k => k ≠ g) W (W.setCells g o vs)
  | [], o, W, cur, h => ⟨cur, h, rfl, rfl, Keeps.refl _ _⟩
  | v :: vs, o, W, cur, h => by
    obtain ⟨cur', h1, h2, h3, h4⟩ := setCells_block g E vs (o + 1) (W.setCell ⟨g, o, none⟩ v) _ (set_heap_same h)
    refine ⟨cur', h1, by simpa using h2, ?_, ((Keeps.refl _ W).setCell (by simp) _).trans h4⟩
    have := congrArg (List.take o) h3
    rw [List.take_take, List.take_take] at this
    simp only [Nat.min_eq_left (Nat.le_succ o)] at this
    rw [this]
    simp only [Array.toList_setIfInBounds, List.take_set]
    rw [List.set_eq_of_length_le (by rw [List.length_take]; omega)]
theorem RwB.tail (h : RwB w g C l wr) {k : Nat} (hk : k ≤ l.length) (vs : List Value) : RwB w g C (l.take k) (wr.setCells g (k * 2) vs) := by
  obtain ⟨kp, hC, cur, hg, hs, ht⟩ := h
  obtain ⟨cur', h1, h2, h3, h4⟩ := setCells_block g 52 vs (k * 2) wr cur hg
  have hl : (l.take k).length = k := by simp; omega
  refine ⟨kp.trans h4, by rw [hl]; omega, cur', h1, h2.trans hs, ?_⟩
  rw [hl, h3, flatP_take, ← ht, List.take_take, Nat.min_eq_left (by omega)]
end
end Go.Proofs.Ytlkdkhmdmgchbaa
namespace Go.Proofs.Ytlkdkhmdmgchbaa
set_option linter.unusedSimpArgs false
set_option linter.unusedVariables false
open Go.RowKit
attribute [local simp ↓] raw_wp hdd_wp dst0_wp slc_wp gav_bool gav_undef avpo_ptr avpo_seg avpo_wp avpo_optr avtupw_tup avtupw_wp raw_optr hdd_optr arun_nil ob_some kva_av kfree_free khfree_free khown_own klive_live knm_false chk_true ya_true gsel_tt gsel_ff gsel_tf gsel_ft vb_bool vi_int vstr_string avps_ptr avps_seg avp_ptr avagg_agg avtup_tup avb_bool avown_own shs_struct shsa_struct shsa_arr sharr_arr shl_slice shla_slice shla_arr shls_slice shls_str shi_int bc_true bc_false hd1_cons opc_some opc_none opn_some opn_none unc_not unc_neg gd_none gd_some as_move as_assign as_pick as_bin as_un as_conv as_load as_faddr as_field as_extract as_iaddr as_slice as_alloc as_box as_store as_build as_rows as_call as_append as_invoke as_copy as_nilCheck as_makeIface as_assert as_makeSlice as_lookup as_mapUpdate as_makeMap as_range as_next as_entry as_index as_fn as_len as_min as_max stMove stPick stBin stUn stConv stLoad stFaddr stField stExtract stIaddr stSlice stAlloc stBox stStore stBuild stIndex stRows stCall stAppend stFn stLen stMin stMax opd_tmp opd_const opd_func rawL_nil rawL_cons raw_c raw_st raw_a opr_e zr_nil zr_cons lvd_live hod_own obd_some obd_none kvd_av chd_true vid_int lk_cons lk_nil ins_nil ins_cons cells_zero cells_succ spread1_c spread1_own spread1_ptr spread1_fn spread1_seg spreadL_nil spreadL_cons spread_agg spread_c spread_own spread_seg spread_ptr spread_fn ex_zero ex_succ ops_e opb_none opb_int spreadD_agg spreadD_c spreadD_own spreadD_seg fillO_nil fillO_cons argsOf_nil argsOf_cons dvOf_c dvOf_seg dvOf_own dvOf_agg zrL_nil zrL_cons hdd_c hdd_seg hdd_own clz_e clv_raw clv_f callD_e dst0_n dst0_nil dst0_own goneH_e capc_ptr capc_seg capc_c capN_nil capN_cons capD_nil capD_cons deadZ_nil deadZ_cons
attribute [local simp] dok_some dok_none dflt_tmp dflt_vt dflt_cell dflt_zn dflt_nm dflt_hd dflt_sz dflt_df puts_nil puts_cons wr_some wr_none cst_agg cst_int cst_bool cst_string cst_slice cst_tuple cst_nilFunc cst_pointer cst_func bin_add bin_sub bin_mul bin_quo bin_rem bin_eql bin_neq bin_lss bin_leq bin_gtr bin_geq bin_bool bin_aggs binT_bool binT_aggs shbd_bool eqb_eql eqb_neq bin_slice bin_str_eql bin_str_neq bin_str_lss bin_str_add nz_v nz_n nz_s nz_p nz_f nz_st atz_v atz_n atz_s atz_p atz_f atz_st atz_agg atR_one atR_tup crow_nil crow_cons slc_c slc_n slc_own slc_nil raws setR placesT_nil placesT_cons zc chunk zsAll setD ocD_v ocD_n ocD_s ocD_p ocD_f ocD_st nrm_v nrm_n nrm_s nrm_p nrm_f nrm_st isV_one isV_tup isV_c isV_agg isV_v isV_n isV_s isV_p isV_f isV_st argRows Sh.agg zds_nil zds_e zds_v zds_s vcells_agg vcells_int vcells_bool vcells_string vcells_slice vcells_pointer toList_lit map_nilL map_consL nzr_e rowsOc_nil rowsOc_cons rowsOc_RD nzr_RD foks_nil foks_cons fok_tmp fok_vt fok_cell fok_nm fok_zn fok_hd fok_sz fok_df Fv_c Fv_seg Fv_tup Fv_agg Fv_ptr Fv_ptrs Fv_wp Fv_fn Fv_fnd Fv_own Fv_ownd Fv_nown Fv_vown FvL_nil FvL_cons kvp_av hdp_some subz frz Uz Nm Uh vw_nb vw_zo vw_zf vw_hb tb_nil tb_cons fzc_nil fzc_cons fzcaps_nil fzcaps_cons ty2 ty3 ty4 ty5 ty6 ty7 ty8 ty9 ty10 ty11 ty12 ty13 ty14 ty15 ty16 ty17 ty18 ty19 ty20 ty21 ty22 ty23 ty24 ty25 ty26 ty27 ty30 ty40 ty48 ty50 ty51 ty52 ty55 ty57 ty62 ty63 ty85 ty94 ty101 ty121 ty122 ty123 ty124 ty125 ty126 ty128 ty148 ty149 ty151 ty164 ty165 ty179 ty182 ty196 ty203 ty205 ty209 ty211 ty215 ty216 ty217 ty218 ty219 ty220 ty221 ty223 ty224 ty225 ty226 ty227 Value.oneCell'
set_option maxRecDepth 100000
def trD (t : Tr) : List D := [RD t.1, RD t.2]
def o16 (t : Tr) : Tr := (t.1.take 16, t.2.take 16)
def own26 (l : List Tr) : List Tr := (l.take 26).map o16
def o26 (l : List Tr) (k : Nat) : List (List D) := mapR (fun t => trD (o16 t)) (l.take 26) (min k 26)
theorem o26_s (l : List Tr) {k : Nat} (h : k < l.length) (h26 : k < 26) : o26 l (k + 1) = o26 l k ++ [[RD (o16 l[k]).1, RD (o16 l[k]).2]] := by
  unfold o26
  have e1 : min (k + 1) 26 = k + 1 := by omega
  have e2 : min k 26 = k := by omega
  rw [e1, e2]
  have hl : k < (l.take 26).length := by rw [List.length_take]; omega
  have := mapR_s (fun t => trD (o16 t)) (l.take 26) hl
  rw [this]
  simp [trD]
theorem o26_n (l : List Tr) {k : Nat} (h26 : ¬ k < 26) : o26 l (k + 1) = o26 l k := by
  unfold o26
  rw [show min (k + 1) 26 = 26 by omega, show min k 26 = 26 by omega]
theorem o26_len (l : List Tr) (k : Nat) : (o26 l k).length ≤ 26 := by
  unfold o26 mapR
  rw [List.length_map, List.length_take]
  omega
theorem o26_all (l : List Tr) : o26 l l.length = (own26 l).map fun t => [RD t.1, RD t.2] := by
  unfold o26 own26 mapR
  rw [List.take_take, List.map_map, show List.take (min (min l.length 26) 26) l = List.take 26 l by rw [List.take_eq_take_iff]; omega]
  rfl
def o26S (l : List Tr) (k : Nat) : Row := [(.zn 0, .zn .live), (.zn 900, .zn .live), (.zn 901, .zn .live), (.hd 900, .hd (.own 24 2 900 [901] (o26 l k))), (.tmp 3, .av (.own 900)),
  (.tmp 6, .av (.c [0] (TsD l))), (.tmp 7, .av (.c [] (.v (.int .i64 l.length)))), (.tmp 8, .av (.c [] (.v (.int .i64 k))))]
def smallT : List Tr := [([(1, 1), (2, 2)], []), ([(3, 3)], [(1, 1)])]
theorem pair13_ct (n : Int) : Ct Try.prog 55 [dU n] none (.one (PV (n, n))) := by
  refine ct_intro Try.func55 rfl Try.ntmps55 (by simp) (fun W0 Z => ?_)
  with_reducible repeat first | refine Jt.i ?_ | refine .g (by decide) ?_
  refine AW.at_ (fun L hL => ?_)
  simp at hL
  subst hL
  refine AW.rc 1 fun K hK => ?_
  repeat (with_reducible refine .s fun X Y Z W => ?_; simp; (first | refine Z.out _ _ ?_ | refine W.out _ ?_ | refine ⟨by kernel_rfl, W.out _ ?_⟩); clear Z W X Y; simp); (try refine .n ?_)
  refine Jt.f hK ?_
  clear hK K
  with_reducible repeat first | refine Jt.i ?_ | refine .g (by decide) ?_
  refine AW.rc 10 fun K hK => ?_
  repeat (with_reducible refine .s fun X Y Z W => ?_; simp; (first | refine Z.out _ _ ?_ | refine W.out _ ?_ | refine ⟨by kernel_rfl, W.out _ ?_⟩); clear Z W X Y; simp); (try refine .n ?_)
  refine Jt.f hK ?_
  clear hK K
  with_reducible repeat first | refine Jt.i ?_ | refine .g (by decide) ?_
  refine nx_ret (T := ty) (rs := [.cell 2 52]) (zs := []) (ds := [PV (n, n)]) (rr := []) (.inr rfl) rfl (by kernel_rfl) (by kernel_rfl) (by simp) rfl
set_option maxHeartbeats 4000000 in
theorem small13_ct : Ct Try.prog 107 [] (some 24) (.one (.c (TsD smallT))) := by
  have c1 := pair13_ct 1
  have c2 := pair13_ct 2
  have c3 := pair13_ct 3
  refine ct_intro Try.func107 rfl Try.ntmps107 (by simp) (fun W0 Z => ?_)
  with_reducible repeat first | refine Jt.i ?_ | refine .g (by decide) ?_
  refine AW.at_ (fun L hL => ?_)
  simp at hL
  subst hL
  refine AW.rc 1 fun K hK => ?_
  repeat (with_reducible refine .s fun X Y Z W => ?_; simp; (first | refine Z.out _ _ ?_ | refine W.out _ ?_ | refine ⟨by kernel_rfl, W.out _ ?_⟩); clear Z W X Y; simp); (try refine .n ?_)
  refine Jt.f hK ?_
  clear hK K
  with_reducible repeat first | refine Jt.i ?_ | refine .g (by decide) ?_
  refine AW.rc 10 fun K hK => ?_
  repeat (with_reducible refine .s fun X Y Z W => ?_; simp; (first | refine Z.out _ _ ?_ | refine W.out _ ?_ | refine ⟨by kernel_rfl, W.out _ ?_⟩); clear Z W X Y; simp); (try refine .n ?_)
  refine .s fun K1 K2 hK1 hK2 => ?_
  simp
  refine orr_l ⟨by kernel_rfl, .inl ⟨_, c1, ?_⟩⟩
  (try simp)
  refine hK1.out _ _ ?_
  clear hK1 hK2 K1 K2
  (try simp)
  repeat (with_reducible refine .s fun X Y Z W => ?_; simp; (first | refine Z.out _ _ ?_ | refine W.out _ ?_ | refine ⟨by kernel_rfl, W.out _ ?_⟩); clear Z W X Y; simp); (try refine .n ?_)
  refine .s fun K1 K2 hK1 hK2 => ?_
  simp
  refine orr_l ⟨by kernel_rfl, .inl ⟨_, c2, ?_⟩⟩
  (try simp)
  refine hK1.out _ _ ?_
  clear hK1 hK2 K1 K2
  (try simp)
  repeat (with_reducible refine .s fun X Y Z W => ?_; simp; (first | refine Z.out _ _ ?_ | refine W.out _ ?_ | refine ⟨by kernel_rfl, W.out _ ?_⟩); clear Z W X Y; simp); (try refine .n ?_)
  refine .s fun K1 K2 hK1 hK2 => ?_
  simp
  refine orr_l ⟨by kernel_rfl, .inl ⟨_, c3, ?_⟩⟩
  (try simp)
  refine hK1.out _ _ ?_
  clear hK1 hK2 K1 K2
  (try simp)
  repeat (with_reducible refine .s fun X Y Z W => ?_; simp; (first | refine Z.out _ _ ?_ | refine W.out _ ?_ | refine ⟨by kernel_rfl, W.out _ ?_⟩); clear Z W X Y; simp); (try refine .n ?_)
  refine .s fun K1 K2 hK1 hK2 => ?_
  simp
  refine orr_l ⟨by kernel_rfl, .inl ⟨_, c1, ?_⟩⟩
  (try simp)
  refine hK1.out _ _ ?_
  clear hK1 hK2 K1 K2
  (try simp)
  repeat (with_reducible refine .s fun X Y Z W => ?_; simp; (first | refine Z.out _ _ ?_ | refine W.out _ ?_ | refine ⟨by kernel_rfl, W.out _ ?_⟩); clear Z W X Y; simp); (try refine .n ?_)
  refine Jt.f hK ?_
  clear hK K
  with_reducible repeat first | refine Jt.i ?_ | refine .g (by decide) ?_
  exact nx_reto (t := 0) (n := 19) (y := 19) (zs := [12, 15, 17]) (rr := [(.zn 19, .zn .live), (.zn 12, .zn .live), (.zn 15, .zn .live), (.zn 17, .zn .live)]) (.inr rfl) rfl (by kernel_rfl) (by kernel_rfl) (by kernel_rfl) (by simp) rfl
set_option maxHeartbeats 8000000 in
theorem own13_ct (l : List Tr) (hN : l.length ≤ maxI) : Ct Try.prog 43 [.c (TsD l)] (some 24) (.one (.c (TsD (own26 l)))) := by
  refine ct_intro Try.func43 rfl Try.ntmps43 (by simp) (fun W0 Z => ?_)
  with_reducible repeat first | refine Jt.i ?_ | refine .g (by decide) ?_
  refine AW.at_ (fun L hL => ?_)
  simp at hL
  subst hL
  refine AW.rc 1 fun K hK => ?_
  repeat (with_reducible refine .s fun X Y Z W => ?_; simp; (first | refine Z.out _ _ ?_ | refine W.out _ ?_ | refine ⟨by kernel_rfl, W.out _ ?_⟩); clear Z W X Y; simp); (try refine .n ?_)
  refine Jt.f hK ?_
  clear hK K
  with_reducible repeat first | refine Jt.i ?_ | refine .g (by decide) ?_
  refine AW.rc 10 fun K hK => ?_
  repeat (with_reducible refine .s fun X Y Z W => ?_; simp; (first | refine Z.out _ _ ?_ | refine W.out _ ?_ | refine ⟨by kernel_rfl, W.out _ ?_⟩); clear Z W X Y; simp); (try refine .n ?_)
  refine Jt.f hK ?_
  clear hK K
  with_reducible repeat first | refine Jt.i ?_ | refine .g (by decide) ?_
  refine AW.rc 20 fun K hK => ?_
  repeat (with_reducible refine .s fun X Y Z W => ?_; simp; (first | refine Z.out _ _ ?_ | refine W.out _ ?_ | refine ⟨by kernel_rfl, W.out _ ?_⟩); clear Z W X Y; simp); (try refine .n ?_)
  refine Jt.f hK ?_
  clear hK K
  with_reducible repeat first | refine Jt.i ?_ | refine .g (by decide) ?_
  refine AW.loop (X := { k : Nat // k ≤ l.length }) (fun x => o26S l x.1) (fun x => l.length - x.1) ⟨0, by simp⟩ (view_of (vw [] [(900, []), (901, [])] [] [(900, none)]) (by simp [o26S, o26, mapR_0, Nat.zero_min])) (fun x => ?_)
  obtain ⟨k, hk⟩ := x
  refine AW.at_ (fun L hL => ?_)
  simp [o26S] at hL
  subst hL
  with_reducible repeat first | refine Jt.i ?_ | refine .g (by decide) ?_
  by_cases hgo : k < l.length
  · have w5 : IntKind.i64.wrap ((k : Int) + 1) = ((k + 1 : Nat) : Int) := by rw [i64_ok _ (by omega) (by unfold maxI at hN; omega)]; omega
    obtain ⟨z, hz⟩ : ∃ z, l[k] = z := ⟨_, rfl⟩
    have FL := o26_len l k
    refine AW.rc 200 fun K hK => ?_
    repeat (with_reducible refine .s fun X Y Z W => ?_; simp [hgo]; (first | refine Z.out _ _ ?_ | refine W.out _ ?_ | refine ⟨by kernel_rfl, W.out _ ?_⟩); clear Z W X Y; simp [hgo]); (try refine .n ?_)
    refine Jt.f hK ?_
    clear hK K
    with_reducible repeat first | refine Jt.i ?_ | refine .g (by decide) ?_
    refine AW.ct rfl ?_
    with_reducible repeat first | refine Jt.i ?_ | refine .g (by decide) ?_
    refine AW.rc 210 fun K hK => ?_
    repeat (with_reducible refine .s fun X Y Z W => ?_; simp [hgo]; (first | refine Z.out _ _ ?_ | refine W.out _ ?_ | refine ⟨by kernel_rfl, W.out _ ?_⟩); clear Z W X Y; simp [hgo]); (try refine .n ?_)
    refine .s fun K1 K2 hK1 hK2 => ?_
    simp [hgo]
    first | refine ⟨k, [RD z.1, RD z.2], rfl, by simp [hgo, hz], ?_⟩ | refine orr_l ⟨k, [RD z.1, RD z.2], rfl, by simp [hgo, hz], ?_⟩
    refine hK1.out _ _ ?_
    clear hK1 hK2 K1 K2
    (try simp [hgo])
    repeat (with_reducible refine .s fun X Y Z W => ?_; simp [hgo]; (first | refine Z.out _ _ ?_ | refine W.out _ ?_ | refine ⟨by kernel_rfl, W.out _ ?_⟩); clear Z W X Y; simp [hgo]); (try refine .n ?_)
    refine Jt.f hK ?_
    clear hK K
    with_reducible repeat first | refine Jt.i ?_ | refine .g (by decide) ?_
    by_cases h26 : k < 26
    · have h26i : (k : Int) < 26 := by omega
      have FT := o26_s l hgo h26
      rw [hz] at FT
      have hm1 : (if (16 : Int) < (z.1.length : Int) then (16 : Int) else (z.1.length : Int)) = ((min z.1.length 16 : Nat) : Int) := by split <;> omega
      have hm2 : (if (16 : Int) < (z.2.length : Int) then (16 : Int) else (z.2.length : Int)) = ((min z.2.length 16 : Nat) : Int) := by split <;> omega
      have ht : ∀ l : List Pr, List.take (min l.length 16) (l.map PD) = (l.take 16).map PD := fun l => by rw [← List.map_take]; congr 1; rw [List.take_eq_take_iff]; omega
      have ca := clone_ct (z.1.take 16) (by rw [List.length_take]; omega)
      have cd := clone_ct (z.2.take 16) (by rw [List.length_take]; omega)
      have t1 := ht z.1
      have t2 := ht z.2
      clear ht
      unfold o16 at FT
      simp only at FT
      generalize z.1.take 16 = A at *
      generalize z.2.take 16 = B at *
      generalize o26 l k = R at *
      refine AW.rc 220 fun K hK => ?_
      repeat (with_reducible refine .s fun X Y Z W => ?_; simp [h26i]; (first | refine Z.out _ _ ?_ | refine W.out _ ?_ | refine ⟨by kernel_rfl, W.out _ ?_⟩); clear Z W X Y; simp [h26i]); (try refine .n ?_)
      refine Jt.f hK ?_
      clear hK K
      with_reducible repeat first | refine Jt.i ?_ | refine .g (by decide) ?_
      refine AW.ct rfl ?_
      with_reducible repeat first | refine Jt.i ?_ | refine .g (by decide) ?_
      refine AW.rc 230 fun K hK => ?_
      repeat (with_reducible refine .s fun X Y Z W => ?_; simp [hm1, hm2]; (first | refine Z.out _ _ ?_ | refine W.out _ ?_ | refine ⟨by kernel_rfl, W.out _ ?_⟩); clear Z W X Y; simp [hm1, hm2]); (try refine .n ?_)
      refine .s fun K1 K2 hK1 hK2 => ?_
      simp [hm1, hm2]
      refine slice_take (rows := z.1.map PD) (k := min z.1.length 16) (by simp; omega) ?_
      refine hK1.out _ _ ?_
      clear hK1 hK2 K1 K2
      (try simp [hm1, hm2])
      repeat (with_reducible refine .s fun X Y Z W => ?_; simp [hm1, hm2]; (first | refine Z.out _ _ ?_ | refine W.out _ ?_ | refine ⟨by kernel_rfl, W.out _ ?_⟩); clear Z W X Y; simp [hm1, hm2]); (try refine .n ?_)
      rw [t1]
      refine .s fun K1 K2 hK1 hK2 => ?_
      simp [hm1, hm2]
      refine orr_l ⟨by kernel_rfl, .inr (.inl ⟨_, _, _, ca, ?_⟩)⟩
      (try simp [hm1, hm2])
      refine hK1.out _ _ ?_
      clear hK1 hK2 K1 K2
      (try simp [hm1, hm2])
      repeat (with_reducible refine .s fun X Y Z W => ?_; simp [hm1, hm2]; (first | refine Z.out _ _ ?_ | refine W.out _ ?_ | refine ⟨by kernel_rfl, W.out _ ?_⟩); clear Z W X Y; simp [hm1, hm2]); (try refine .n ?_)
      refine .s fun K1 K2 hK1 hK2 => ?_
      simp [hm1, hm2]
      refine slice_take (rows := z.2.map PD) (k := min z.2.length 16) (by simp; omega) ?_
      refine hK1.out _ _ ?_
      clear hK1 hK2 K1 K2
      (try simp [hm1, hm2])
      repeat (with_reducible refine .s fun X Y Z W => ?_; simp [hm1, hm2]; (first | refine Z.out _ _ ?_ | refine W.out _ ?_ | refine ⟨by kernel_rfl, W.out _ ?_⟩); clear Z W X Y; simp [hm1, hm2]); (try refine .n ?_)
      rw [t2]
      refine .s fun K1 K2 hK1 hK2 => ?_
      simp
      refine orr_l ⟨by kernel_rfl, .inr (.inl ⟨_, _, _, cd, ?_⟩)⟩
      (try simp)
      refine hK1.out _ _ ?_
      clear hK1 hK2 K1 K2
      (try simp)
      repeat (with_reducible refine .s fun X Y Z W => ?_; simp; (first | refine Z.out _ _ ?_ | refine W.out _ ?_ | refine ⟨by kernel_rfl, W.out _ ?_⟩); clear Z W X Y; simp); (try refine .n ?_)
      refine .s fun K1 K2 hK1 hK2 => ?_
      simp
      refine ya_mk (by (simp [maxI]; omega)) ?_
      (try simp)
      refine hK1.out _ _ ?_
      clear hK1 hK2 K1 K2
      (try simp)
      repeat (with_reducible refine .s fun X Y Z W => ?_; simp; (first | refine Z.out _ _ ?_ | refine W.out _ ?_ | refine ⟨by kernel_rfl, W.out _ ?_⟩); clear Z W X Y; simp); (try refine .n ?_)
      refine ⟨chk_drawn (by kernel_rfl) (by kernel_rfl), hK.out _ ?_⟩
      clear hK K
      with_reducible repeat first | refine Jt.i ?_ | refine .g (by decide) ?_
      refine AW.rc 260 fun K hK => ?_
      repeat (with_reducible refine .s fun X Y Z W => ?_; simp [w5]; (first | refine Z.out _ _ ?_ | refine W.out _ ?_ | refine ⟨by kernel_rfl, W.out _ ?_⟩); clear Z W X Y; simp [w5]); (try refine .n ?_)
      refine Jt.f hK ?_
      clear hK K
      with_reducible repeat first | refine Jt.i ?_ | refine .g (by decide) ?_
      exact NX.round ⟨k + 1, hgo⟩ (by show l.length - (k + 1) < l.length - k; omega) (view_of (vw [] [(900, [249]), (901, [901, 248, 238, 100238, 246, 100246])] [] [(900, some 249)]) (by simp [o26S, FT]))
    · have h26i : ¬ (k : Int) < 26 := by omega
      have FT := o26_n l h26
      refine AW.rc 220 fun K hK => ?_
      repeat (with_reducible refine .s fun X Y Z W => ?_; simp [h26i]; (first | refine Z.out _ _ ?_ | refine W.out _ ?_ | refine ⟨by kernel_rfl, W.out _ ?_⟩); clear Z W X Y; simp [h26i]); (try refine .n ?_)
      refine Jt.f hK ?_
      clear hK K
      with_reducible repeat first | refine Jt.i ?_ | refine .g (by decide) ?_
      refine AW.cf rfl ?_
      with_reducible repeat first | refine Jt.i ?_ | refine .g (by decide) ?_
      refine AW.rc 260 fun K hK => ?_
      repeat (with_reducible refine .s fun X Y Z W => ?_; simp [w5]; (first | refine Z.out _ _ ?_ | refine W.out _ ?_ | refine ⟨by kernel_rfl, W.out _ ?_⟩); clear Z W X Y; simp [w5]); (try refine .n ?_)
      refine Jt.f hK ?_
      clear hK K
      with_reducible repeat first | refine Jt.i ?_ | refine .g (by decide) ?_
      exact NX.round ⟨k + 1, hgo⟩ (by show l.length - (k + 1) < l.length - k; omega) (view_of (vw [] [] [] []) (by simp [o26S, FT]))
  · obtain rfl : k = l.length := by omega
    rw [o26_all]
    generalize own26 l = m
    refine AW.rc 300 fun K hK => ?_
    repeat (with_reducible refine .s fun X Y Z W => ?_; simp; (first | refine Z.out _ _ ?_ | refine W.out _ ?_ | refine ⟨by kernel_rfl, W.out _ ?_⟩); clear Z W X Y; simp); (try refine .n ?_)
    refine Jt.f hK ?_
    clear hK K
    with_reducible repeat first | refine Jt.i ?_ | refine .g (by decide) ?_
    refine AW.cf rfl ?_
    with_reducible repeat first | refine Jt.i ?_ | refine .g (by decide) ?_
    refine AW.rc 310 fun K hK => ?_
    repeat (with_reducible refine .s fun X Y Z W => ?_; simp; (first | refine Z.out _ _ ?_ | refine W.out _ ?_ | refine ⟨by kernel_rfl, W.out _ ?_⟩); clear Z W X Y; simp); (try refine .n ?_)
    refine Jt.f hK ?_
    clear hK K
    with_reducible repeat first | refine Jt.i ?_ | refine .g (by decide) ?_
    exact nx_reto (t := 2) (n := 900) (y := 900) (zs := [901]) (rr := [(.zn 900, .zn .live), (.zn 901, .zn .live)]) (.inr rfl) rfl (by kernel_rfl) (by kernel_rfl) (by kernel_rfl) (by simp) rfl
def sayP (f : Pr → Option Int) (x : Int) (p : Pr) : Pr → Option Int := if (f p).isSome then f else updF f p x
def sayL (f : Pr → Option Int) (x : Int) (l : List Pr) : Pr → Option Int := l.foldl (fun f p => sayP f x p) f
def sayT (f : Pr → Option Int) (t : Tr) : Pr → Option Int := sayL (sayL f 0 t.2) 1 t.1
def saidF (l : List Tr) : Pr → Option Int := l.reverse.foldl sayT (fun _ => none)
def pairsT (t : Tr) : Nat := t.2.length + t.1.length
def pairsN (l : List Tr) : Nat := (l.map pairsT).sum
def wfR (l : List Pr) : Prop := ∀ p ∈ l, wfP p
def wfT (t : Tr) : Prop := wfR t.1 ∧ wfR t.2
theorem pairsN_le (l : List Tr) (k : Nat) : pairsN (l.take k) ≤ pairsN l := by
  have : pairsN l = pairsN (l.take k) + pairsN (l.drop k) := by
    unfold pairsN
    rw [← List.sum_append, ← List.map_append, List.take_append_drop]
  omega
def stepN (n : Nat) (t : Tr) : Nat → Nat
  | 0 => n
  | 1 => n + t.2.length
  | _ => n + pairsT t
end Go.Proofs.Ytlkdkhmdmgchbaa
namespace Go.Proofs.Ytlkdkhmdmgchbaa
set_option linter.unusedSimpArgs false
set_option linter.unusedVariables false
open Go.ChangeShapes Go.WideShapes Go.ChangeAt Go.RowKit Go.Joins Go.Deep
set_option maxRecDepth 100000
section
variable {H : Type} {enc : TypeId × Value → H} {W : World} {base n : Nat} {held : Bool} {y : DataW H × List MemPlace}
theorem pair_data3 {sp : Nat → Bool} {cs : List Value} (h : DataW.trod enc Try.prog W base sp held n 52 cs = some y) : ∃ a b : Int, cs = [.int .u64 a, .int .u64 b] ∧ wfP (a, b) := by
  obtain ⟨y0, y1, m, rfl, hl, h0, h1⟩ := trod_struct2 Try.underlying52 h
  rw [cellsPair] at hl
  obtain ⟨c0, c1, rfl⟩ := list2 hl
  obtain ⟨a, e0, rfl, wa⟩ := DataW.trod_int Try.underlying50 h0
  obtain ⟨b, e1, rfl, wb⟩ := DataW.trod_int Try.underlying50 h1
  simp [cellsU64] at e0 e1
  subst e0; subst e1
  exact ⟨a, b, rfl, wfP_of wa wb⟩
set_option maxRecDepth 100000 in
theorem p_row3 {v : Value} (h : DataW.trod enc Try.prog W base (fun _ => true) held n 22 [v] = some y) : ∃ l, PRow W v l ∧ ∀ p ∈ l, wfP p := by
  rcases open_slice Try.underlying22 h with ⟨e, -⟩ | ⟨a, len, cap, m, k, D, Pl, e, -, hlc, hm, hmm, -, hx⟩
  · simp at e
    subst e
    exact ⟨[], PRow.nil _, fun p hp => by simp at hp⟩
  · simp at e
    subst e
    simp at hmm
    subst hmm
    rw [cellsPair] at hx
    obtain ⟨f, hf⟩ := choose_lt (n := m) (α := Int × Int) (p := fun i x => W.cell? (a.add (i * 2)) = some (.int .u64 x.1) ∧ W.cell? ((a.add (i * 2)).add 1) = some (.int .u64 x.2) ∧ wfP x) (fun i hi => by
      obtain ⟨cs', h1, h2⟩ := hx i hi
      obtain ⟨x, b, rfl, hb0⟩ := pair_data3 h2
      obtain ⟨-, -, hc⟩ := World.cells?_some h1
      exact ⟨(x, b), by simpa [Addr.add] using hc 0 (by omega), by simpa using hc 1 (by omega), hb0⟩)
    refine ⟨(List.range len).map f, ⟨some a, m, by simp, by simpa using hlc, fun h => (by cases h), by simp [maxLen] at hm ⊢; omega, fun hl => ?_⟩, fun p hp => by
      obtain ⟨i, hi, rfl⟩ := List.mem_map.1 hp
      rw [List.mem_range] at hi
      exact (hf i (by omega)).2.2⟩
    simp at hl
    have h0 := (hf 0 (by omega)).1
    have hs : a.spot = none := by simpa [Addr.add] using World.cell?_spot h0
    obtain ⟨g, o, s⟩ := a
    simp at hs
    subst hs
    refine ⟨g, o, rfl, fun j x hj => ?_⟩
    rw [List.getElem?_map, Option.map_eq_some_iff] at hj
    obtain ⟨i, hi, hfi⟩ := hj
    obtain ⟨hi', rfl⟩ := List.getElem?_eq_some_iff.1 hi
    simp at hi' hfi
    obtain ⟨q0, q1, -⟩ := hf j (by omega)
    rw [hfi] at q0 q1
    have e0 : (⟨g, o, none⟩ : Addr).add (j * 2) = ⟨g, o + j * 2, none⟩ := by unfold Addr.add; split <;> simp_all
    rw [e0] at q0 q1
    exact ⟨q0, by simpa [Addr.add] using q1⟩
theorem tier_data3 {cs : List Value} (h : DataW.trod enc Try.prog W base (fun _ => true) held n 24 cs = some y) : ∃ a b t, cs = [a, b] ∧ TPair W a b t ∧ wfT t := by
  obtain ⟨y0, y1, m, rfl, hl, h0, h1⟩ := trod_struct2 Try.underlying24 h
  rw [cellsTier] at hl
  obtain ⟨c0, c1, rfl⟩ := list2 hl
  simp only [cellsPairs] at h0 h1
  obtain ⟨l0, r0, w0⟩ := p_row3 (v := c0) h0
  obtain ⟨l1, r1, w1⟩ := p_row3 (v := c1) h1
  exact ⟨c0, c1, (l0, l1), rfl, ⟨r0, r1⟩, w0, w1⟩
set_option maxRecDepth 100000 in
theorem t_row3 {v : Value} (h : DataW.trod enc Try.prog W base (fun _ => true) held n 40 [v] = some y) : ∃ l : List Tr, RepD (fun _ => True) W v (TsD l) ∧ ∀ t ∈ l, wfT t := by
  rcases open_slice Try.underlying40 h with ⟨e, -⟩ | ⟨a, len, cap, m, k, D, Pl, e, -, hlc, hm, hmm, -, hx⟩
  · simp at e
    subst e
    exact ⟨[], .nil 2, fun t ht => by simp at ht⟩
  · simp at e
    subst e
    simp at hmm
    subst hmm
    rw [cellsTier] at hx
    obtain ⟨f, hf⟩ := choose_lt (n := m) (α := Tr × Value × Value) (p := fun i x => W.cell? (a.add (i * 2)) = some x.2.1 ∧ W.cell? ((a.add (i * 2)).add 1) = some x.2.2 ∧ PRow W x.2.1 x.1.1 ∧ PRow W x.2.2 x.1.2 ∧ wfT x.1) (fun i hi => by
      obtain ⟨cs', h1, h2⟩ := hx i hi
      obtain ⟨va, vd, t, rfl, ht, hw⟩ := tier_data3 h2
      obtain ⟨-, -, hc⟩ := World.cells?_some h1
      exact ⟨(t, va, vd), by simpa [Addr.add] using hc 0 (by omega), by simpa using hc 1 (by omega), ht.1, ht.2, hw⟩)
    refine ⟨(List.range len).map fun i => (f i).1, ?_, fun t ht => ?_⟩
    · by_cases hl : len = 0
      · subst hl
        simp only [List.range_zero, List.map_nil]
        exact .emp a m 2 (by simp [maxLen] at hm; unfold maxI; omega)
      · have h0 := (hf 0 (by omega)).1
        have hs : a.spot = none := by simpa [Addr.add] using World.cell?_spot h0
        obtain ⟨g, o, s⟩ := a
        simp at hs
        subst hs
        have hcell : ∀ j, j < len → W.cell? ⟨g, o + j * 2, none⟩ = some (f j).2.1 ∧ W.cell? ⟨g, o + j * 2 + 1, none⟩ = some (f j).2.2 := fun j hj => by
          obtain ⟨q0, q1, -⟩ := hf j (by omega)
          have e0 : (⟨g, o, none⟩ : Addr).add (j * 2) = ⟨g, o + j * 2, none⟩ := by unfold Addr.add; split <;> simp_all
          rw [e0] at q0 q1
          exact ⟨q0, by simpa [Addr.add] using q1⟩
        refine .row g o len m 2 _ (fun i j => if j = 0 then (f i).2.1 else (f i).2.2) (by simp) hlc (by simp [maxLen] at hm; unfold maxI; omega) (fun i r hi => ?_) (fun i r j x hi hj => ?_) (fun i r j x hi hj => ?_)
        all_goals
          rw [List.getElem?_map, Option.map_eq_some_iff] at hi
          obtain ⟨b, hi, rfl⟩ := hi
          rw [List.getElem?_map, Option.map_eq_some_iff] at hi
          obtain ⟨i', hi, rfl⟩ := hi
          obtain ⟨hlt, rfl⟩ := List.getElem?_eq_some_iff.1 hi
          simp only [List.length_range] at hlt
        · rfl
        · rcases j with _ | _ | j
          · exact ⟨trivial, by simpa using (hcell i hlt).1⟩
          · exact ⟨trivial, by simpa using (hcell i hlt).2⟩
          · simp at hj
        · obtain ⟨-, -, p1, p2, -⟩ := hf i (by omega)
          rcases j with _ | _ | j
          · cases hj
            simp only [List.getElem_range]
            exact of_prow p1 fun _ _ => trivial
          · cases hj
            simp only [List.getElem_range]
            exact of_prow p2 fun _ _ => trivial
          · simp at hj
    · obtain ⟨i, hi, rfl⟩ := List.mem_map.1 ht
      rw [List.mem_range] at hi
      exact (hf i (by omega)).2.2.2.2
end
section
variable {H : Type} {enc : TypeId × Value → H} {W : World} {base n : Nat} {held : Bool} {y : DataW H × List MemPlace}
end
end Go.Proofs.Ytlkdkhmdmgchbaa
namespace Go.Proofs.Ytlkdkhmdmgchbaa
set_option linter.unusedSimpArgs false
set_option linter.unusedVariables false
open Go.RowKit Go.Lib
set_option maxRecDepth 100000

end Go.Proofs.Ytlkdkhmdmgchbaa
namespace Go.Proofs.Ytlkdkhmdmgchbaa
set_option linter.unusedSimpArgs false
set_option linter.unusedVariables false
open Go.Lib
set_option maxRecDepth 100000

theorem lt_tr {x y z : Pr} (h : lt x y) (k : lt y z) : lt x z := by unfold lt at *; omega
end Go.Proofs.Ytlkdkhmdmgchbaa
namespace Go.Proofs.Ytlkdkhmdmgchbaa
set_option linter.unusedSimpArgs false
set_option linter.unusedVariables false
open Go.RowKit
set_option maxRecDepth 100000

/-! ### contracts -/
theorem search_ct (l : List Pr) (p : Pr) (hr : Rises l) (hn : l.length ≤ 100000000) : Ct Try.prog 152 [.c (RD l), PV p, .c (.v (.func (.func 56) #[] #[]))] none (.tup [dI (placeL l p : Nat), dB (decide (p ∈ l))]) := ct3 fun Z w v u t h1 h2 h3 => by
  obtain rfl := pair_of h2
  obtain rfl : t = _ := RepD.raw h3
  refine (search_any v l p.1 p.2 w (prow_of h1) hr hn).mono ?_
  rintro e w' ⟨rfl, B⟩
  exact ctr_tup2 B (.v _) (.v _)

theorem eq_pair : EqlAt Try.prog 52 (fun x : Pr => .agg (encP x).toArray) (fun x y => decide (x = y)) := by
  refine ⟨fun x y w => ?_, GuardAt.agg _ (by kernel_rfl)⟩
  have hS : Try.prog.underlying 52 = some (.struct (Try.prog.fieldsOf 52)) := by kernel_rfl
  have hp : Try.prog.stoodInHeld 52 = false := by kernel_rfl
  have u3 := Try.underlying50
  have a3 := Try.isAgg50
  have z3 := Try.sizeOf50
  simp only [encP]
  rw [run_eql_struct, show (10000 : Nat) = 9999 + 1 from rfl, run_equalIn_agg w 9999 52 _ _ hS hp]
  simp only [Program.fieldsOf, Try.underlying52]
  go_simp
  have : decide (x = y) = (decide (x.1 = y.1) && decide (x.2 = y.2)) := by
    rw [← Bool.decide_and, decide_eq_decide]
    exact Prod.ext_iff
  rw [this]
  by_cases h1 : x.fst = y.fst <;> by_cases h2 : x.snd = y.snd <;> simp [h1, h2]
theorem sba_mk {P : Program} {op : BinOp} {t : TypeId} {x y : Operand} {u v z : Value} {k : Value → Prop} (h : ∀ w, (do eqGuard op t x y u v; binOp op t u v : Sem Value).run P w = .ok z w) (hk : k z) : stBinAny P op t x y u v k := ⟨z, h, hk⟩
theorem sba_eql {x y : Operand} (p q : Pr) {b : Bool} (hb : decide (p = q) = b) {k : Value → Prop} (hk : k (.bool b)) : stBinAny Try.prog .eql 52 x y (.agg #[.int .u64 p.1, .int .u64 p.2]) (.agg #[.int .u64 q.1, .int .u64 q.2]) k := by
  refine ⟨_, fun w => ?_, hk⟩
  have h1 := eq_pair.2 .eql x y p q w
  have h2 := eq_pair.1 p q w
  simp only [encP] at h1 h2
  rw [← hb]
  simp [h1, h2]
theorem place_split {p : Pr} : ∀ {l : List Pr}, Rises l → (∀ x ∈ l.take (placeL l p), lt x p) ∧ ∀ x ∈ l.drop (placeL l p), ¬ lt x p
  | [], _ => ⟨fun x h => by simp at h, fun x h => by simp at h⟩
  | y :: l, hr => by
    obtain ⟨h1, h2⟩ := rises_cons.1 hr
    obtain ⟨i1, i2⟩ := place_split (p := p) h2
    by_cases hy : lt y p
    · have e : placeL (y :: l) p = placeL l p + 1 := by simp [placeL, hy]
      rw [e]
      refine ⟨fun x hx => ?_, fun x hx => ?_⟩
      · rw [List.take_succ_cons, List.mem_cons] at hx
        rcases hx with rfl | hx
        · exact hy
        · exact i1 x hx
      · exact i2 x (by simpa using hx)
    · have all : ∀ x ∈ l, ¬ lt x p := fun x hx hl => hy (lt_tr (h1 x hx) hl)
      have e : placeL (y :: l) p = 0 := by
        unfold placeL
        rw [List.filter_cons, if_neg (by simpa using hy), List.filter_eq_nil_iff.2 (fun x hx => by simpa using all x hx)]
        rfl
      rw [e]
      refine ⟨fun x hx => by simp at hx, fun x hx => ?_⟩
      simp only [List.drop_zero, List.mem_cons] at hx
      rcases hx with rfl | hx
      · exact hy
      · exact all x hx
theorem placeL_le (l : List Pr) (p : Pr) : placeL l p ≤ l.length := List.length_filter_le _ _
end Go.Proofs.Ytlkdkhmdmgchbaa
namespace Go.Proofs.Ytlkdkhmdmgchbaa
set_option linter.unusedSimpArgs false
set_option linter.unusedVariables false
set_option maxRecDepth 100000
theorem sayP_is (f : Pr → Option Int) (x : Int) (p q : Pr) : sayP f x p q = if f q = none ∧ q = p then some x else f q := by
  unfold sayP updF
  by_cases hp : (f p).isSome
  · rw [if_pos hp, if_neg]
    rintro ⟨h1, rfl⟩
    rw [h1] at hp; cases hp
  · rw [if_neg hp]
    by_cases e : q = p
    · subst e
      have : f q = none := by simpa using hp
      simp [this]
    · simp [e]
theorem sayL_is (x : Int) : ∀ (l : List Pr) (f : Pr → Option Int) (q : Pr), sayL f x l q = if f q = none ∧ q ∈ l then some x else f q
  | [], f, q => by simp [sayL]
  | p :: l, f, q => by
    show sayL (sayP f x p) x l q = _
    rw [sayL_is x l, sayP_is]
    by_cases h1 : f q = none
    · by_cases h2 : q = p
      · subst h2; simp [h1]
      · simp [h1, h2]
    · simp [h1]
theorem sayT_is (f : Pr → Option Int) (t : Tr) (q : Pr) : sayT f t q = if f q = none then (if q ∈ t.2 then some 0 else if q ∈ t.1 then some 1 else none) else f q := by
  unfold sayT
  rw [sayL_is, sayL_is]
  by_cases h1 : f q = none
  · by_cases h2 : q ∈ t.2
    · simp [h1, h2]
    · by_cases h3 : q ∈ t.1 <;> simp [h1, h2, h3]
  · simp [h1]
theorem foldT_is : ∀ (l : List Tr) (f : Pr → Option Int) (q : Pr), l.foldl sayT f q = if f q = none then l.foldl sayT (fun _ => none) q else f q
  | [], f, q => by by_cases h : f q = none <;> simp [h]
  | t :: l, f, q => by
    simp only [List.foldl_cons]
    rw [foldT_is l (sayT f t), foldT_is l (sayT (fun _ => none) t)]
    simp only [sayT_is]
    by_cases h1 : f q = none
    · simp [h1]
    · simp [h1]
theorem saidF_nil (q : Pr) : saidF [] q = none := rfl
theorem saidF_snoc (l : List Tr) (t : Tr) (q : Pr) : saidF (l ++ [t]) q = if q ∈ t.2 then some 0 else if q ∈ t.1 then some 1 else saidF l q := by
  unfold saidF
  rw [List.reverse_append, List.reverse_singleton, List.singleton_append, List.foldl_cons, foldT_is, sayT_is]
  by_cases h2 : q ∈ t.2
  · simp [h2]
  · by_cases h3 : q ∈ t.1 <;> simp [h2, h3]
theorem foldT_mem : ∀ (l : List Tr) (q : Pr) (x : Int), l.foldl sayT (fun _ => none) q = some x → (x = 0 ∨ x = 1) ∧ ∃ t ∈ l, q ∈ t.1 ∨ q ∈ t.2
  | [], q, x, h => by cases h
  | t :: l, q, x, h => by
    rw [List.foldl_cons, foldT_is, sayT_is] at h
    by_cases h2 : q ∈ t.2
    · simp [h2] at h
      exact ⟨.inl h.symm, t, by simp, .inr h2⟩
    · by_cases h3 : q ∈ t.1
      · simp [h2, h3] at h
        exact ⟨.inr h.symm, t, by simp, .inl h3⟩
      · simp [h2, h3] at h
        obtain ⟨a, t', b, c⟩ := foldT_mem l q x h
        exact ⟨a, t', by simp [b], c⟩
theorem saidF_mem (l : List Tr) (q : Pr) (x : Int) (h : saidF l q = some x) : (x = 0 ∨ x = 1) ∧ ∃ t ∈ l, q ∈ t.1 ∨ q ∈ t.2 := by
  obtain ⟨a, t, b, c⟩ := foldT_mem _ q x h
  exact ⟨a, t, by simpa using b, c⟩
def flatL (l : List Tr) : List Pr := l.flatMap fun t => t.1 ++ t.2
def whichL (l : List Tr) (x : Int) : List Pr := ofL ((flatL l).filter fun p => decide (saidF l p = some x))
theorem whichL_rises (l : List Tr) (x : Int) : Rises (whichL l x) := ofL_rises _
theorem whichL_mem (l : List Tr) (x : Int) (p : Pr) : p ∈ whichL l x ↔ saidF l p = some x := by
  unfold whichL
  rw [ofL_mem, List.mem_filter, decide_eq_true_eq]
  refine ⟨fun h => h.2, fun h => ⟨?_, h⟩⟩
  obtain ⟨_, t, ht, hp⟩ := saidF_mem l p x h
  exact List.mem_flatMap.2 ⟨t, ht, by simpa using hp⟩
end Go.Proofs.Ytlkdkhmdmgchbaa
namespace Go.Proofs.Ytlkdkhmdmgchbaa
set_option linter.unusedSimpArgs false
set_option linter.unusedVariables false
open Go.RowKit
set_option maxRecDepth 100000
theorem pairsN_bound {l : List Tr} {c : Nat} (h : ∀ t ∈ l, pairsT t ≤ c) : pairsN l ≤ c * l.length := by
  induction l with
  | nil => simp [pairsN]
  | cons t l ih =>
    have h1 := h t List.mem_cons_self
    have h2 := ih (fun u hu => h u (List.mem_cons_of_mem _ hu))
    unfold pairsN at *
    simp only [List.map_cons, List.sum_cons, List.length_cons]
    rw [Nat.mul_add]
    omega
end Go.Proofs.Ytlkdkhmdmgchbaa
namespace Go.Proofs.Ytlkdkhmdmgchbaa
set_option linter.unusedSimpArgs false
set_option linter.unusedVariables false
open Go.RowKit
attribute [local simp ↓] raw_wp hdd_wp dst0_wp slc_wp gav_bool gav_undef avpo_ptr avpo_seg avpo_wp avpo_optr avtupw_tup avtupw_wp raw_optr hdd_optr arun_nil ob_some kva_av kfree_free khfree_free khown_own klive_live knm_false chk_true ya_true gsel_tt gsel_ff gsel_tf gsel_ft vb_bool vi_int vstr_string avps_ptr avps_seg avp_ptr avagg_agg avtup_tup avb_bool avown_own shs_struct shsa_struct shsa_arr sharr_arr shl_slice shla_slice shla_arr shls_slice shls_str shi_int bc_true bc_false hd1_cons opc_some opc_none opn_some opn_none unc_not unc_neg gd_none gd_some as_move as_assign as_pick as_bin as_un as_conv as_load as_faddr as_field as_extract as_iaddr as_slice as_alloc as_box as_store as_build as_rows as_call as_append as_invoke as_copy as_nilCheck as_makeIface as_assert as_makeSlice as_lookup as_mapUpdate as_makeMap as_range as_next as_entry as_index as_fn as_len as_min as_max stMove stPick stBin stUn stConv stLoad stFaddr stField stExtract stIaddr stSlice stAlloc stBox stStore stBuild stIndex stRows stCall stAppend stFn stLen stMin stMax opd_tmp opd_const opd_func rawL_nil rawL_cons raw_c raw_st raw_a opr_e zr_nil zr_cons lvd_live hod_own obd_some obd_none kvd_av chd_true vid_int lk_cons lk_nil ins_nil ins_cons cells_zero cells_succ spread1_c spread1_own spread1_ptr spread1_fn spread1_seg spreadL_nil spreadL_cons spread_agg spread_c spread_own spread_seg spread_ptr spread_fn ex_zero ex_succ ops_e opb_none opb_int spreadD_agg spreadD_c spreadD_own spreadD_seg fillO_nil fillO_cons argsOf_nil argsOf_cons dvOf_c dvOf_seg dvOf_own dvOf_agg zrL_nil zrL_cons hdd_c hdd_seg hdd_own clz_e clv_raw clv_f callD_e dst0_n dst0_nil dst0_own goneH_e capc_ptr capc_seg capc_c capN_nil capN_cons capD_nil capD_cons deadZ_nil deadZ_cons
attribute [local simp] dok_some dok_none dflt_tmp dflt_vt dflt_cell dflt_zn dflt_nm dflt_hd dflt_sz dflt_df puts_nil puts_cons wr_some wr_none cst_agg cst_int cst_bool cst_string cst_slice cst_tuple cst_nilFunc cst_pointer cst_func bin_add bin_sub bin_mul bin_quo bin_rem bin_eql bin_neq bin_lss bin_leq bin_gtr bin_geq bin_bool bin_aggs binT_bool binT_aggs shbd_bool eqb_eql eqb_neq bin_slice bin_str_eql bin_str_neq bin_str_lss bin_str_add nz_v nz_n nz_s nz_p nz_f nz_st atz_v atz_n atz_s atz_p atz_f atz_st atz_agg atR_one atR_tup crow_nil crow_cons slc_c slc_n slc_own slc_nil raws setR placesT_nil placesT_cons zc chunk zsAll setD ocD_v ocD_n ocD_s ocD_p ocD_f ocD_st nrm_v nrm_n nrm_s nrm_p nrm_f nrm_st isV_one isV_tup isV_c isV_agg isV_v isV_n isV_s isV_p isV_f isV_st argRows Sh.agg zds_nil zds_e zds_v zds_s vcells_agg vcells_int vcells_bool vcells_string vcells_slice vcells_pointer toList_lit map_nilL map_consL nzr_e rowsOc_nil rowsOc_cons rowsOc_RD nzr_RD foks_nil foks_cons fok_tmp fok_vt fok_cell fok_nm fok_zn fok_hd fok_sz fok_df Fv_c Fv_seg Fv_tup Fv_agg Fv_ptr Fv_ptrs Fv_wp Fv_fn Fv_fnd Fv_own Fv_ownd Fv_nown Fv_vown FvL_nil FvL_cons kvp_av hdp_some subz frz Uz Nm Uh vw_nb vw_zo vw_zf vw_hb tb_nil tb_cons fzc_nil fzc_cons fzcaps_nil fzcaps_cons ty2 ty3 ty4 ty5 ty6 ty7 ty8 ty9 ty10 ty11 ty12 ty13 ty14 ty15 ty16 ty17 ty18 ty19 ty20 ty21 ty22 ty23 ty24 ty25 ty26 ty27 ty30 ty40 ty48 ty50 ty51 ty52 ty55 ty57 ty62 ty63 ty85 ty94 ty101 ty121 ty122 ty123 ty124 ty125 ty126 ty128 ty148 ty149 ty151 ty164 ty165 ty179 ty182 ty196 ty203 ty205 ty209 ty211 ty215 ty216 ty217 ty218 ty219 ty220 ty221 ty223 ty224 ty225 ty226 ty227 Value.oneCell'
attribute [local simp] kzRows oWr deadZ VK.av kzReads kzWrites oRead hdD cst_nilI
set_option maxRecDepth 100000
abbrev hdV (x : Hd) : DV := .c (.st (ifaSP 126 (hdD x)))
abbrev vC (V : VO) : List CC := [.row 126 3 (V.hs.map hdD), .d (.v (.int .u64 V.at_.1)), .d (.v (.int .u64 V.at_.2)), .d (.v (.bool V.fin))]
theorem assert_hd (v : Value) (w : World) : (Instr.typeAssert (.iface 126 v) 20 126 false).run Try.prog w = .ok v w := by kernel_rfl
theorem make_hd (v : Value) (w : World) : (Instr.makeInterface 126 v).run Try.prog w = .ok (.iface 126 v) w := by kernel_rfl
set_option maxHeartbeats 8000000 in
theorem hpush_kz (V : VO) (x : Hd) (hn : V.hs.length ≤ 1000) : Kz Try.prog 210 (.ptr 0) [hdV x] (vC V) (vC ⟨V.hs ++ [x], V.at_, V.fin⟩) (.tup []) := by
  rw [show vC ⟨V.hs ++ [x], V.at_, V.fin⟩ = [.row 126 3 (V.hs.map hdD ++ [[.v (.int .i64 x.1), .v (.bool x.2.1), RD x.2.2]]), .d (.v (.int .u64 V.at_.1)), .d (.v (.int .u64 V.at_.2)), .d (.v (.bool V.fin))] from by simp [vC]]
  refine kz_intro Try.func210 rfl Try.ntmps210 (by simp) (fun W0 A B g hN hP => ?_)
  with_reducible repeat first | refine Jt.i ?_ | refine .g (by decide) ?_
  refine AW.at_ (fun L hL => ?_)
  simp at hL
  subst hL
  refine AW.rc 10 fun K hK => ?_
  repeat (with_reducible refine .s fun X Y Z W => ?_; simp; (first | refine Z.out _ _ ?_ | refine W.out _ ?_ | refine ⟨by kernel_rfl, W.out _ ?_⟩); clear Z W X Y; simp); (try refine .n ?_)
  refine .s fun K1 K2 hK1 hK2 => ?_
  simp
  refine hatch_nilp rfl ?_
  refine hK1.out _ _ ?_
  clear hK1 hK2 K1 K2
  (try simp)
  repeat (with_reducible refine .s fun X Y Z W => ?_; simp; (first | refine Z.out _ _ ?_ | refine W.out _ ?_ | refine ⟨by kernel_rfl, W.out _ ?_⟩); clear Z W X Y; simp); (try refine .n ?_)
  refine .s fun K1 K2 hK1 hK2 => ?_
  simp
  refine hatch_z (hatch_out assert_hd rfl rfl ?_)
  refine hK1.out _ _ ?_
  clear hK1 hK2 K1 K2
  (try simp)
  repeat (with_reducible refine .s fun X Y Z W => ?_; simp; (first | refine Z.out _ _ ?_ | refine W.out _ ?_ | refine ⟨by kernel_rfl, W.out _ ?_⟩); clear Z W X Y; simp); (try refine .n ?_)
  refine .s fun K1 K2 hK1 hK2 => ?_
  simp
  refine ya_mk (by (simp [maxI]; omega)) ?_
  (try simp)
  refine hK1.out _ _ ?_
  clear hK1 hK2 K1 K2
  (try simp)
  repeat (with_reducible refine .s fun X Y Z W => ?_; simp; (first | refine Z.out _ _ ?_ | refine W.out _ ?_ | refine ⟨by kernel_rfl, W.out _ ?_⟩); clear Z W X Y; simp); (try refine .n ?_)
  refine .s fun K1 K2 hK1 hK2 => ?_
  simp
  refine hatch_nilp rfl ?_
  refine hK1.out _ _ ?_
  clear hK1 hK2 K1 K2
  (try simp)
  repeat (with_reducible refine .s fun X Y Z W => ?_; simp; (first | refine Z.out _ _ ?_ | refine W.out _ ?_ | refine ⟨by kernel_rfl, W.out _ ?_⟩); clear Z W X Y; simp); (try refine .n ?_)
  refine ⟨chk_drawn (by kernel_rfl) (by kernel_rfl), hK.out _ ?_⟩
  clear hK K
  with_reducible repeat first | refine Jt.i ?_ | refine .g (by decide) ?_
  refine nx_kz (yo := ?_) (zs := ?_) (r := ?_) ty (by first | exact .inl rfl | exact .inr rfl) rfl rfl rfl rfl rfl rfl ⟨rfl, rfl, ?_⟩ ?_
  rotate_left 3
  · rfl
  · rfl
set_option maxHeartbeats 8000000 in
theorem hpop_kz (l : List Hd) (x : Hd) (p : Pr) (fin : Bool) (hn : l.length ≤ 1000) : Kz Try.prog 209 (.ptr 0) [] (vC ⟨l ++ [x], p, fin⟩) (vC ⟨l, p, fin⟩) (.one (hdV x)) := by
  have w1 : IntKind.i64.wrap (l.length : Int) = (l.length : Int) := i64_ok _ (by omega) (by omega)
  have at1 : (List.map hdD l ++ [[.v (.int .i64 x.1), .v (.bool x.2.1), RD x.2.2]])[l.length]? = some [.v (.int .i64 x.1), .v (.bool x.2.1), RD x.2.2] := by
    rw [List.getElem?_append_right (by simp)]
    simp
  rw [show vC ⟨l ++ [x], p, fin⟩ = [.row 126 3 (l.map hdD ++ [[.v (.int .i64 x.1), .v (.bool x.2.1), RD x.2.2]]), .d (.v (.int .u64 p.1)), .d (.v (.int .u64 p.2)), .d (.v (.bool fin))] from by simp [vC]]
  refine kz_intro Try.func209 rfl Try.ntmps209 (by simp) (fun W0 A B g hN hP => ?_)
  with_reducible repeat first | refine Jt.i ?_ | refine .g (by decide) ?_
  refine AW.at_ (fun L hL => ?_)
  simp at hL
  subst hL
  refine AW.rc 10 fun K hK => ?_
  repeat (with_reducible refine .s fun X Y Z W => ?_; simp; (first | refine Z.out _ _ ?_ | refine W.out _ ?_ | refine ⟨by kernel_rfl, W.out _ ?_⟩); clear Z W X Y; simp); (try refine .n ?_)
  refine Jt.f hK ?_
  clear hK K
  with_reducible repeat first | refine Jt.i ?_ | refine .g (by decide) ?_
  refine AW.rc 20 fun K hK => ?_
  repeat (with_reducible refine .s fun X Y Z W => ?_; simp [w1]; (first | refine Z.out _ _ ?_ | refine W.out _ ?_ | refine ⟨by kernel_rfl, W.out _ ?_⟩); clear Z W X Y; simp [w1]); (try refine .n ?_)
  refine .s fun K1 K2 hK1 hK2 => ?_
  simp [w1]
  refine hatch_nilp rfl ?_
  refine hK1.out _ _ ?_
  clear hK1 hK2 K1 K2
  (try simp [w1])
  repeat (with_reducible refine .s fun X Y Z W => ?_; simp [w1]; (first | refine Z.out _ _ ?_ | refine W.out _ ?_ | refine ⟨by kernel_rfl, W.out _ ?_⟩); clear Z W X Y; simp [w1]); (try refine .n ?_)
  refine Jt.f hK ?_
  clear hK K
  with_reducible repeat first | refine Jt.i ?_ | refine .g (by decide) ?_
  refine AW.rc 30 fun K hK => ?_
  repeat (with_reducible refine .s fun X Y Z W => ?_; simp [w1]; (first | refine Z.out _ _ ?_ | refine W.out _ ?_ | refine ⟨by kernel_rfl, W.out _ ?_⟩); clear Z W X Y; simp [w1]); (try refine .n ?_)
  refine .s fun K1 K2 hK1 hK2 => ?_
  simp [w1]
  refine hatch_nilp rfl ?_
  refine hK1.out _ _ ?_
  clear hK1 hK2 K1 K2
  (try simp [w1])
  repeat (with_reducible refine .s fun X Y Z W => ?_; simp [w1]; (first | refine Z.out _ _ ?_ | refine W.out _ ?_ | refine ⟨by kernel_rfl, W.out _ ?_⟩); clear Z W X Y; simp [w1]); (try refine .n ?_)
  refine .s fun K1 K2 hK1 hK2 => ?_
  simp [w1]
  refine orr_r ?_
  simp [w1, ownI]
  refine ⟨l.length, rfl, by simp, ?_⟩
  refine hK1.out _ _ ?_
  clear hK1 hK2 K1 K2
  (try simp [w1])
  repeat (with_reducible refine .s fun X Y Z W => ?_; simp [w1]; (first | refine Z.out _ _ ?_ | refine W.out _ ?_ | refine ⟨by kernel_rfl, W.out _ ?_⟩); clear Z W X Y; simp [w1]); (try refine .n ?_)
  refine .s fun K1 K2 hK1 hK2 => ?_
  simp [w1]
  refine ⟨_, at1, ?_⟩
  simp [w1]
  refine hK1.out _ _ ?_
  clear hK1 hK2 K1 K2
  (try simp [w1])
  repeat (with_reducible refine .s fun X Y Z W => ?_; simp [w1]; (first | refine Z.out _ _ ?_ | refine W.out _ ?_ | refine ⟨by kernel_rfl, W.out _ ?_⟩); clear Z W X Y; simp [w1]); (try refine .n ?_)
  refine Jt.f hK ?_
  clear hK K
  with_reducible repeat first | refine Jt.i ?_ | refine .g (by decide) ?_
  refine AW.rc 50 fun K hK => ?_
  repeat (with_reducible refine .s fun X Y Z W => ?_; simp [w1]; (first | refine Z.out _ _ ?_ | refine W.out _ ?_ | refine ⟨by kernel_rfl, W.out _ ?_⟩); clear Z W X Y; simp [w1]); (try refine .n ?_)
  refine .s fun K1 K2 hK1 hK2 => ?_
  simp [w1]
  refine hatch_nilp rfl ?_
  refine hK1.out _ _ ?_
  clear hK1 hK2 K1 K2
  (try simp [w1])
  repeat (with_reducible refine .s fun X Y Z W => ?_; simp [w1]; (first | refine Z.out _ _ ?_ | refine W.out _ ?_ | refine ⟨by kernel_rfl, W.out _ ?_⟩); clear Z W X Y; simp [w1]); (try refine .n ?_)
  refine .s fun K1 K2 hK1 hK2 => ?_
  simp [w1]
  refine hatch_cutown l.length ty122 rfl ty126 rfl rfl rfl rfl rfl rfl (by simp) rfl rfl rfl rfl ?_
  refine hK1.out _ _ ?_
  clear hK1 hK2 K1 K2
  (try simp [w1])
  repeat (with_reducible refine .s fun X Y Z W => ?_; simp [w1]; (first | refine Z.out _ _ ?_ | refine W.out _ ?_ | refine ⟨by kernel_rfl, W.out _ ?_⟩); clear Z W X Y; simp [w1]); (try refine .n ?_)
  refine .s fun K1 K2 hK1 hK2 => ?_
  simp [w1]
  refine hatch_nilp rfl ?_
  refine hK1.out _ _ ?_
  clear hK1 hK2 K1 K2
  (try simp [w1])
  repeat (with_reducible refine .s fun X Y Z W => ?_; simp [w1]; (first | refine Z.out _ _ ?_ | refine W.out _ ?_ | refine ⟨by kernel_rfl, W.out _ ?_⟩); clear Z W X Y; simp [w1]); (try refine .n ?_)
  refine Jt.f hK ?_
  clear hK K
  with_reducible repeat first | refine Jt.i ?_ | refine .g (by decide) ?_
  refine AW.rc 70 fun K hK => ?_
  repeat (with_reducible refine .s fun X Y Z W => ?_; simp [w1]; (first | refine Z.out _ _ ?_ | refine W.out _ ?_ | refine ⟨by kernel_rfl, W.out _ ?_⟩); clear Z W X Y; simp [w1]); (try refine .n ?_)
  refine .s fun K1 K2 hK1 hK2 => ?_
  simp [w1]
  refine hatch_z (hatch_ifa [0] make_hd rfl rfl rfl rfl ?_)
  refine hK1.out _ _ ?_
  clear hK1 hK2 K1 K2
  (try simp [w1])
  repeat (with_reducible refine .s fun X Y Z W => ?_; simp [w1]; (first | refine Z.out _ _ ?_ | refine W.out _ ?_ | refine ⟨by kernel_rfl, W.out _ ?_⟩); clear Z W X Y; simp [w1]); (try refine .n ?_)
  refine Jt.f hK ?_
  clear hK K
  with_reducible repeat first | refine Jt.i ?_ | refine .g (by decide) ?_
  refine nx_kz (yo := ?_) (zs := ?_) (r := ?_) ty (by first | exact .inl rfl | exact .inr rfl) rfl rfl rfl rfl rfl rfl ⟨rfl, rfl, ?_⟩ ?_
  rotate_left 3
  · rfl
  · rfl
theorem m_len (g : Nat) (w : World) : (method (Try.prog.types.size + Made.depth) 128 (.pointer (some ⟨g, 0, none⟩)) "Len").run Try.prog w = (do let s ← loadVar 122 ⟨g, 0, none⟩; pure (207, s) : Sem (FuncId × Value)).run Try.prog w := by kernel_rfl
theorem m_less (g : Nat) (w : World) : (method (Try.prog.types.size + Made.depth) 128 (.pointer (some ⟨g, 0, none⟩)) "Less").run Try.prog w = (do let s ← loadVar 122 ⟨g, 0, none⟩; pure (208, s) : Sem (FuncId × Value)).run Try.prog w := by kernel_rfl
theorem m_swap (g : Nat) (w : World) : (method (Try.prog.types.size + Made.depth) 128 (.pointer (some ⟨g, 0, none⟩)) "Swap").run Try.prog w = (do let s ← loadVar 122 ⟨g, 0, none⟩; pure (211, s) : Sem (FuncId × Value)).run Try.prog w := by kernel_rfl
theorem m_push (g : Nat) (w : World) : (method (Try.prog.types.size + Made.depth) 128 (.pointer (some ⟨g, 0, none⟩)) "Push").run Try.prog w = .ok (210, .pointer (some ⟨g, 0, none⟩)) w := by kernel_rfl
theorem m_pop (g : Nat) (w : World) : (method (Try.prog.types.size + Made.depth) 128 (.pointer (some ⟨g, 0, none⟩)) "Pop").run Try.prog w = .ok (209, .pointer (some ⟨g, 0, none⟩)) w := by kernel_rfl
abbrev hpR (hs : List Hd) (p : Pr) (fin : Bool) : Row := [(.vt 0 0, .av (.ptr 1 0)), (.nm 1, .nm true), (.sz 1, .sz 4), (.cell 1 0, .av (.own 900)), (.cell 1 1, .av (.c [] (.v (.int .u64 p.1)))), (.cell 1 2, .av (.c [] (.v (.int .u64 p.2)))), (.cell 1 3, .av (.c [] (.v (.bool fin)))), (.hd 900, .hd (.own 126 3 900 [0] (hs.map hdD))), (.zn 900, .zn .live), (.zn 0, .zn .live), (.tmp 0, .av (.wp (.ifc 128) 1))]
def upS (hs : List Hd) (p : Pr) (fin : Bool) (j : Nat) : Row := (.tmp 1, .av (.c [] (.v (.int .i64 j)))) :: hpR hs p fin
theorem upL_zero (hs : List Hd) : upL ltH hs 0 = hs := by rw [upL, dif_pos rfl]
theorem half_of {j : Nat} (h : 0 < j) : ((j : Int) - 1).tdiv 2 = (((j - 1) / 2 : Nat) : Int) := by
  rw [Int.tdiv_eq_ediv_of_nonneg (by omega)]
  omega
theorem upL_step {hs : List Hd} {j i : Nat} {a b : Hd} (h0 : ¬ j = 0) (hi : (j - 1) / 2 = i) (ha : hs[j]? = some a) (hb : hs[i]? = some b) : upL ltH hs j = if ltH a b then upL ltH (swapL hs i j) i else hs := by
  rw [upL, dif_neg h0, hi, ha, hb]
theorem swapL_ne {l : List Hd} {i j : Nat} (h : ∀ x ∈ l, x.2.2 ≠ []) : ∀ x ∈ swapL l i j, x.2.2 ≠ [] := fun x hx => h x ((swapL_perm l i j).mem_iff.1 hx)
set_option maxHeartbeats 16000000 in
theorem up_kz (V : VO) (j : Nat) (hj : j < V.hs.length) (hn : V.hs.length ≤ 1000) (hne : ∀ x ∈ V.hs, x.2.2 ≠ []) : Kz Try.prog 150 (.ifc 128) [dI j] (vC V) (vC ⟨upL ltH V.hs j, V.at_, V.fin⟩) (.tup []) := by
  obtain ⟨hs0, p, fin⟩ := V
  simp only at hj hn hne ⊢
  obtain ⟨R, hR⟩ : ∃ R, R = upL ltH hs0 j := ⟨_, rfl⟩
  rw [← hR]
  refine kz_intro Try.func150 rfl Try.ntmps150 (by simp) (fun W0 A B g hN hP => ?_)
  with_reducible repeat first | refine Jt.i ?_ | refine .g (by decide) ?_
  refine AW.at_ (fun L hL => ?_)
  simp at hL
  subst hL
  refine AW.loop (X := { s : List Hd × Nat // s.2 < s.1.length ∧ s.1.length ≤ 1000 ∧ (∀ x ∈ s.1, x.2.2 ≠ []) ∧ upL ltH s.1 s.2 = R }) (fun s => upS s.1.1 p fin s.1.2) (fun s => s.1.2) ⟨(hs0, j), hj, hn, hne, hR.symm⟩ (view_of (vw [] [(900, [200001])] [] [(900, some 200001)]) (by simp [upS])) (fun x => ?_)
  obtain ⟨⟨hs, j⟩, hj, hn, hne, hR⟩ := x
  simp only at hj hn hne hR
  refine AW.at_ (fun L hL => ?_)
  simp [upS] at hL
  subst hL
  with_reducible repeat first | refine Jt.i ?_ | refine .g (by decide) ?_
  by_cases h0 : j = 0
  · subst h0
    rw [upL_zero] at hR
    subst hR
    have w1 : IntKind.i64.wrap (-1) = -1 := by decide
    have w2 : (-1 : Int).tdiv 2 = 0 := by decide
    have w3 : IntKind.i64.wrap 0 = 0 := by decide
    refine AW.rc 20 fun K hK => ?_
    repeat (with_reducible refine .s fun X Y Z W => ?_; simp [w1, w2, w3]; (first | refine Z.out _ _ ?_ | refine W.out _ ?_ | refine ⟨by kernel_rfl, W.out _ ?_⟩); clear Z W X Y; simp [w1, w2, w3]); (try refine .n ?_)
    refine Jt.f hK ?_
    clear hK K
    with_reducible repeat first | refine Jt.i ?_ | refine .g (by decide) ?_
    refine AW.rc 40 fun K hK => ?_
    repeat (with_reducible refine .s fun X Y Z W => ?_; simp [w1, w2, w3]; (first | refine Z.out _ _ ?_ | refine W.out _ ?_ | refine ⟨by kernel_rfl, W.out _ ?_⟩); clear Z W X Y; simp [w1, w2, w3]); (try refine .n ?_)
    refine Jt.f hK ?_
    clear hK K
    with_reducible repeat first | refine Jt.i ?_ | refine .g (by decide) ?_
    refine AW.ct rfl ?_
    with_reducible repeat first | refine Jt.i ?_ | refine .g (by decide) ?_
    refine nx_kz (yo := ?_) (zs := ?_) (r := ?_) ty (by first | exact .inl rfl | exact .inr rfl) rfl rfl rfl rfl rfl rfl ⟨rfl, rfl, ?_⟩ ?_
    rotate_left 3
    · rfl
    · rfl
  · obtain ⟨i, hi⟩ : ∃ i, (j - 1) / 2 = i := ⟨_, rfl⟩
    have w1 : IntKind.i64.wrap ((j : Int) - 1) = (j : Int) - 1 := i64_ok _ (by omega) (by omega)
    have w2 : ((j : Int) - 1).tdiv 2 = (i : Int) := by rw [half_of (by omega), hi]
    have w3 : IntKind.i64.wrap (i : Int) = (i : Int) := i64_ok _ (by omega) (by omega)
    have hij : ¬ (i : Int) = (j : Int) := by omega
    obtain ⟨a, ha⟩ := some_of_lt hj
    obtain ⟨b, hb⟩ := some_of_lt (l := hs) (k := i) (by omega)
    have cl := hless_ct hs j i a b ha hb (hne a (List.mem_of_getElem? ha)) (hne b (List.mem_of_getElem? hb))
    have cs := hswap_ku hs i j b a hb ha
    have st := upL_step h0 hi ha hb
    refine AW.rc 20 fun K hK => ?_
    repeat (with_reducible refine .s fun X Y Z W => ?_; simp [w1, w2, w3, hij]; (first | refine Z.out _ _ ?_ | refine W.out _ ?_ | refine ⟨by kernel_rfl, W.out _ ?_⟩); clear Z W X Y; simp [w1, w2, w3, hij]); (try refine .n ?_)
    refine Jt.f hK ?_
    clear hK K
    with_reducible repeat first | refine Jt.i ?_ | refine .g (by decide) ?_
    refine AW.rc 40 fun K hK => ?_
    repeat (with_reducible refine .s fun X Y Z W => ?_; simp [w1, w2, w3, hij]; (first | refine Z.out _ _ ?_ | refine W.out _ ?_ | refine ⟨by kernel_rfl, W.out _ ?_⟩); clear Z W X Y; simp [w1, w2, w3, hij]); (try refine .n ?_)
    refine .s fun K1 K2 hK1 hK2 => ?_
    simp [w1, w2, w3, hij]
    refine hatch_invct rfl m_less ty122 rfl rfl rfl rfl rfl rfl cl rfl ?_
    refine hK1.out _ _ ?_
    clear hK1 hK2 K1 K2
    (try simp [w1, w2, w3, hij])
    repeat (with_reducible refine .s fun X Y Z W => ?_; simp [w1, w2, w3, hij]; (first | refine Z.out _ _ ?_ | refine W.out _ ?_ | refine ⟨by kernel_rfl, W.out _ ?_⟩); clear Z W X Y; simp [w1, w2, w3, hij]); (try refine .n ?_)
    refine Jt.f hK ?_
    clear hK K
    with_reducible repeat first | refine Jt.i ?_ | refine .g (by decide) ?_
    cases h : ltH a b with
    | true =>
      rw [h] at st
      simp only [if_true] at st
      refine AW.cf rfl ?_
      with_reducible repeat first | refine Jt.i ?_ | refine .g (by decide) ?_
      refine AW.rc 60 fun K hK => ?_
      repeat (with_reducible refine .s fun X Y Z W => ?_; simp [w1, w2, w3, hij]; (first | refine Z.out _ _ ?_ | refine W.out _ ?_ | refine ⟨by kernel_rfl, W.out _ ?_⟩); clear Z W X Y; simp [w1, w2, w3, hij]); (try refine .n ?_)
      refine .s fun K1 K2 hK1 hK2 => ?_
      simp [w1, w2, w3, hij]
      refine hatch_invku rfl m_swap ty122 rfl rfl rfl rfl rfl rfl rfl rfl cs rfl rfl rfl ?_
      refine hK1.out _ _ ?_
      clear hK1 hK2 K1 K2
      (try simp [w1, w2, w3, hij])
      repeat (with_reducible refine .s fun X Y Z W => ?_; simp [w1, w2, w3, hij]; (first | refine Z.out _ _ ?_ | refine W.out _ ?_ | refine ⟨by kernel_rfl, W.out _ ?_⟩); clear Z W X Y; simp [w1, w2, w3, hij]); (try refine .n ?_)
      refine Jt.f hK ?_
      clear hK K
      with_reducible repeat first | refine Jt.i ?_ | refine .g (by decide) ?_
      refine AW.rc 80 fun K hK => ?_
      repeat (with_reducible refine .s fun X Y Z W => ?_; simp [w1, w2, w3, hij]; (first | refine Z.out _ _ ?_ | refine W.out _ ?_ | refine ⟨by kernel_rfl, W.out _ ?_⟩); clear Z W X Y; simp [w1, w2, w3, hij]); (try refine .n ?_)
      refine Jt.f hK ?_
      clear hK K
      with_reducible repeat first | refine Jt.i ?_ | refine .g (by decide) ?_
      exact NX.round ⟨(swapL hs i j, i), by rw [swapL_len]; show i < _; omega, by rw [swapL_len]; exact hn, swapL_ne hne, by rw [← hR, st]⟩ (by show i < j; omega) (view_of (vw [] [(900, [63])] [] []) (by simp [upS]))
    | false =>
      rw [h] at st
      simp only [Bool.false_eq_true, if_false] at st
      rw [st] at hR
      subst hR
      refine AW.ct rfl ?_
      with_reducible repeat first | refine Jt.i ?_ | refine .g (by decide) ?_
      refine nx_kz (yo := ?_) (zs := ?_) (r := ?_) ty (by first | exact .inl rfl | exact .inr rfl) rfl rfl rfl rfl rfl rfl ⟨rfl, rfl, ?_⟩ ?_
      rotate_left 3
      · rfl
      · rfl
def dnS (hs : List Hd) (p : Pr) (fin : Bool) (i0 n i : Nat) : Row := (.tmp 1, .av (.c [] (.v (.int .i64 i0)))) :: (.tmp 2, .av (.c [] (.v (.int .i64 n)))) :: (.tmp 7, .av (.c [] (.v (.int .i64 i)))) :: hpR hs p fin
theorem downL_end {hs : List Hd} {i n : Nat} (h : n ≤ 2 * i + 1) : downL ltH hs i n = (hs, i) := by rw [downL, dif_pos h]
theorem downL_step {hs : List Hd} {i n j : Nat} {a b : Hd} (h : ¬ n ≤ 2 * i + 1) (hj : kidL ltH hs i n = j) (ha : hs[j]? = some a) (hb : hs[i]? = some b) : downL ltH hs i n = if ltH a b then downL ltH (swapL hs i j) j n else (hs, i) := by
  rw [downL, dif_neg h, hj, ha, hb]
set_option maxHeartbeats 16000000 in
theorem down_kz (V : VO) (i n : Nat) (hn : n ≤ V.hs.length) (hl : V.hs.length ≤ 1000) (hi : i ≤ n) (hne : ∀ x ∈ V.hs, x.2.2 ≠ []) : Kz Try.prog 170 (.ifc 128) [dI i, dI n] (vC V) (vC ⟨(downL ltH V.hs i n).1, V.at_, V.fin⟩) (.one (dB (decide (i < (downL ltH V.hs i n).2)))) := by
  obtain ⟨hs0, p, fin⟩ := V
  simp only at hn hl hne ⊢
  obtain ⟨R, hR⟩ : ∃ R, R = downL ltH hs0 i n := ⟨_, rfl⟩
  rw [← hR]
  refine kz_intro Try.func170 rfl Try.ntmps170 (by simp) (fun W0 A B g hN hP => ?_)
  with_reducible repeat first | refine Jt.i ?_ | refine .g (by decide) ?_
  refine AW.at_ (fun L hL => ?_)
  simp at hL
  subst hL
  refine AW.rc 4 fun K hK => ?_
  repeat (with_reducible refine .s fun X Y Z W => ?_; simp; (first | refine Z.out _ _ ?_ | refine W.out _ ?_ | refine ⟨by kernel_rfl, W.out _ ?_⟩); clear Z W X Y; simp); (try refine .n ?_)
  refine Jt.f hK ?_
  clear hK K
  with_reducible repeat first | refine Jt.i ?_ | refine .g (by decide) ?_
  refine AW.rc 6 fun K hK => ?_
  repeat (with_reducible refine .s fun X Y Z W => ?_; simp; (first | refine Z.out _ _ ?_ | refine W.out _ ?_ | refine ⟨by kernel_rfl, W.out _ ?_⟩); clear Z W X Y; simp); (try refine .n ?_)
  refine Jt.f hK ?_
  clear hK K
  with_reducible repeat first | refine Jt.i ?_ | refine .g (by decide) ?_
  refine AW.loop (X := { s : List Hd × Nat // n ≤ s.1.length ∧ s.1.length ≤ 1000 ∧ s.2 ≤ n ∧ (∀ x ∈ s.1, x.2.2 ≠ []) ∧ downL ltH s.1 s.2 n = R }) (fun s => dnS s.1.1 p fin i n s.1.2) (fun s => n - s.1.2) ⟨(hs0, i), hn, hl, hi, hne, hR.symm⟩ (view_of (vw [] [(900, [200001])] [] [(900, some 200001)]) (by simp [dnS])) (fun x => ?_)
  obtain ⟨⟨hs, i'⟩, hn, hl, hi, hne, hR⟩ := x
  simp only at hn hl hi hne hR
  refine AW.at_ (fun L hL => ?_)
  simp [dnS] at hL
  subst hL
  with_reducible repeat first | refine Jt.i ?_ | refine .g (by decide) ?_
  have w1 : IntKind.i64.wrap (2 * (i' : Int)) = 2 * (i' : Int) := i64_ok _ (by omega) (by omega)
  obtain ⟨m, hm⟩ : ∃ m, m = 2 * i' + 1 := ⟨_, rfl⟩
  have w2 : IntKind.i64.wrap (2 * (i' : Int) + 1) = (m : Int) := by rw [i64_ok _ (by omega) (by omega)]; omega
  have g2 : ¬ (m : Int) < 0 := by omega
  by_cases h0 : n ≤ 2 * i' + 1
  · rw [downL_end h0] at hR
    subst hR
    have g1 : (n : Int) ≤ (m : Int) := by omega
    refine AW.rc 20 fun K hK => ?_
    repeat (with_reducible refine .s fun X Y Z W => ?_; simp [w1, w2]; (first | refine Z.out _ _ ?_ | refine W.out _ ?_ | refine ⟨by kernel_rfl, W.out _ ?_⟩); clear Z W X Y; simp [w1, w2]); (try refine .n ?_)
    refine Jt.f hK ?_
    clear hK K
    with_reducible repeat first | refine Jt.i ?_ | refine .g (by decide) ?_
    refine AW.rc 30 fun K hK => ?_
    repeat (with_reducible refine .s fun X Y Z W => ?_; simp [g1]; (first | refine Z.out _ _ ?_ | refine W.out _ ?_ | refine ⟨by kernel_rfl, W.out _ ?_⟩); clear Z W X Y; simp [g1]); (try refine .n ?_)
    refine Jt.f hK ?_
    clear hK K
    with_reducible repeat first | refine Jt.i ?_ | refine .g (by decide) ?_
    refine AW.ct rfl ?_
    with_reducible repeat first | refine Jt.i ?_ | refine .g (by decide) ?_
    refine AW.rc 40 fun K hK => ?_
    repeat (with_reducible refine .s fun X Y Z W => ?_; simp; (first | refine Z.out _ _ ?_ | refine W.out _ ?_ | refine ⟨by kernel_rfl, W.out _ ?_⟩); clear Z W X Y; simp); (try refine .n ?_)
    refine Jt.f hK ?_
    clear hK K
    with_reducible repeat first | refine Jt.i ?_ | refine .g (by decide) ?_
    refine nx_kz (yo := ?_) (zs := ?_) (r := ?_) ty (by first | exact .inl rfl | exact .inr rfl) rfl rfl rfl rfl rfl rfl ⟨rfl, rfl, ?_⟩ ?_
    rotate_left 3
    · rfl
    · rfl
  · obtain ⟨q, hq⟩ : ∃ q, q = 2 * i' + 2 := ⟨_, rfl⟩
    have w3 : IntKind.i64.wrap ((m : Int) + 1) = (q : Int) := by rw [i64_ok _ (by omega) (by omega)]; omega
    have g1 : ¬ (n : Int) ≤ (m : Int) := by omega
    obtain ⟨b, hb⟩ := some_of_lt (l := hs) (k := i') (by omega)
    obtain ⟨c1, hc1⟩ := some_of_lt (l := hs) (k := m) (by omega)
    have nb := hne b (List.mem_of_getElem? hb)
    have n1 := hne c1 (List.mem_of_getElem? hc1)
    refine AW.rc 20 fun K hK => ?_
    repeat (with_reducible refine .s fun X Y Z W => ?_; simp [w1, w2]; (first | refine Z.out _ _ ?_ | refine W.out _ ?_ | refine ⟨by kernel_rfl, W.out _ ?_⟩); clear Z W X Y; simp [w1, w2]); (try refine .n ?_)
    refine Jt.f hK ?_
    clear hK K
    with_reducible repeat first | refine Jt.i ?_ | refine .g (by decide) ?_
    refine AW.rc 30 fun K hK => ?_
    repeat (with_reducible refine .s fun X Y Z W => ?_; simp [g1, g2]; (first | refine Z.out _ _ ?_ | refine W.out _ ?_ | refine ⟨by kernel_rfl, W.out _ ?_⟩); clear Z W X Y; simp [g1, g2]); (try refine .n ?_)
    refine Jt.f hK ?_
    clear hK K
    with_reducible repeat first | refine Jt.i ?_ | refine .g (by decide) ?_
    refine AW.cf rfl ?_
    with_reducible repeat first | refine Jt.i ?_ | refine .g (by decide) ?_
    refine AW.rc 60 fun K hK => ?_
    repeat (with_reducible refine .s fun X Y Z W => ?_; simp; (first | refine Z.out _ _ ?_ | refine W.out _ ?_ | refine ⟨by kernel_rfl, W.out _ ?_⟩); clear Z W X Y; simp); (try refine .n ?_)
    refine Jt.f hK ?_
    clear hK K
    with_reducible repeat first | refine Jt.i ?_ | refine .g (by decide) ?_
    refine AW.rc 70 fun K hK => ?_
    repeat (with_reducible refine .s fun X Y Z W => ?_; simp [w3]; (first | refine Z.out _ _ ?_ | refine W.out _ ?_ | refine ⟨by kernel_rfl, W.out _ ?_⟩); clear Z W X Y; simp [w3]); (try refine .n ?_)
    refine Jt.f hK ?_
    clear hK K
    with_reducible repeat first | refine Jt.i ?_ | refine .g (by decide) ?_
    by_cases hq2 : q < n
    · have g3 : (q : Int) < (n : Int) := by omega
      obtain ⟨c2, hc2⟩ := some_of_lt (l := hs) (k := q) (by omega)
      have n2 := hne c2 (List.mem_of_getElem? hc2)
      have ck := hless_ct hs q m c2 c1 hc2 hc1 n2 n1
      refine AW.rc 80 fun K hK => ?_
      repeat (with_reducible refine .s fun X Y Z W => ?_; simp [g3]; (first | refine Z.out _ _ ?_ | refine W.out _ ?_ | refine ⟨by kernel_rfl, W.out _ ?_⟩); clear Z W X Y; simp [g3]); (try refine .n ?_)
      refine .s fun K1 K2 hK1 hK2 => ?_
      simp [g3]
      refine hatch_invct rfl m_less ty122 rfl rfl rfl rfl rfl rfl ck rfl ?_
      refine hK1.out _ _ ?_
      clear hK1 hK2 K1 K2
      (try simp [g3])
      repeat (with_reducible refine .s fun X Y Z W => ?_; simp [g3]; (first | refine Z.out _ _ ?_ | refine W.out _ ?_ | refine ⟨by kernel_rfl, W.out _ ?_⟩); clear Z W X Y; simp [g3]); (try refine .n ?_)
      refine Jt.f hK ?_
      clear hK K
      with_reducible repeat first | refine Jt.i ?_ | refine .g (by decide) ?_
      cases hk : ltH c2 c1 with
      | true =>
        have hkid : kidL ltH hs i' n = q := by unfold kidL; rw [if_pos (by omega), ← hq, ← hm, hc2, hc1]; simp [hk]
        have cl := hless_ct hs q i' c2 b hc2 hb n2 nb
        have cs := hswap_ku hs i' q b c2 hb hc2
        have st := downL_step h0 hkid hc2 hb
        have ⟨jn, ij⟩ : q < n ∧ i' < q := by omega
        refine AW.ct rfl ?_
        with_reducible repeat first | refine Jt.i ?_ | refine .g (by decide) ?_
        refine AW.rc 94 fun K hK => ?_
        repeat (with_reducible refine .s fun X Y Z W => ?_; simp; (first | refine Z.out _ _ ?_ | refine W.out _ ?_ | refine ⟨by kernel_rfl, W.out _ ?_⟩); clear Z W X Y; simp); (try refine .n ?_)
        refine Jt.f hK ?_
        clear hK K
        with_reducible repeat first | refine Jt.i ?_ | refine .g (by decide) ?_
        refine AW.rc 100 fun K hK => ?_
        repeat (with_reducible refine .s fun X Y Z W => ?_; simp; (first | refine Z.out _ _ ?_ | refine W.out _ ?_ | refine ⟨by kernel_rfl, W.out _ ?_⟩); clear Z W X Y; simp); (try refine .n ?_)
        refine .s fun K1 K2 hK1 hK2 => ?_
        simp
        refine hatch_invct rfl m_less ty122 rfl rfl rfl rfl rfl rfl cl rfl ?_
        refine hK1.out _ _ ?_
        clear hK1 hK2 K1 K2
        (try simp)
        repeat (with_reducible refine .s fun X Y Z W => ?_; simp; (first | refine Z.out _ _ ?_ | refine W.out _ ?_ | refine ⟨by kernel_rfl, W.out _ ?_⟩); clear Z W X Y; simp); (try refine .n ?_)
        refine Jt.f hK ?_
        clear hK K
        with_reducible repeat first | refine Jt.i ?_ | refine .g (by decide) ?_
        cases h : ltH c2 b with
        | true =>
          rw [h] at st
          simp only [if_true] at st
          refine AW.cf rfl ?_
          with_reducible repeat first | refine Jt.i ?_ | refine .g (by decide) ?_
          refine AW.rc 120 fun K hK => ?_
          repeat (with_reducible refine .s fun X Y Z W => ?_; simp; (first | refine Z.out _ _ ?_ | refine W.out _ ?_ | refine ⟨by kernel_rfl, W.out _ ?_⟩); clear Z W X Y; simp); (try refine .n ?_)
          refine .s fun K1 K2 hK1 hK2 => ?_
          simp
          refine hatch_invku rfl m_swap ty122 rfl rfl rfl rfl rfl rfl rfl rfl cs rfl rfl rfl ?_
          refine hK1.out _ _ ?_
          clear hK1 hK2 K1 K2
          (try simp)
          repeat (with_reducible refine .s fun X Y Z W => ?_; simp; (first | refine Z.out _ _ ?_ | refine W.out _ ?_ | refine ⟨by kernel_rfl, W.out _ ?_⟩); clear Z W X Y; simp); (try refine .n ?_)
          refine Jt.f hK ?_
          clear hK K
          with_reducible repeat first | refine Jt.i ?_ | refine .g (by decide) ?_
          refine AW.rc 140 fun K hK => ?_
          repeat (with_reducible refine .s fun X Y Z W => ?_; simp; (first | refine Z.out _ _ ?_ | refine W.out _ ?_ | refine ⟨by kernel_rfl, W.out _ ?_⟩); clear Z W X Y; simp); (try refine .n ?_)
          refine Jt.f hK ?_
          clear hK K
          with_reducible repeat first | refine Jt.i ?_ | refine .g (by decide) ?_
          exact NX.round ⟨(swapL hs i' q, q), by rw [swapL_len]; exact hn, by rw [swapL_len]; exact hl, by show q ≤ n; omega, swapL_ne hne, by rw [← hR, st]⟩ (by show n - q < n - i'; omega) (view_of (vw [] [(900, [123])] [] []) (by simp [dnS]))
        | false =>
          rw [h] at st
          simp only [Bool.false_eq_true, if_false] at st
          rw [st] at hR
          subst hR
          refine AW.ct rfl ?_
          with_reducible repeat first | refine Jt.i ?_ | refine .g (by decide) ?_
          refine AW.rc 140 fun K hK => ?_
          repeat (with_reducible refine .s fun X Y Z W => ?_; simp; (first | refine Z.out _ _ ?_ | refine W.out _ ?_ | refine ⟨by kernel_rfl, W.out _ ?_⟩); clear Z W X Y; simp); (try refine .n ?_)
          refine Jt.f hK ?_
          clear hK K
          with_reducible repeat first | refine Jt.i ?_ | refine .g (by decide) ?_
          refine nx_kz (yo := ?_) (zs := ?_) (r := ?_) ty (by first | exact .inl rfl | exact .inr rfl) rfl rfl rfl rfl rfl rfl ⟨rfl, rfl, ?_⟩ ?_
          rotate_left 3
          · rfl
          · rfl
      | false =>
        have hkid : kidL ltH hs i' n = m := by unfold kidL; rw [if_pos (by omega), ← hq, ← hm, hc2, hc1]; simp [hk]
        have cl := hless_ct hs m i' c1 b hc1 hb n1 nb
        have cs := hswap_ku hs i' m b c1 hb hc1
        have st := downL_step h0 hkid hc1 hb
        have ⟨jn, ij⟩ : m < n ∧ i' < m := by omega
        refine AW.cf rfl ?_
        with_reducible repeat first | refine Jt.i ?_ | refine .g (by decide) ?_
        refine AW.rc 100 fun K hK => ?_
        repeat (with_reducible refine .s fun X Y Z W => ?_; simp; (first | refine Z.out _ _ ?_ | refine W.out _ ?_ | refine ⟨by kernel_rfl, W.out _ ?_⟩); clear Z W X Y; simp); (try refine .n ?_)
        refine .s fun K1 K2 hK1 hK2 => ?_
        simp
        refine hatch_invct rfl m_less ty122 rfl rfl rfl rfl rfl rfl cl rfl ?_
        refine hK1.out _ _ ?_
        clear hK1 hK2 K1 K2
        (try simp)
        repeat (with_reducible refine .s fun X Y Z W => ?_; simp; (first | refine Z.out _ _ ?_ | refine W.out _ ?_ | refine ⟨by kernel_rfl, W.out _ ?_⟩); clear Z W X Y; simp); (try refine .n ?_)
        refine Jt.f hK ?_
        clear hK K
        with_reducible repeat first | refine Jt.i ?_ | refine .g (by decide) ?_
        cases h : ltH c1 b with
        | true =>
          rw [h] at st
          simp only [if_true] at st
          refine AW.cf rfl ?_
          with_reducible repeat first | refine Jt.i ?_ | refine .g (by decide) ?_
          refine AW.rc 120 fun K hK => ?_
          repeat (with_reducible refine .s fun X Y Z W => ?_; simp; (first | refine Z.out _ _ ?_ | refine W.out _ ?_ | refine ⟨by kernel_rfl, W.out _ ?_⟩); clear Z W X Y; simp); (try refine .n ?_)
          refine .s fun K1 K2 hK1 hK2 => ?_
          simp
          refine hatch_invku rfl m_swap ty122 rfl rfl rfl rfl rfl rfl rfl rfl cs rfl rfl rfl ?_
          refine hK1.out _ _ ?_
          clear hK1 hK2 K1 K2
          (try simp)
          repeat (with_reducible refine .s fun X Y Z W => ?_; simp; (first | refine Z.out _ _ ?_ | refine W.out _ ?_ | refine ⟨by kernel_rfl, W.out _ ?_⟩); clear Z W X Y; simp); (try refine .n ?_)
          refine Jt.f hK ?_
          clear hK K
          with_reducible repeat first | refine Jt.i ?_ | refine .g (by decide) ?_
          refine AW.rc 140 fun K hK => ?_
          repeat (with_reducible refine .s fun X Y Z W => ?_; simp; (first | refine Z.out _ _ ?_ | refine W.out _ ?_ | refine ⟨by kernel_rfl, W.out _ ?_⟩); clear Z W X Y; simp); (try refine .n ?_)
          refine Jt.f hK ?_
          clear hK K
          with_reducible repeat first | refine Jt.i ?_ | refine .g (by decide) ?_
          exact NX.round ⟨(swapL hs i' m, m), by rw [swapL_len]; exact hn, by rw [swapL_len]; exact hl, by show m ≤ n; omega, swapL_ne hne, by rw [← hR, st]⟩ (by show n - m < n - i'; omega) (view_of (vw [] [(900, [123])] [] []) (by simp [dnS]))
        | false =>
          rw [h] at st
          simp only [Bool.false_eq_true, if_false] at st
          rw [st] at hR
          subst hR
          refine AW.ct rfl ?_
          with_reducible repeat first | refine Jt.i ?_ | refine .g (by decide) ?_
          refine AW.rc 140 fun K hK => ?_
          repeat (with_reducible refine .s fun X Y Z W => ?_; simp; (first | refine Z.out _ _ ?_ | refine W.out _ ?_ | refine ⟨by kernel_rfl, W.out _ ?_⟩); clear Z W X Y; simp); (try refine .n ?_)
          refine Jt.f hK ?_
          clear hK K
          with_reducible repeat first | refine Jt.i ?_ | refine .g (by decide) ?_
          refine nx_kz (yo := ?_) (zs := ?_) (r := ?_) ty (by first | exact .inl rfl | exact .inr rfl) rfl rfl rfl rfl rfl rfl ⟨rfl, rfl, ?_⟩ ?_
          rotate_left 3
          · rfl
          · rfl
    · have g3 : ¬ (q : Int) < (n : Int) := by omega
      have hkid : kidL ltH hs i' n = m := by unfold kidL; rw [if_neg (by omega), ← hm]
      have cl := hless_ct hs m i' c1 b hc1 hb n1 nb
      have cs := hswap_ku hs i' m b c1 hb hc1
      have st := downL_step h0 hkid hc1 hb
      have ⟨jn, ij⟩ : m < n ∧ i' < m := by omega
      refine AW.rc 80 fun K hK => ?_
      repeat (with_reducible refine .s fun X Y Z W => ?_; simp [g3]; (first | refine Z.out _ _ ?_ | refine W.out _ ?_ | refine ⟨by kernel_rfl, W.out _ ?_⟩); clear Z W X Y; simp [g3]); (try refine .n ?_)
      refine Jt.f hK ?_
      clear hK K
      with_reducible repeat first | refine Jt.i ?_ | refine .g (by decide) ?_
      refine AW.cf rfl ?_
      with_reducible repeat first | refine Jt.i ?_ | refine .g (by decide) ?_
      refine AW.rc 100 fun K hK => ?_
      repeat (with_reducible refine .s fun X Y Z W => ?_; simp; (first | refine Z.out _ _ ?_ | refine W.out _ ?_ | refine ⟨by kernel_rfl, W.out _ ?_⟩); clear Z W X Y; simp); (try refine .n ?_)
      refine .s fun K1 K2 hK1 hK2 => ?_
      simp
      refine hatch_invct rfl m_less ty122 rfl rfl rfl rfl rfl rfl cl rfl ?_
      refine hK1.out _ _ ?_
      clear hK1 hK2 K1 K2
      (try simp)
      repeat (with_reducible refine .s fun X Y Z W => ?_; simp; (first | refine Z.out _ _ ?_ | refine W.out _ ?_ | refine ⟨by kernel_rfl, W.out _ ?_⟩); clear Z W X Y; simp); (try refine .n ?_)
      refine Jt.f hK ?_
      clear hK K
      with_reducible repeat first | refine Jt.i ?_ | refine .g (by decide) ?_
      cases h : ltH c1 b with
      | true =>
        rw [h] at st
        simp only [if_true] at st
        refine AW.cf rfl ?_
        with_reducible repeat first | refine Jt.i ?_ | refine .g (by decide) ?_
        refine AW.rc 120 fun K hK => ?_
        repeat (with_reducible refine .s fun X Y Z W => ?_; simp; (first | refine Z.out _ _ ?_ | refine W.out _ ?_ | refine ⟨by kernel_rfl, W.out _ ?_⟩); clear Z W X Y; simp); (try refine .n ?_)
        refine .s fun K1 K2 hK1 hK2 => ?_
        simp
        refine hatch_invku rfl m_swap ty122 rfl rfl rfl rfl rfl rfl rfl rfl cs rfl rfl rfl ?_
        refine hK1.out _ _ ?_
        clear hK1 hK2 K1 K2
        (try simp)
        repeat (with_reducible refine .s fun X Y Z W => ?_; simp; (first | refine Z.out _ _ ?_ | refine W.out _ ?_ | refine ⟨by kernel_rfl, W.out _ ?_⟩); clear Z W X Y; simp); (try refine .n ?_)
        refine Jt.f hK ?_
        clear hK K
        with_reducible repeat first | refine Jt.i ?_ | refine .g (by decide) ?_
        refine AW.rc 140 fun K hK => ?_
        repeat (with_reducible refine .s fun X Y Z W => ?_; simp; (first | refine Z.out _ _ ?_ | refine W.out _ ?_ | refine ⟨by kernel_rfl, W.out _ ?_⟩); clear Z W X Y; simp); (try refine .n ?_)
        refine Jt.f hK ?_
        clear hK K
        with_reducible repeat first | refine Jt.i ?_ | refine .g (by decide) ?_
        exact NX.round ⟨(swapL hs i' m, m), by rw [swapL_len]; exact hn, by rw [swapL_len]; exact hl, by show m ≤ n; omega, swapL_ne hne, by rw [← hR, st]⟩ (by show n - m < n - i'; omega) (view_of (vw [] [(900, [123])] [] []) (by simp [dnS]))
      | false =>
        rw [h] at st
        simp only [Bool.false_eq_true, if_false] at st
        rw [st] at hR
        subst hR
        refine AW.ct rfl ?_
        with_reducible repeat first | refine Jt.i ?_ | refine .g (by decide) ?_
        refine AW.rc 140 fun K hK => ?_
        repeat (with_reducible refine .s fun X Y Z W => ?_; simp; (first | refine Z.out _ _ ?_ | refine W.out _ ?_ | refine ⟨by kernel_rfl, W.out _ ?_⟩); clear Z W X Y; simp); (try refine .n ?_)
        refine Jt.f hK ?_
        clear hK K
        with_reducible repeat first | refine Jt.i ?_ | refine .g (by decide) ?_
        refine nx_kz (yo := ?_) (zs := ?_) (r := ?_) ty (by first | exact .inl rfl | exact .inr rfl) rfl rfl rfl rfl rfl rfl ⟨rfl, rfl, ?_⟩ ?_
        rotate_left 3
        · rfl
        · rfl
theorem inv_push (a : Act) (w : World) (g : Nat) {d : Option Tmp} {t0 : Tmp} {args : Array Operand} {ats : Array TypeId} {ty : TypeId} {st : String} {e : Array Edge} {gd : Option (Nat × Bool)} (h : a.eval (.tmp t0) = (VK.ifc 128).val g) : (execOp a.eval ⟨d, .call ⟨.invoke (.tmp t0) "Push", args, ats⟩, ty, st, e, gd⟩).run Try.prog w = .ok (.enter 210 (#[(VK.ptr 0).val g] ++ (args.toList.map a.eval).toArray)) w := run_invoke h (m_push g w) rfl
theorem inv_pop (a : Act) (w : World) (g : Nat) {d : Option Tmp} {t0 : Tmp} {args : Array Operand} {ats : Array TypeId} {ty : TypeId} {st : String} {e : Array Edge} {gd : Option (Nat × Bool)} (h : a.eval (.tmp t0) = (VK.ifc 128).val g) : (execOp a.eval ⟨d, .call ⟨.invoke (.tmp t0) "Pop", args, ats⟩, ty, st, e, gd⟩).run Try.prog w = .ok (.enter 209 (#[(VK.ptr 0).val g] ++ (args.toList.map a.eval).toArray)) w := run_invoke h (m_pop g w) rfl
set_option maxHeartbeats 16000000 in
theorem ppush_kz (V : VO) (x : Hd) (hn : V.hs.length ≤ 500) (hne : ∀ x ∈ V.hs, x.2.2 ≠ []) (hx : x.2.2 ≠ []) : Kz Try.prog 108 (.ifc 128) [hdV x] (vC V) (vC ⟨pushL ltH V.hs x, V.at_, V.fin⟩) (.tup []) := by
  obtain ⟨hs, p, fin⟩ := V
  simp only at hn hne ⊢
  have c1 := hpush_kz ⟨hs, p, fin⟩ x (by simp only; omega)
  have c2 := hlen_ct (hs ++ [x])
  have c3 := up_kz ⟨hs ++ [x], p, fin⟩ hs.length (by simp) (by simp; omega) (fun y hy => by
    rcases List.mem_append.1 hy with hy | hy
    · exact hne y hy
    · simp at hy; subst hy; exact hx)
  have w1 : IntKind.i64.wrap (hs.length : Int) = (hs.length : Int) := i64_ok _ (by omega) (by omega)
  have el : (hs ++ [x]).length = hs.length + 1 := by simp
  rw [el] at c2
  unfold pushL
  generalize upL ltH (hs ++ [x]) hs.length = R at *
  generalize hs ++ [x] = hs' at *
  refine kz_intro Try.func108 rfl Try.ntmps108 (by simp) (fun W0 A B g hN hP => ?_)
  with_reducible repeat first | refine Jt.i ?_ | refine .g (by decide) ?_
  refine AW.at_ (fun L hL => ?_)
  simp at hL
  subst hL
  refine AW.rc 10 fun K hK => ?_
  repeat (with_reducible refine .s fun X Y Z W => ?_; simp; (first | refine Z.out _ _ ?_ | refine W.out _ ?_ | refine ⟨by kernel_rfl, W.out _ ?_⟩); clear Z W X Y; simp); (try refine .n ?_)
  refine .s fun K1 K2 hK1 hK2 => ?_
  simp
  refine hatch_kz (κ := .ifc 128) (fun a w g h => inv_push a w g h) c1 ⟨rfl, rfl, rfl, rfl, rfl, rfl, rfl, rfl, rfl⟩ ?_
  refine hK1.out _ _ ?_
  clear hK1 hK2 K1 K2
  (try simp)
  repeat (with_reducible refine .s fun X Y Z W => ?_; simp; (first | refine Z.out _ _ ?_ | refine W.out _ ?_ | refine ⟨by kernel_rfl, W.out _ ?_⟩); clear Z W X Y; simp); (try refine .n ?_)
  refine Jt.f hK ?_
  clear hK K
  with_reducible repeat first | refine Jt.i ?_ | refine .g (by decide) ?_
  refine AW.rc 30 fun K hK => ?_
  repeat (with_reducible refine .s fun X Y Z W => ?_; simp [w1]; (first | refine Z.out _ _ ?_ | refine W.out _ ?_ | refine ⟨by kernel_rfl, W.out _ ?_⟩); clear Z W X Y; simp [w1]); (try refine .n ?_)
  refine .s fun K1 K2 hK1 hK2 => ?_
  simp [w1]
  refine hatch_invct rfl m_len ty122 rfl rfl rfl rfl rfl rfl c2 rfl ?_
  refine hK1.out _ _ ?_
  clear hK1 hK2 K1 K2
  (try simp [w1])
  repeat (with_reducible refine .s fun X Y Z W => ?_; simp [w1]; (first | refine Z.out _ _ ?_ | refine W.out _ ?_ | refine ⟨by kernel_rfl, W.out _ ?_⟩); clear Z W X Y; simp [w1]); (try refine .n ?_)
  refine .s fun K1 K2 hK1 hK2 => ?_
  try simp [w1]
  refine orr_r (orr_r (hatch_kz (κ := .ifc 128) (fun a w g h => run_val h rfl rfl w) c3 ⟨rfl, rfl, rfl, rfl, rfl, rfl, rfl, rfl, rfl⟩ ?_))
  refine hK1.out _ _ ?_
  clear hK1 hK2 K1 K2
  (try simp [w1])
  repeat (with_reducible refine .s fun X Y Z W => ?_; simp [w1]; (first | refine Z.out _ _ ?_ | refine W.out _ ?_ | refine ⟨by kernel_rfl, W.out _ ?_⟩); clear Z W X Y; simp [w1]); (try refine .n ?_)
  refine Jt.f hK ?_
  clear hK K
  with_reducible repeat first | refine Jt.i ?_ | refine .g (by decide) ?_
  refine nx_kz (yo := ?_) (zs := ?_) (r := ?_) ty (by first | exact .inl rfl | exact .inr rfl) rfl rfl rfl rfl rfl rfl ⟨rfl, rfl, ?_⟩ ?_
  rotate_left 3
  · rfl
  · rfl
set_option maxHeartbeats 16000000 in
theorem ppop_kz (h : Hd) (r : List Hd) (p : Pr) (fin : Bool) (hn : (h :: r).length ≤ 500) (hne : ∀ x ∈ h :: r, x.2.2 ≠ []) (hh : Heap ltH (h :: r)) : Kz Try.prog 169 (.ifc 128) [] (vC ⟨h :: r, p, fin⟩) (vC ⟨popH (h :: r), p, fin⟩) (.one (hdV h)) := by
  obtain ⟨z, hz⟩ := some_of_lt (l := h :: r) (k := r.length) (by simp)
  have c1 := hlen_ct (h :: r)
  have c2 := hswap_ku (h :: r) 0 r.length h z rfl hz
  have sl := swapL_len (h :: r) 0 r.length
  have c3 := down_kz ⟨swapL (h :: r) 0 r.length, p, fin⟩ 0 r.length (by simp only [sl]; simp) (by simp only [sl]; omega) (Nat.zero_le _) (swapL_ne hne)
  obtain ⟨e1, e2, e3⟩ := popH_spec hh
  have e4 : (downL ltH (swapL (h :: r) 0 r.length) 0 r.length).1 = popH (h :: r) ++ [h] := by
    rw [← e1]
    rfl
  simp only at c3
  rw [e4] at c3
  have hl := e2.length_eq
  have c4 := hpop_kz (popH (h :: r)) h p fin (by simp at hn; omega)
  have w1 : IntKind.i64.wrap (r.length : Int) = (r.length : Int) := i64_ok _ (by simp at hn; omega) (by simp at hn; omega)
  have el : (h :: r).length = r.length + 1 := by simp
  rw [el] at c1
  generalize decide (0 < (downL ltH (swapL (h :: r) 0 r.length) 0 r.length).2) = bb at *
  generalize popH (h :: r) ++ [h] = R1 at *
  generalize popH (h :: r) = R2 at *
  generalize swapL (h :: r) 0 r.length = S at *
  generalize hq : h :: r = q at *
  refine kz_intro Try.func169 rfl Try.ntmps169 (by simp) (fun W0 A B g hN hP => ?_)
  with_reducible repeat first | refine Jt.i ?_ | refine .g (by decide) ?_
  refine AW.at_ (fun L hL => ?_)
  simp at hL
  subst hL
  refine AW.rc 10 fun K hK => ?_
  repeat (with_reducible refine .s fun X Y Z W => ?_; simp; (first | refine Z.out _ _ ?_ | refine W.out _ ?_ | refine ⟨by kernel_rfl, W.out _ ?_⟩); clear Z W X Y; simp); (try refine .n ?_)
  refine Jt.f hK ?_
  clear hK K
  with_reducible repeat first | refine Jt.i ?_ | refine .g (by decide) ?_
  refine AW.rc 20 fun K hK => ?_
  repeat (with_reducible refine .s fun X Y Z W => ?_; simp [w1]; (first | refine Z.out _ _ ?_ | refine W.out _ ?_ | refine ⟨by kernel_rfl, W.out _ ?_⟩); clear Z W X Y; simp [w1]); (try refine .n ?_)
  refine .s fun K1 K2 hK1 hK2 => ?_
  simp [w1]
  refine hatch_invct rfl m_len ty122 rfl rfl rfl rfl rfl rfl c1 rfl ?_
  refine hK1.out _ _ ?_
  clear hK1 hK2 K1 K2
  (try simp [w1])
  repeat (with_reducible refine .s fun X Y Z W => ?_; simp [w1]; (first | refine Z.out _ _ ?_ | refine W.out _ ?_ | refine ⟨by kernel_rfl, W.out _ ?_⟩); clear Z W X Y; simp [w1]); (try refine .n ?_)
  refine Jt.f hK ?_
  clear hK K
  with_reducible repeat first | refine Jt.i ?_ | refine .g (by decide) ?_
  refine AW.rc 30 fun K hK => ?_
  repeat (with_reducible refine .s fun X Y Z W => ?_; simp [w1]; (first | refine Z.out _ _ ?_ | refine W.out _ ?_ | refine ⟨by kernel_rfl, W.out _ ?_⟩); clear Z W X Y; simp [w1]); (try refine .n ?_)
  refine .s fun K1 K2 hK1 hK2 => ?_
  simp [w1]
  refine hatch_invku rfl m_swap ty122 rfl rfl rfl rfl rfl rfl rfl rfl c2 rfl rfl rfl ?_
  refine hK1.out _ _ ?_
  clear hK1 hK2 K1 K2
  (try simp [w1])
  repeat (with_reducible refine .s fun X Y Z W => ?_; simp [w1]; (first | refine Z.out _ _ ?_ | refine W.out _ ?_ | refine ⟨by kernel_rfl, W.out _ ?_⟩); clear Z W X Y; simp [w1]); (try refine .n ?_)
  refine Jt.f hK ?_
  clear hK K
  with_reducible repeat first | refine Jt.i ?_ | refine .g (by decide) ?_
  refine AW.rc 40 fun K hK => ?_
  repeat (with_reducible refine .s fun X Y Z W => ?_; simp [w1]; (first | refine Z.out _ _ ?_ | refine W.out _ ?_ | refine ⟨by kernel_rfl, W.out _ ?_⟩); clear Z W X Y; simp [w1]); (try refine .n ?_)
  refine .s fun K1 K2 hK1 hK2 => ?_
  try simp [w1]
  refine orr_r (orr_r (hatch_kz (κ := .ifc 128) (fun a w g h => run_val h rfl rfl w) c3 ⟨rfl, rfl, rfl, rfl, rfl, rfl, rfl, rfl, rfl⟩ ?_))
  refine hK1.out _ _ ?_
  clear hK1 hK2 K1 K2
  (try simp [w1])
  repeat (with_reducible refine .s fun X Y Z W => ?_; simp [w1]; (first | refine Z.out _ _ ?_ | refine W.out _ ?_ | refine ⟨by kernel_rfl, W.out _ ?_⟩); clear Z W X Y; simp [w1]); (try refine .n ?_)
  refine Jt.f hK ?_
  clear hK K
  with_reducible repeat first | refine Jt.i ?_ | refine .g (by decide) ?_
  refine AW.rc 50 fun K hK => ?_
  repeat (with_reducible refine .s fun X Y Z W => ?_; simp [w1]; (first | refine Z.out _ _ ?_ | refine W.out _ ?_ | refine ⟨by kernel_rfl, W.out _ ?_⟩); clear Z W X Y; simp [w1]); (try refine .n ?_)
  refine .s fun K1 K2 hK1 hK2 => ?_
  simp [w1]
  refine hatch_kz (κ := .ifc 128) (fun a w g h => inv_pop a w g h) c4 ⟨rfl, rfl, rfl, rfl, rfl, rfl, rfl, rfl, rfl⟩ ?_
  refine hK1.out _ _ ?_
  clear hK1 hK2 K1 K2
  (try simp [w1])
  repeat (with_reducible refine .s fun X Y Z W => ?_; simp [w1]; (first | refine Z.out _ _ ?_ | refine W.out _ ?_ | refine ⟨by kernel_rfl, W.out _ ?_⟩); clear Z W X Y; simp [w1]); (try refine .n ?_)
  refine Jt.f hK ?_
  clear hK K
  with_reducible repeat first | refine Jt.i ?_ | refine .g (by decide) ?_
  refine nx_kz (yo := ?_) (zs := ?_) (r := ?_) ty (by first | exact .inl rfl | exact .inr rfl) rfl rfl rfl rfl rfl rfl ⟨rfl, rfl, ?_⟩ ?_
  rotate_left 3
  · rfl
  · rfl
abbrev hpR2 (κ : AV) (hs : List Hd) (p : Pr) (fin : Bool) : Row := [(.vt 0 0, .av (.ptr 1 0)), (.nm 1, .nm true), (.sz 1, .sz 4), (.cell 1 0, .av (.own 900)), (.cell 1 1, .av (.c [] (.v (.int .u64 p.1)))), (.cell 1 2, .av (.c [] (.v (.int .u64 p.2)))), (.cell 1 3, .av (.c [] (.v (.bool fin)))), (.hd 900, .hd (.own 126 3 900 [0, 901] (hs.map hdD))), (.zn 900, .zn .live), (.zn 901, .zn .live), (.zn 0, .zn .live), (.tmp 0, .av κ)]
def inS (hs : List Hd) (p : Pr) (fin : Bool) (n k : Nat) : Row := (.tmp 2, .av (.c [] (.v (.int .i64 n)))) :: (.tmp 3, .av (.c [] (.v (.int .i64 ((k : Int) - 1))))) :: hpR2 (.wp (.ifc 128) 1) hs p fin
theorem initL_s (hs : List Hd) (k : Nat) : initL ltH hs (k + 1) = initL ltH (downL ltH hs k hs.length).1 k := rfl
set_option maxHeartbeats 16000000 in
theorem pinit_kz (hs0 : List Hd) (p : Pr) (fin : Bool) (hn : hs0.length ≤ 500) (hne : ∀ x ∈ hs0, x.2.2 ≠ []) : Kz Try.prog 153 (.ifc 128) [] (vC ⟨hs0, p, fin⟩) (vC ⟨initL ltH hs0 (hs0.length / 2), p, fin⟩) (.tup []) := by
  have c1 := hlen_ct hs0
  obtain ⟨R, hR⟩ : ∃ R, R = initL ltH hs0 (hs0.length / 2) := ⟨_, rfl⟩
  rw [← hR]
  obtain ⟨n, hn0⟩ : ∃ n, n = hs0.length := ⟨_, rfl⟩
  rw [← hn0] at c1 hR hn
  obtain ⟨m, hm⟩ : ∃ m, m = n / 2 := ⟨_, rfl⟩
  have w1 : ((n : Nat) : Int).tdiv 2 = (m : Int) := by rw [Int.tdiv_eq_ediv_of_nonneg (by omega)]; omega
  have w2 : IntKind.i64.wrap (m : Int) = (m : Int) := i64_ok _ (by omega) (by omega)
  have w3 : IntKind.i64.wrap ((m : Int) - 1) = (m : Int) - 1 := i64_ok _ (by omega) (by omega)
  rw [← hm] at hR
  refine kz_intro Try.func153 rfl Try.ntmps153 (by simp) (fun W0 A B g hN hP => ?_)
  with_reducible repeat first | refine Jt.i ?_ | refine .g (by decide) ?_
  refine AW.at_ (fun L hL => ?_)
  simp at hL
  subst hL
  refine AW.rc 4 fun K hK => ?_
  repeat (with_reducible refine .s fun X Y Z W => ?_; simp; (first | refine Z.out _ _ ?_ | refine W.out _ ?_ | refine ⟨by kernel_rfl, W.out _ ?_⟩); clear Z W X Y; simp); (try refine .n ?_)
  refine .s fun K1 K2 hK1 hK2 => ?_
  simp
  refine hatch_invct rfl m_len ty122 rfl rfl rfl rfl rfl rfl c1 rfl ?_
  refine hK1.out _ _ ?_
  clear hK1 hK2 K1 K2
  (try simp)
  repeat (with_reducible refine .s fun X Y Z W => ?_; simp; (first | refine Z.out _ _ ?_ | refine W.out _ ?_ | refine ⟨by kernel_rfl, W.out _ ?_⟩); clear Z W X Y; simp); (try refine .n ?_)
  refine Jt.f hK ?_
  clear hK K
  with_reducible repeat first | refine Jt.i ?_ | refine .g (by decide) ?_
  refine AW.rc 10 fun K hK => ?_
  repeat (with_reducible refine .s fun X Y Z W => ?_; simp [w1, w2, w3]; (first | refine Z.out _ _ ?_ | refine W.out _ ?_ | refine ⟨by kernel_rfl, W.out _ ?_⟩); clear Z W X Y; simp [w1, w2, w3]); (try refine .n ?_)
  refine Jt.f hK ?_
  clear hK K
  with_reducible repeat first | refine Jt.i ?_ | refine .g (by decide) ?_
  refine AW.loop (X := { s : List Hd × Nat // s.1.length = n ∧ s.2 ≤ m ∧ (∀ x ∈ s.1, x.2.2 ≠ []) ∧ initL ltH s.1 s.2 = R }) (fun s => inS s.1.1 p fin n s.1.2) (fun s => s.1.2) ⟨(hs0, m), hn0.symm, Nat.le_refl _, hne, hR.symm⟩ (view_of (vw [] [(900, [200001]), (901, [])] [] [(900, some 200001)]) (by simp [inS])) (fun x => ?_)
  obtain ⟨⟨hs, k⟩, hl, hk, hne, hR⟩ := x
  simp only at hl hk hne hR
  cases k with
  | zero =>
    have hR : hs = R := hR
    subst hR
    refine AW.at_ (fun L hL => ?_)
    simp [inS] at hL
    subst hL
    with_reducible repeat first | refine Jt.i ?_ | refine .g (by decide) ?_
    refine AW.rc 20 fun K hK => ?_
    repeat (with_reducible refine .s fun X Y Z W => ?_; simp; (first | refine Z.out _ _ ?_ | refine W.out _ ?_ | refine ⟨by kernel_rfl, W.out _ ?_⟩); clear Z W X Y; simp); (try refine .n ?_)
    refine Jt.f hK ?_
    clear hK K
    with_reducible repeat first | refine Jt.i ?_ | refine .g (by decide) ?_
    refine AW.cf rfl ?_
    with_reducible repeat first | refine Jt.i ?_ | refine .g (by decide) ?_
    refine nx_kz (yo := ?_) (zs := ?_) (r := ?_) ty (by first | exact .inl rfl | exact .inr rfl) rfl rfl rfl rfl rfl rfl ⟨rfl, rfl, ?_⟩ ?_
    rotate_left 3
    · rfl
    · rfl
  | succ k =>
    rw [initL_s, hl] at hR
    have c2 := down_kz ⟨hs, p, fin⟩ k n (by simp only; omega) (by simp only; omega) (by omega) hne
    simp only at c2
    have pm := downL_perm ltH hs k n
    have g1 : (0 : Int) ≤ (k : Int) := by omega
    have w4 : IntKind.i64.wrap ((k : Int) - 1) = (k : Int) - 1 := i64_ok _ (by omega) (by omega)
    refine AW.at_ (fun L hL => ?_)
    simp [inS] at hL
    subst hL
    with_reducible repeat first | refine Jt.i ?_ | refine .g (by decide) ?_
    refine AW.rc 20 fun K hK => ?_
    repeat (with_reducible refine .s fun X Y Z W => ?_; simp; (first | refine Z.out _ _ ?_ | refine W.out _ ?_ | refine ⟨by kernel_rfl, W.out _ ?_⟩); clear Z W X Y; simp); (try refine .n ?_)
    refine Jt.f hK ?_
    clear hK K
    with_reducible repeat first | refine Jt.i ?_ | refine .g (by decide) ?_
    refine AW.ct rfl ?_
    with_reducible repeat first | refine Jt.i ?_ | refine .g (by decide) ?_
    refine AW.rc 30 fun K hK => ?_
    repeat (with_reducible refine .s fun X Y Z W => ?_; simp; (first | refine Z.out _ _ ?_ | refine W.out _ ?_ | refine ⟨by kernel_rfl, W.out _ ?_⟩); clear Z W X Y; simp); (try refine .n ?_)
    refine .s fun K1 K2 hK1 hK2 => ?_
    try simp
    refine orr_r (orr_r (hatch_kz (κ := .ifc 128) (fun a w g h => run_val h rfl rfl w) c2 ⟨rfl, rfl, rfl, rfl, rfl, rfl, rfl, rfl, rfl⟩ ?_))
    refine hK1.out _ _ ?_
    clear hK1 hK2 K1 K2
    (try simp)
    repeat (with_reducible refine .s fun X Y Z W => ?_; simp; (first | refine Z.out _ _ ?_ | refine W.out _ ?_ | refine ⟨by kernel_rfl, W.out _ ?_⟩); clear Z W X Y; simp); (try refine .n ?_)
    refine Jt.f hK ?_
    clear hK K
    with_reducible repeat first | refine Jt.i ?_ | refine .g (by decide) ?_
    refine AW.rc 40 fun K hK => ?_
    repeat (with_reducible refine .s fun X Y Z W => ?_; simp [w4]; (first | refine Z.out _ _ ?_ | refine W.out _ ?_ | refine ⟨by kernel_rfl, W.out _ ?_⟩); clear Z W X Y; simp [w4]); (try refine .n ?_)
    refine Jt.f hK ?_
    clear hK K
    with_reducible repeat first | refine Jt.i ?_ | refine .g (by decide) ?_
    exact NX.round ⟨((downL ltH hs k n).1, k), by simp only [pm.length_eq, hl], by show k ≤ m; omega, fun x hx => hne x (pm.mem_iff.1 hx), hR⟩ (by show k < k + 1; omega) (view_of (vw [] [(900, [200033]), (901, [901, 33])] [] [(900, some 200033)]) (by simp [inS]))
theorem slice_tail {r : List D} {rows : List (List D)} {K : List (List D) → Prop} (h : K rows) {q : Prop} : orr (sliceAny (some (.i64, 1)) none none (r :: rows) K) q :=
  orr_l ⟨some (.i64, 1), none, none, by simp [nat?], by simp [nat?], by simp [nat?], by simp, by simp, by simp, by simp, by simpa using h⟩
theorem make_hp (v : Value) (w : World) : (Instr.makeInterface 128 v).run Try.prog w = .ok (.iface 128 v) w := by kernel_rfl
def tkS (hs : List Hd) (p at_ : Pr) (ad fin : Bool) : Row := [(.tmp 4, .av (.ptr 2 0)), (.nm 2, .nm true), (.cell 2 0, .av (.c [] (.v (.int .u64 p.1)))), (.cell 2 1, .av (.c [] (.v (.int .u64 p.2)))), (.tmp 5, .av (.c [] (.v (.bool ad)))), (.tmp 2, .av (.ptr 3 0)), (.nm 3, .nm true), (.cell 3 0, .av (.c [] (.v (.int .u64 0)))), (.cell 3 1, .av (.c [] (.v (.int .u64 0)))), (.tmp 3, .av (.c [] (.v (.bool false))))] ++ hpR2 (.ptr 1 0) hs at_ fin
theorem takeN_nil (n : Nat) (p : Pr) : takeN n p [] = [] := by cases n <;> rfl
theorem takeN_ne {n : Nat} {p : Pr} {h : Hd} {r : List Hd} (hp : fstH h ≠ p) : takeN n p (h :: r) = h :: r := by
  cases n with
  | zero => rfl
  | succ n => unfold takeN; simp [hp]
theorem takeN_eq {n : Nat} {p : Pr} {h : Hd} {r : List Hd} (hp : fstH h = p) : takeN (n + 1) p (h :: r) = takeN n p (takeStep (h :: r)) := by
  conv => lhs; unfold takeN
  simp [hp]
set_option maxHeartbeats 16000000 in
theorem take_kz (h : Hd) (r : List Hd) (at_ : Pr) (fin : Bool) (hn0 : (h :: r).length ≤ 500) (G0 : GoodH (h :: r)) : Kz Try.prog 151 (.ptr 0) [] (vC ⟨h :: r, at_, fin⟩) (vC ⟨takeH (h :: r), at_, fin⟩) (.tup [PV (fstH h), dB h.2.1]) := by
  obtain ⟨R, hR⟩ : ∃ R, R = takeH (h :: r) := ⟨_, rfl⟩
  have hR' := hR
  rw [← hR]
  clear hR
  obtain ⟨t, ad, rs⟩ := h
  have hne0 := G0.ne _ List.mem_cons_self
  cases rs with
  | nil => exact absurd rfl hne0
  | cons p l =>
    have hf : fstH (t, ad, p :: l) = p := rfl
    have hR' : R = takeN (pairsH ((t, ad, p :: l) :: r)) p ((t, ad, p :: l) :: r) := hR'
    rw [hf]
    simp only
    refine kz_intro Try.func151 rfl Try.ntmps151 (by simp) (fun W0 A B g hN hP => ?_)
    with_reducible repeat first | refine Jt.i ?_ | refine .g (by decide) ?_
    refine AW.at_ (fun L hL => ?_)
    simp at hL
    subst hL
    refine AW.rc 10 fun K hK => ?_
    repeat (with_reducible refine .s fun X Y Z W => ?_; simp; (first | refine Z.out _ _ ?_ | refine W.out _ ?_ | refine ⟨by kernel_rfl, W.out _ ?_⟩); clear Z W X Y; simp); (try refine .n ?_)
    refine Jt.f hK ?_
    clear hK K
    with_reducible repeat first | refine Jt.i ?_ | refine .g (by decide) ?_
    refine AW.rc 20 fun K hK => ?_
    repeat (with_reducible refine .s fun X Y Z W => ?_; simp; (first | refine Z.out _ _ ?_ | refine W.out _ ?_ | refine ⟨by kernel_rfl, W.out _ ?_⟩); clear Z W X Y; simp); (try refine .n ?_)
    refine .s fun K1 K2 hK1 hK2 => ?_
    simp
    refine hatch_nilp rfl ?_
    refine hK1.out _ _ ?_
    clear hK1 hK2 K1 K2
    (try simp)
    repeat (with_reducible refine .s fun X Y Z W => ?_; simp; (first | refine Z.out _ _ ?_ | refine W.out _ ?_ | refine ⟨by kernel_rfl, W.out _ ?_⟩); clear Z W X Y; simp); (try refine .n ?_)
    refine .s fun K1 K2 hK1 hK2 => ?_
    simp
    first | refine ⟨0, _, rfl, rfl, ?_⟩ | refine orr_l ⟨0, _, rfl, rfl, ?_⟩
    refine hK1.out _ _ ?_
    clear hK1 hK2 K1 K2
    (try simp)
    repeat (with_reducible refine .s fun X Y Z W => ?_; simp; (first | refine Z.out _ _ ?_ | refine W.out _ ?_ | refine ⟨by kernel_rfl, W.out _ ?_⟩); clear Z W X Y; simp); (try refine .n ?_)
    refine .s fun K1 K2 hK1 hK2 => ?_
    simp
    first | refine ⟨0, _, rfl, rfl, ?_⟩ | refine orr_l ⟨0, _, rfl, rfl, ?_⟩
    refine hK1.out _ _ ?_
    clear hK1 hK2 K1 K2
    (try simp)
    repeat (with_reducible refine .s fun X Y Z W => ?_; simp; (first | refine Z.out _ _ ?_ | refine W.out _ ?_ | refine ⟨by kernel_rfl, W.out _ ?_⟩); clear Z W X Y; simp); (try refine .n ?_)
    refine .s fun K1 K2 hK1 hK2 => ?_
    simp
    refine hatch_nilp rfl ?_
    refine hK1.out _ _ ?_
    clear hK1 hK2 K1 K2
    (try simp)
    repeat (with_reducible refine .s fun X Y Z W => ?_; simp; (first | refine Z.out _ _ ?_ | refine W.out _ ?_ | refine ⟨by kernel_rfl, W.out _ ?_⟩); clear Z W X Y; simp); (try refine .n ?_)
    refine .s fun K1 K2 hK1 hK2 => ?_
    simp
    first | refine ⟨0, _, rfl, rfl, ?_⟩ | refine orr_l ⟨0, _, rfl, rfl, ?_⟩
    refine hK1.out _ _ ?_
    clear hK1 hK2 K1 K2
    (try simp)
    repeat (with_reducible refine .s fun X Y Z W => ?_; simp; (first | refine Z.out _ _ ?_ | refine W.out _ ?_ | refine ⟨by kernel_rfl, W.out _ ?_⟩); clear Z W X Y; simp); (try refine .n ?_)
    refine ⟨chk_drawn (by kernel_rfl) (by kernel_rfl), hK.out _ ?_⟩
    clear hK K
    with_reducible repeat first | refine Jt.i ?_ | refine .g (by decide) ?_
    refine AW.loop (X := { s : List Hd × Nat // s.1.length ≤ 500 ∧ GoodH s.1 ∧ pairsH s.1 ≤ s.2 ∧ takeN s.2 p s.1 = R }) (fun s => tkS s.1.1 p at_ ad fin) (fun s => s.1.2) ⟨((t, ad, p :: l) :: r, _), hn0, G0, Nat.le_refl _, hR'.symm⟩ (view_of (vw [(2, 36), (3, 10)] [(900, [200001]), (901, [])] [] [(900, some 200001)]) (by simp [tkS])) (fun x => ?_)
    clear hne0 hn0 G0 hf hR'
    obtain ⟨⟨hs, n⟩, hl, G, hf, hR⟩ := x
    simp only at hl G hf hR
    cases hs with
    | nil =>
      rw [takeN_nil] at hR
      subst hR
      refine AW.at_ (fun L hL => ?_)
      simp [tkS] at hL
      subst hL
      with_reducible repeat first | refine Jt.i ?_ | refine .g (by decide) ?_
      refine AW.rc 100 fun K hK => ?_
      repeat (with_reducible refine .s fun X Y Z W => ?_; simp; (first | refine Z.out _ _ ?_ | refine W.out _ ?_ | refine ⟨by kernel_rfl, W.out _ ?_⟩); clear Z W X Y; simp); (try refine .n ?_)
      refine .s fun K1 K2 hK1 hK2 => ?_
      simp
      refine hatch_nilp rfl ?_
      refine hK1.out _ _ ?_
      clear hK1 hK2 K1 K2
      (try simp)
      repeat (with_reducible refine .s fun X Y Z W => ?_; simp; (first | refine Z.out _ _ ?_ | refine W.out _ ?_ | refine ⟨by kernel_rfl, W.out _ ?_⟩); clear Z W X Y; simp); (try refine .n ?_)
      refine ⟨chk_drawn (by kernel_rfl) (by kernel_rfl), hK.out _ ?_⟩
      clear hK K
      with_reducible repeat first | refine Jt.i ?_ | refine .g (by decide) ?_
      refine AW.cf rfl ?_
      with_reducible repeat first | refine Jt.i ?_ | refine .g (by decide) ?_
      refine AW.keep 7 (fun L hL => ?_)
      simp only [keepT_nil, keepT_tmp, keepT_vt, keepT_cell, keepT_zn, keepT_nm, keepT_hd, keepT_sz, keepT_df, if_true, if_false, Nat.reduceLT, reduceIte] at hL
      subst hL
      refine AW.rc 150 fun K hK => ?_
      repeat (with_reducible refine .s fun X Y Z W => ?_; simp; (first | refine Z.out _ _ ?_ | refine W.out _ ?_ | refine ⟨by kernel_rfl, W.out _ ?_⟩); clear Z W X Y; simp); (try refine .n ?_)
      refine Jt.f hK ?_
      clear hK K
      with_reducible repeat first | refine Jt.i ?_ | refine .g (by decide) ?_
      refine nx_kz (yo := ?_) (zs := ?_) (r := ?_) ty (by first | exact .inl rfl | exact .inr rfl) rfl rfl rfl rfl rfl rfl ⟨rfl, rfl, ?_⟩ ?_
      rotate_left 3
      · rfl
      · rfl
    | cons y s =>
      obtain ⟨t', a', rs⟩ := y
      have hne := G.ne _ List.mem_cons_self
      cases rs with
      | nil => exact absurd rfl hne
      | cons q l' =>
        have hfq : fstH (t', a', q :: l') = q := rfl
        have g1 : (0 : Int) < (s.length : Int) + 1 := by omega
        refine AW.at_ (fun L hL => ?_)
        simp [tkS] at hL
        subst hL
        with_reducible repeat first | refine Jt.i ?_ | refine .g (by decide) ?_
        by_cases hq : q = p
        · subst hq
          have hp := takeStep_pairs G.heap (G.ne _ List.mem_cons_self)
          obtain ⟨m, rfl⟩ : ∃ m, n = m + 1 := ⟨n - 1, by omega⟩
          rw [takeN_eq hfq] at hR
          have Gx := takeStep_good G
          obtain ⟨_, pm, _⟩ := popH_spec G.heap
          have hpl := pm.length_eq
          have c1 := ppop_kz (t', a', q :: l') s at_ fin hl G.ne G.heap
          cases l' with
          | nil =>
            have ts : takeStep ((t', a', [q]) :: s) = popH ((t', a', [q]) :: s) := rfl
            rw [ts] at hR Gx hp
            generalize popH ((t', a', [q]) :: s) = S at *
            refine AW.rc 100 fun K hK => ?_
            repeat (with_reducible refine .s fun X Y Z W => ?_; simp [g1]; (first | refine Z.out _ _ ?_ | refine W.out _ ?_ | refine ⟨by kernel_rfl, W.out _ ?_⟩); clear Z W X Y; simp [g1]); (try refine .n ?_)
            refine .s fun K1 K2 hK1 hK2 => ?_
            simp [g1]
            refine hatch_nilp rfl ?_
            refine hK1.out _ _ ?_
            clear hK1 hK2 K1 K2
            (try simp [g1])
            repeat (with_reducible refine .s fun X Y Z W => ?_; simp [g1]; (first | refine Z.out _ _ ?_ | refine W.out _ ?_ | refine ⟨by kernel_rfl, W.out _ ?_⟩); clear Z W X Y; simp [g1]); (try refine .n ?_)
            refine .s fun K1 K2 hK1 hK2 => ?_
            simp [g1]
            refine hatch_nilp rfl ?_
            refine hK1.out _ _ ?_
            clear hK1 hK2 K1 K2
            (try simp [g1])
            repeat (with_reducible refine .s fun X Y Z W => ?_; simp [g1]; (first | refine Z.out _ _ ?_ | refine W.out _ ?_ | refine ⟨by kernel_rfl, W.out _ ?_⟩); clear Z W X Y; simp [g1]); (try refine .n ?_)
            refine .s fun K1 K2 hK1 hK2 => ?_
            simp [g1]
            first | refine ⟨0, _, rfl, rfl, ?_⟩ | refine orr_l ⟨0, _, rfl, rfl, ?_⟩
            refine hK1.out _ _ ?_
            clear hK1 hK2 K1 K2
            (try simp [g1])
            repeat (with_reducible refine .s fun X Y Z W => ?_; simp [g1]; (first | refine Z.out _ _ ?_ | refine W.out _ ?_ | refine ⟨by kernel_rfl, W.out _ ?_⟩); clear Z W X Y; simp [g1]); (try refine .n ?_)
            refine .s fun K1 K2 hK1 hK2 => ?_
            simp [g1]
            first | refine ⟨0, _, rfl, rfl, ?_⟩ | refine orr_l ⟨0, _, rfl, rfl, ?_⟩
            refine hK1.out _ _ ?_
            clear hK1 hK2 K1 K2
            (try simp [g1])
            repeat (with_reducible refine .s fun X Y Z W => ?_; simp [g1]; (first | refine Z.out _ _ ?_ | refine W.out _ ?_ | refine ⟨by kernel_rfl, W.out _ ?_⟩); clear Z W X Y; simp [g1]); (try refine .n ?_)
            refine .s fun K1 K2 hK1 hK2 => ?_
            simp [g1]
            refine sba_eql q q (decide_eq_true rfl) ?_
            refine hK1.out _ _ ?_
            clear hK1 hK2 K1 K2
            (try simp [g1])
            repeat (with_reducible refine .s fun X Y Z W => ?_; simp [g1]; (first | refine Z.out _ _ ?_ | refine W.out _ ?_ | refine ⟨by kernel_rfl, W.out _ ?_⟩); clear Z W X Y; simp [g1]); (try refine .n ?_)
            refine ⟨chk_drawn (by kernel_rfl) (by kernel_rfl), hK.out _ ?_⟩
            clear hK K
            with_reducible repeat first | refine Jt.i ?_ | refine .g (by decide) ?_
            refine AW.ct rfl ?_
            with_reducible repeat first | refine Jt.i ?_ | refine .g (by decide) ?_
            refine AW.keep 7 (fun L hL => ?_)
            simp only [keepT_nil, keepT_tmp, keepT_vt, keepT_cell, keepT_zn, keepT_nm, keepT_hd, keepT_sz, keepT_df, if_true, if_false, Nat.reduceLT, reduceIte] at hL
            subst hL
            refine AW.rc 130 fun K hK => ?_
            repeat (with_reducible refine .s fun X Y Z W => ?_; simp; (first | refine Z.out _ _ ?_ | refine W.out _ ?_ | refine ⟨by kernel_rfl, W.out _ ?_⟩); clear Z W X Y; simp); (try refine .n ?_)
            refine .s fun K1 K2 hK1 hK2 => ?_
            simp
            refine hatch_nilp rfl ?_
            refine hK1.out _ _ ?_
            clear hK1 hK2 K1 K2
            (try simp)
            repeat (with_reducible refine .s fun X Y Z W => ?_; simp; (first | refine Z.out _ _ ?_ | refine W.out _ ?_ | refine ⟨by kernel_rfl, W.out _ ?_⟩); clear Z W X Y; simp); (try refine .n ?_)
            refine .s fun K1 K2 hK1 hK2 => ?_
            simp
            refine hatch_mkifc make_hp rfl ?_
            refine hK1.out _ _ ?_
            clear hK1 hK2 K1 K2
            (try simp)
            repeat (with_reducible refine .s fun X Y Z W => ?_; simp; (first | refine Z.out _ _ ?_ | refine W.out _ ?_ | refine ⟨by kernel_rfl, W.out _ ?_⟩); clear Z W X Y; simp); (try refine .n ?_)
            refine .s fun K1 K2 hK1 hK2 => ?_
            try simp
            refine orr_r (orr_r (hatch_kz (κ := .ifc 128) (fun a w g h => run_val h rfl rfl w) c1 ⟨rfl, rfl, rfl, rfl, rfl, rfl, rfl, rfl, rfl⟩ ?_))
            refine hK1.out _ _ ?_
            clear hK1 hK2 K1 K2
            (try simp)
            repeat (with_reducible refine .s fun X Y Z W => ?_; simp; (first | refine Z.out _ _ ?_ | refine W.out _ ?_ | refine ⟨by kernel_rfl, W.out _ ?_⟩); clear Z W X Y; simp); (try refine .n ?_)
            refine .s fun K1 K2 hK1 hK2 => ?_
            simp
            refine hatch_z (hatch_out assert_hd rfl rfl ?_)
            refine hK1.out _ _ ?_
            clear hK1 hK2 K1 K2
            (try simp)
            repeat (with_reducible refine .s fun X Y Z W => ?_; simp; (first | refine Z.out _ _ ?_ | refine W.out _ ?_ | refine ⟨by kernel_rfl, W.out _ ?_⟩); clear Z W X Y; simp); (try refine .n ?_)
            refine Jt.f hK ?_
            clear hK K
            with_reducible repeat first | refine Jt.i ?_ | refine .g (by decide) ?_
            refine AW.keep 7 (fun L hL => ?_)
            simp only [keepT_nil, keepT_tmp, keepT_vt, keepT_cell, keepT_zn, keepT_nm, keepT_hd, keepT_sz, keepT_df, if_true, if_false, Nat.reduceLT, reduceIte] at hL
            subst hL
            refine AW.rc 150 fun K hK => ?_
            repeat (with_reducible refine .s fun X Y Z W => ?_; simp; (first | refine Z.out _ _ ?_ | refine W.out _ ?_ | refine ⟨by kernel_rfl, W.out _ ?_⟩); clear Z W X Y; simp); (try refine .n ?_)
            refine .s fun K1 K2 hK1 hK2 => ?_
            simp
            refine slice_tail ?_
            refine hK1.out _ _ ?_
            clear hK1 hK2 K1 K2
            (try simp)
            repeat (with_reducible refine .s fun X Y Z W => ?_; simp; (first | refine Z.out _ _ ?_ | refine W.out _ ?_ | refine ⟨by kernel_rfl, W.out _ ?_⟩); clear Z W X Y; simp); (try refine .n ?_)
            refine Jt.f hK ?_
            clear hK K
            with_reducible repeat first | refine Jt.i ?_ | refine .g (by decide) ?_
            refine AW.keep 7 (fun L hL => ?_)
            simp only [keepT_nil, keepT_tmp, keepT_vt, keepT_cell, keepT_zn, keepT_nm, keepT_hd, keepT_sz, keepT_df, if_true, if_false, Nat.reduceLT, reduceIte] at hL
            subst hL
            refine AW.rc 170 fun K hK => ?_
            repeat (with_reducible refine .s fun X Y Z W => ?_; simp; (first | refine Z.out _ _ ?_ | refine W.out _ ?_ | refine ⟨by kernel_rfl, W.out _ ?_⟩); clear Z W X Y; simp); (try refine .n ?_)
            refine Jt.f hK ?_
            clear hK K
            with_reducible repeat first | refine Jt.i ?_ | refine .g (by decide) ?_
            refine AW.cf rfl ?_
            with_reducible repeat first | refine Jt.i ?_ | refine .g (by decide) ?_
            exact NX.round ⟨(S, m), by show S.length ≤ 500; simp at hl; omega, Gx, by show pairsH S ≤ m; omega, hR⟩ (by show m < m + 1; omega) (view_of (vw [(2, 2), (3, 3)] [(900, [200134]), (901, [901, 134])] [] [(900, some 200134)]) (by simp [tkS]))
          | cons u l' =>
            have ts : takeStep ((t', a', q :: u :: l') :: s) = pushL ltH (popH ((t', a', q :: u :: l') :: s)) (t', a', u :: l') := rfl
            rw [ts] at hR Gx hp
            have c2 := ppush_kz ⟨popH ((t', a', q :: u :: l') :: s), at_, fin⟩ (t', a', u :: l') (by simp only; simp at hl; omega) (fun x hx => G.ne x (List.mem_cons_of_mem _ (pm.mem_iff.1 hx))) (by simp)
            simp only at c2
            have psl := (pushL_perm (lt := ltH) (popH ((t', a', q :: u :: l') :: s)) (t', a', u :: l')).length_eq
            generalize pushL ltH (popH ((t', a', q :: u :: l') :: s)) (t', a', u :: l') = Sx at *
            generalize popH ((t', a', q :: u :: l') :: s) = S at *
            have g2 : (0 : Int) < (l'.length : Int) + 1 := by omega
            refine AW.rc 100 fun K hK => ?_
            repeat (with_reducible refine .s fun X Y Z W => ?_; simp [g1]; (first | refine Z.out _ _ ?_ | refine W.out _ ?_ | refine ⟨by kernel_rfl, W.out _ ?_⟩); clear Z W X Y; simp [g1]); (try refine .n ?_)
            refine .s fun K1 K2 hK1 hK2 => ?_
            simp [g1]
            refine hatch_nilp rfl ?_
            refine hK1.out _ _ ?_
            clear hK1 hK2 K1 K2
            (try simp [g1])
            repeat (with_reducible refine .s fun X Y Z W => ?_; simp [g1]; (first | refine Z.out _ _ ?_ | refine W.out _ ?_ | refine ⟨by kernel_rfl, W.out _ ?_⟩); clear Z W X Y; simp [g1]); (try refine .n ?_)
            refine .s fun K1 K2 hK1 hK2 => ?_
            simp [g1]
            refine hatch_nilp rfl ?_
            refine hK1.out _ _ ?_
            clear hK1 hK2 K1 K2
            (try simp [g1])
            repeat (with_reducible refine .s fun X Y Z W => ?_; simp [g1]; (first | refine Z.out _ _ ?_ | refine W.out _ ?_ | refine ⟨by kernel_rfl, W.out _ ?_⟩); clear Z W X Y; simp [g1]); (try refine .n ?_)
            refine .s fun K1 K2 hK1 hK2 => ?_
            simp [g1]
            first | refine ⟨0, _, rfl, rfl, ?_⟩ | refine orr_l ⟨0, _, rfl, rfl, ?_⟩
            refine hK1.out _ _ ?_
            clear hK1 hK2 K1 K2
            (try simp [g1])
            repeat (with_reducible refine .s fun X Y Z W => ?_; simp [g1]; (first | refine Z.out _ _ ?_ | refine W.out _ ?_ | refine ⟨by kernel_rfl, W.out _ ?_⟩); clear Z W X Y; simp [g1]); (try refine .n ?_)
            refine .s fun K1 K2 hK1 hK2 => ?_
            simp [g1]
            first | refine ⟨0, _, rfl, rfl, ?_⟩ | refine orr_l ⟨0, _, rfl, rfl, ?_⟩
            refine hK1.out _ _ ?_
            clear hK1 hK2 K1 K2
            (try simp [g1])
            repeat (with_reducible refine .s fun X Y Z W => ?_; simp [g1]; (first | refine Z.out _ _ ?_ | refine W.out _ ?_ | refine ⟨by kernel_rfl, W.out _ ?_⟩); clear Z W X Y; simp [g1]); (try refine .n ?_)
            refine .s fun K1 K2 hK1 hK2 => ?_
            simp [g1]
            refine sba_eql q q (decide_eq_true rfl) ?_
            refine hK1.out _ _ ?_
            clear hK1 hK2 K1 K2
            (try simp [g1])
            repeat (with_reducible refine .s fun X Y Z W => ?_; simp [g1]; (first | refine Z.out _ _ ?_ | refine W.out _ ?_ | refine ⟨by kernel_rfl, W.out _ ?_⟩); clear Z W X Y; simp [g1]); (try refine .n ?_)
            refine ⟨chk_drawn (by kernel_rfl) (by kernel_rfl), hK.out _ ?_⟩
            clear hK K
            with_reducible repeat first | refine Jt.i ?_ | refine .g (by decide) ?_
            refine AW.ct rfl ?_
            with_reducible repeat first | refine Jt.i ?_ | refine .g (by decide) ?_
            refine AW.keep 7 (fun L hL => ?_)
            simp only [keepT_nil, keepT_tmp, keepT_vt, keepT_cell, keepT_zn, keepT_nm, keepT_hd, keepT_sz, keepT_df, if_true, if_false, Nat.reduceLT, reduceIte] at hL
            subst hL
            refine AW.rc 130 fun K hK => ?_
            repeat (with_reducible refine .s fun X Y Z W => ?_; simp; (first | refine Z.out _ _ ?_ | refine W.out _ ?_ | refine ⟨by kernel_rfl, W.out _ ?_⟩); clear Z W X Y; simp); (try refine .n ?_)
            refine .s fun K1 K2 hK1 hK2 => ?_
            simp
            refine hatch_nilp rfl ?_
            refine hK1.out _ _ ?_
            clear hK1 hK2 K1 K2
            (try simp)
            repeat (with_reducible refine .s fun X Y Z W => ?_; simp; (first | refine Z.out _ _ ?_ | refine W.out _ ?_ | refine ⟨by kernel_rfl, W.out _ ?_⟩); clear Z W X Y; simp); (try refine .n ?_)
            refine .s fun K1 K2 hK1 hK2 => ?_
            simp
            refine hatch_mkifc make_hp rfl ?_
            refine hK1.out _ _ ?_
            clear hK1 hK2 K1 K2
            (try simp)
            repeat (with_reducible refine .s fun X Y Z W => ?_; simp; (first | refine Z.out _ _ ?_ | refine W.out _ ?_ | refine ⟨by kernel_rfl, W.out _ ?_⟩); clear Z W X Y; simp); (try refine .n ?_)
            refine .s fun K1 K2 hK1 hK2 => ?_
            try simp
            refine orr_r (orr_r (hatch_kz (κ := .ifc 128) (fun a w g h => run_val h rfl rfl w) c1 ⟨rfl, rfl, rfl, rfl, rfl, rfl, rfl, rfl, rfl⟩ ?_))
            refine hK1.out _ _ ?_
            clear hK1 hK2 K1 K2
            (try simp)
            repeat (with_reducible refine .s fun X Y Z W => ?_; simp; (first | refine Z.out _ _ ?_ | refine W.out _ ?_ | refine ⟨by kernel_rfl, W.out _ ?_⟩); clear Z W X Y; simp); (try refine .n ?_)
            refine .s fun K1 K2 hK1 hK2 => ?_
            simp
            refine hatch_z (hatch_out assert_hd rfl rfl ?_)
            refine hK1.out _ _ ?_
            clear hK1 hK2 K1 K2
            (try simp)
            repeat (with_reducible refine .s fun X Y Z W => ?_; simp; (first | refine Z.out _ _ ?_ | refine W.out _ ?_ | refine ⟨by kernel_rfl, W.out _ ?_⟩); clear Z W X Y; simp); (try refine .n ?_)
            refine Jt.f hK ?_
            clear hK K
            with_reducible repeat first | refine Jt.i ?_ | refine .g (by decide) ?_
            refine AW.keep 7 (fun L hL => ?_)
            simp only [keepT_nil, keepT_tmp, keepT_vt, keepT_cell, keepT_zn, keepT_nm, keepT_hd, keepT_sz, keepT_df, if_true, if_false, Nat.reduceLT, reduceIte] at hL
            subst hL
            refine AW.rc 150 fun K hK => ?_
            repeat (with_reducible refine .s fun X Y Z W => ?_; simp; (first | refine Z.out _ _ ?_ | refine W.out _ ?_ | refine ⟨by kernel_rfl, W.out _ ?_⟩); clear Z W X Y; simp); (try refine .n ?_)
            refine .s fun K1 K2 hK1 hK2 => ?_
            simp
            refine slice_tail ?_
            refine hK1.out _ _ ?_
            clear hK1 hK2 K1 K2
            (try simp)
            repeat (with_reducible refine .s fun X Y Z W => ?_; simp; (first | refine Z.out _ _ ?_ | refine W.out _ ?_ | refine ⟨by kernel_rfl, W.out _ ?_⟩); clear Z W X Y; simp); (try refine .n ?_)
            refine Jt.f hK ?_
            clear hK K
            with_reducible repeat first | refine Jt.i ?_ | refine .g (by decide) ?_
            refine AW.keep 7 (fun L hL => ?_)
            simp only [keepT_nil, keepT_tmp, keepT_vt, keepT_cell, keepT_zn, keepT_nm, keepT_hd, keepT_sz, keepT_df, if_true, if_false, Nat.reduceLT, reduceIte] at hL
            subst hL
            refine AW.rc 170 fun K hK => ?_
            repeat (with_reducible refine .s fun X Y Z W => ?_; simp [g2]; (first | refine Z.out _ _ ?_ | refine W.out _ ?_ | refine ⟨by kernel_rfl, W.out _ ?_⟩); clear Z W X Y; simp [g2]); (try refine .n ?_)
            refine Jt.f hK ?_
            clear hK K
            with_reducible repeat first | refine Jt.i ?_ | refine .g (by decide) ?_
            refine AW.ct rfl ?_
            with_reducible repeat first | refine Jt.i ?_ | refine .g (by decide) ?_
            refine AW.keep 7 (fun L hL => ?_)
            simp only [keepT_nil, keepT_tmp, keepT_vt, keepT_cell, keepT_zn, keepT_nm, keepT_hd, keepT_sz, keepT_df, if_true, if_false, Nat.reduceLT, reduceIte] at hL
            subst hL
            refine AW.rc 180 fun K hK => ?_
            repeat (with_reducible refine .s fun X Y Z W => ?_; simp; (first | refine Z.out _ _ ?_ | refine W.out _ ?_ | refine ⟨by kernel_rfl, W.out _ ?_⟩); clear Z W X Y; simp); (try refine .n ?_)
            refine .s fun K1 K2 hK1 hK2 => ?_
            simp
            refine hatch_nilp rfl ?_
            refine hK1.out _ _ ?_
            clear hK1 hK2 K1 K2
            (try simp)
            repeat (with_reducible refine .s fun X Y Z W => ?_; simp; (first | refine Z.out _ _ ?_ | refine W.out _ ?_ | refine ⟨by kernel_rfl, W.out _ ?_⟩); clear Z W X Y; simp); (try refine .n ?_)
            refine .s fun K1 K2 hK1 hK2 => ?_
            simp
            refine hatch_mkifc make_hp rfl ?_
            refine hK1.out _ _ ?_
            clear hK1 hK2 K1 K2
            (try simp)
            repeat (with_reducible refine .s fun X Y Z W => ?_; simp; (first | refine Z.out _ _ ?_ | refine W.out _ ?_ | refine ⟨by kernel_rfl, W.out _ ?_⟩); clear Z W X Y; simp); (try refine .n ?_)
            refine .s fun K1 K2 hK1 hK2 => ?_
            simp
            refine hatch_z (hatch_ifa [0, 901, 134] make_hd rfl rfl rfl rfl ?_)
            refine hK1.out _ _ ?_
            clear hK1 hK2 K1 K2
            (try simp)
            repeat (with_reducible refine .s fun X Y Z W => ?_; simp; (first | refine Z.out _ _ ?_ | refine W.out _ ?_ | refine ⟨by kernel_rfl, W.out _ ?_⟩); clear Z W X Y; simp); (try refine .n ?_)
            refine .s fun K1 K2 hK1 hK2 => ?_
            try simp
            refine orr_r (orr_r (hatch_kz (κ := .ifc 128) (fun a w g h => run_val h rfl rfl w) c2 ⟨rfl, rfl, rfl, rfl, rfl, rfl, rfl, rfl, rfl⟩ ?_))
            refine hK1.out _ _ ?_
            clear hK1 hK2 K1 K2
            (try simp)
            repeat (with_reducible refine .s fun X Y Z W => ?_; simp; (first | refine Z.out _ _ ?_ | refine W.out _ ?_ | refine ⟨by kernel_rfl, W.out _ ?_⟩); clear Z W X Y; simp); (try refine .n ?_)
            refine ⟨chk_drawn (by kernel_rfl) (by kernel_rfl), hK.out _ ?_⟩
            clear hK K
            with_reducible repeat first | refine Jt.i ?_ | refine .g (by decide) ?_
            exact NX.round ⟨(Sx, m), by show Sx.length ≤ 500; simp at hl psl; omega, Gx, by show pairsH Sx ≤ m; omega, hR⟩ (by show m < m + 1; omega) (view_of (vw [(2, 2), (3, 3)] [(900, [200186]), (901, [901, 134, 186])] [] [(900, some 200186)]) (by simp [tkS]))
        · rw [takeN_ne (by rw [hfq]; exact hq)] at hR
          subst hR
          refine AW.rc 100 fun K hK => ?_
          repeat (with_reducible refine .s fun X Y Z W => ?_; simp [g1]; (first | refine Z.out _ _ ?_ | refine W.out _ ?_ | refine ⟨by kernel_rfl, W.out _ ?_⟩); clear Z W X Y; simp [g1]); (try refine .n ?_)
          refine .s fun K1 K2 hK1 hK2 => ?_
          simp [g1]
          refine hatch_nilp rfl ?_
          refine hK1.out _ _ ?_
          clear hK1 hK2 K1 K2
          (try simp [g1])
          repeat (with_reducible refine .s fun X Y Z W => ?_; simp [g1]; (first | refine Z.out _ _ ?_ | refine W.out _ ?_ | refine ⟨by kernel_rfl, W.out _ ?_⟩); clear Z W X Y; simp [g1]); (try refine .n ?_)
          refine .s fun K1 K2 hK1 hK2 => ?_
          simp [g1]
          refine hatch_nilp rfl ?_
          refine hK1.out _ _ ?_
          clear hK1 hK2 K1 K2
          (try simp [g1])
          repeat (with_reducible refine .s fun X Y Z W => ?_; simp [g1]; (first | refine Z.out _ _ ?_ | refine W.out _ ?_ | refine ⟨by kernel_rfl, W.out _ ?_⟩); clear Z W X Y; simp [g1]); (try refine .n ?_)
          refine .s fun K1 K2 hK1 hK2 => ?_
          simp [g1]
          first | refine ⟨0, _, rfl, rfl, ?_⟩ | refine orr_l ⟨0, _, rfl, rfl, ?_⟩
          refine hK1.out _ _ ?_
          clear hK1 hK2 K1 K2
          (try simp [g1])
          repeat (with_reducible refine .s fun X Y Z W => ?_; simp [g1]; (first | refine Z.out _ _ ?_ | refine W.out _ ?_ | refine ⟨by kernel_rfl, W.out _ ?_⟩); clear Z W X Y; simp [g1]); (try refine .n ?_)
          refine .s fun K1 K2 hK1 hK2 => ?_
          simp [g1]
          first | refine ⟨0, _, rfl, rfl, ?_⟩ | refine orr_l ⟨0, _, rfl, rfl, ?_⟩
          refine hK1.out _ _ ?_
          clear hK1 hK2 K1 K2
          (try simp [g1])
          repeat (with_reducible refine .s fun X Y Z W => ?_; simp [g1]; (first | refine Z.out _ _ ?_ | refine W.out _ ?_ | refine ⟨by kernel_rfl, W.out _ ?_⟩); clear Z W X Y; simp [g1]); (try refine .n ?_)
          refine .s fun K1 K2 hK1 hK2 => ?_
          simp [g1]
          refine sba_eql q p (decide_eq_false hq) ?_
          refine hK1.out _ _ ?_
          clear hK1 hK2 K1 K2
          (try simp [g1])
          repeat (with_reducible refine .s fun X Y Z W => ?_; simp [g1]; (first | refine Z.out _ _ ?_ | refine W.out _ ?_ | refine ⟨by kernel_rfl, W.out _ ?_⟩); clear Z W X Y; simp [g1]); (try refine .n ?_)
          refine ⟨chk_drawn (by kernel_rfl) (by kernel_rfl), hK.out _ ?_⟩
          clear hK K
          with_reducible repeat first | refine Jt.i ?_ | refine .g (by decide) ?_
          refine AW.cf rfl ?_
          with_reducible repeat first | refine Jt.i ?_ | refine .g (by decide) ?_
          refine AW.keep 7 (fun L hL => ?_)
          simp only [keepT_nil, keepT_tmp, keepT_vt, keepT_cell, keepT_zn, keepT_nm, keepT_hd, keepT_sz, keepT_df, if_true, if_false, Nat.reduceLT, reduceIte] at hL
          subst hL
          refine AW.rc 150 fun K hK => ?_
          repeat (with_reducible refine .s fun X Y Z W => ?_; simp [g1]; (first | refine Z.out _ _ ?_ | refine W.out _ ?_ | refine ⟨by kernel_rfl, W.out _ ?_⟩); clear Z W X Y; simp [g1]); (try refine .n ?_)
          refine Jt.f hK ?_
          clear hK K
          with_reducible repeat first | refine Jt.i ?_ | refine .g (by decide) ?_
          refine nx_kz (yo := ?_) (zs := ?_) (r := ?_) ty (by first | exact .inl rfl | exact .inr rfl) rfl rfl rfl rfl rfl rfl ⟨rfl, rfl, ?_⟩ ?_
          rotate_left 3
          · rfl
          · rfl
end Go.Proofs.Ytlkdkhmdmgchbaa
