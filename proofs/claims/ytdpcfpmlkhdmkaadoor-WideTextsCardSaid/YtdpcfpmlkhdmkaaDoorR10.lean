/- the document's Text. -/
import Derived.Test.YtdpcfpmlkhdmkaaDoorR9
import Derived.Laws.OwnMore
import Derived.Lib.SmallJoins
namespace Go.Proofs.YtdpcfpmlkhdmkaaDoor
open Go.RowKit

theorem rdig_fuel : ∀ f n, n < 10 ^ (f + 1) → rdig (f + 2) n = rdig (f + 1) n
  | 0, n, h => by
    have e : n / 10 = 0 := by omega
    show rdig (1 + 1) n = rdig (0 + 1) n
    rw [rdig_succ 1 n, rdig_succ 0 n, if_pos e, if_pos e]
  | f + 1, n, h => by
    show rdig (f + 2 + 1) n = rdig (f + 1 + 1) n
    rw [rdig_succ (f + 2) n, rdig_succ (f + 1) n]
    split
    · rfl
    · rw [rdig_fuel f (n / 10) (by rw [Nat.pow_succ] at h; omega)]
def txt (n : Nat) : List UInt8 := if n = 0 then [] else rdig 39 n
theorem txt_step (n : Nat) (h0 : n ≠ 0) (h : n < 10 ^ 39) : txt n = txt (n / 10) ++ [UInt8.ofNat (48 + n % 10)] := by
  unfold txt
  rw [if_neg h0, ← rdig_fuel 38 n h, rdig_succ]

theorem txt_len (n : Nat) : (txt n).length ≤ 39 := by
  unfold txt
  split
  · simp
  · unfold rdig
    simpa using digs_len 39 n
theorem size_str1 (d : Int) : (strOf [d]).size = 1 := rfl

theorem app_row {ops : Array Oper} {rest : List Oper} {o : Oper} {a : Act} {Q : Exit → Act → World → Prop} (hgd : o.guard = none) (s x : Operand)
    (ho : o.op = .call { callee := .builtin .append, args := #[s, x], argTypes := #[25, 25] }) {w : World} (B : Nat) (vs v : Value) (ls l : List Int)
    (hs : a.eval s = vs) (hx : a.eval x = v) (own : Own B w vs ls) (hr : Row w v l) (hB : B ≤ w.heap.size) (hlen : ls.length + l.length ≤ 1000000)
    (h : ∀ v' w1, Own B w1 v' (ls ++ l) → Below B w w1 → wpList Tryd.prog ops Q rest (a.put o.dst v') w1) : wpList Tryd.prog ops Q (o :: rest) a w := by
  obtain ⟨i, hi, hz0, hz1, hz2⟩ := info23'
  rcases hr with ⟨rfl, rfl⟩ | ⟨g, cap, rfl, h1, h2, h3⟩
  · refine wpList_append_own_none hgd s x 25 ho B 23 i 1 Tryd.underlying25 hi _ _ _ hs own hx ?_
    exact h _ _ (by rw [List.append_nil]; exact own) (Below.refl _ _)
  · refine wpList_append_own _ hgd s x 25 ho B 23 i (.int .u64 0) 1 8 Tryd.underlying25 hi hz0 hz1 hz2 rfl (by decide) _ _ _ hs own ⟨g, 0, none⟩ l.length cap (l.map (Value.int .u64)) hx (by simp) ?_ ?_ ?_ ?_ hB ?_
    · intro j u hj
      have hadd : (⟨g, 0, none⟩ : Addr).add j = ⟨g, j, none⟩ := by unfold Addr.add; split <;> simp_all
      rw [hadd]
      rw [List.getElem?_map, Option.map_eq_some_iff] at hj
      obtain ⟨y, hy, rfl⟩ := hj
      exact h3 j y hy
    · intro u hu
      rw [List.mem_map] at hu
      obtain ⟨y, _, rfl⟩ := hu
      rfl
    · unfold maxLen; omega
    · omega
    · intro v' w1 h4 h5 _
      refine h v' w1 ?_ ?_
      · unfold Own
        simpa using h4
      · refine ⟨h5.os, h5.tape, h5.output, h5.size, fun k hk => h5.block k (by omega) ?_⟩
        intro e
        have := World.ownsRow.lt own k e.symm
        omega
theorem Own.form {B : Nat} {w : World} {v : Value} {l : List Int} (h : Own B w v l) (hl : 0 < l.length) : ∃ g cap : Nat, v = .slice (some ⟨g, 0, none⟩) l.length cap ∧ B ≤ g ∧ g < w.heap.size := by
  rcases h.2 with ⟨_, h0⟩ | ⟨g, cap, cur, e, hb, hg, _⟩
  · omega
  · exact ⟨g, cap, e, hb, (Array.getElem?_eq_some_iff.1 hg).1⟩

def blkOf (v : Value) : Nat := match v with | .slice (some a) _ _ => a.block | _ => 0
/-- the number that a slice reads as. -/
def rowNum (v : Value) (w : World) : Nat := (numD ((List.range (sliceLen v)).map fun j => cellInt (w.cell? ⟨blkOf v, j, none⟩))).toNat
theorem Num.rowNum {w : World} {v : Value} {m : Nat} (h : Num w v (m : Int)) : rowNum v w = m := by
  obtain ⟨l, hr, -, -, e⟩ := h
  have : (List.range (sliceLen v)).map (fun j => cellInt (w.cell? ⟨blkOf v, j, none⟩)) = l := by
    rcases hr with ⟨rfl, rfl⟩ | ⟨g, cap, rfl, _, _, hx⟩
    · rfl
    · refine List.ext_getElem (by simp [sliceLen]) fun j h1 h2 => ?_
      simp only [List.getElem_map, List.getElem_range, blkOf]
      rw [hx j _ (List.getElem?_eq_getElem h2)]
      rfl
  unfold Go.Proofs.YtdpcfpmlkhdmkaaDoor.rowNum
  rw [this, e]; rfl

structure DivI (B : Nat) (W1 : World) (v6 : Value) (l nx : List Int) (left : Int) (v5 v7 : Value) (k : Nat) (wr : World) : Prop where
  e5 : v5 = (.int .u64 (left))
  e7 : v7 = (.int .i64 ((k : Int) - 1))
  hk : k ≤ l.length
  l0 : 0 ≤ left
  l1 : left < 10
  own : Own B wr v6 nx
  len : nx.length = l.length
  dg : Digs nx
  sum : numD (nx.drop k) * 10 + left = numD (l.drop k)
  bel : Below B W1 wr
theorem DivI.next {B : Nat} {W1 wr : World} {l nx : List Int} {left : Int} {v5 v7 : Value} {k g cap : Nat} (h : DivI B W1 (.slice (some ⟨g, 0, none⟩) l.length cap) l nx left v5 v7 (k + 1) wr) (hl : Digs l) (hg : B ≤ g) :
    DivI B W1 (.slice (some ⟨g, 0, none⟩) l.length cap) l (nx.set k ((left * 65536 + l.getD k 0) / 10)) ((left * 65536 + l.getD k 0) % 10) (.int .u64 ((left * 65536 + l.getD k 0) % 10)) (.int .i64 ((k : Int) - 1)) k (wr.setCell ⟨g, k, none⟩ (.int .u64 ((left * 65536 + l.getD k 0) / 10))) := by
  have a1 := hl.at k
  have l0 := h.l0
  have l1 := h.l1
  have hk := h.hk
  have hkl : k < l.length := by omega
  have len := h.len
  obtain ⟨x, hx⟩ : ∃ x, (left * 65536 + l.getD k 0) / 10 = x := ⟨_, rfl⟩
  refine ⟨rfl, rfl, by omega, by omega, by omega, ?_, by simp [len], ?_, ?_, ?_⟩
  · have q := h.own
    unfold Own at q ⊢
    rw [len] at q
    have := (World.ownsRow.stored q k (.int .u64 ((left * 65536 + l.getD k 0) / 10))).1
    rw [List.length_set, len, List.map_set]
    exact this
  · intro d hd
    rcases List.mem_or_eq_of_mem_set hd with h1 | h1
    · exact h.dg d h1
    · rw [h1]; omega
  · have e1 : (nx.set k ((left * 65536 + l.getD k 0) / 10)).drop k = ((left * 65536 + l.getD k 0) / 10) :: nx.drop (k + 1) := by
      rw [List.drop_eq_getElem_cons (by simp; omega)]
      simp [List.drop_set]
    rw [e1, numD, numD_drop l k hkl]
    have := h.sum
    generalize l.getD k 0 = y at *
    omega
  · exact h.bel.setCell (p := ⟨g, k, none⟩) hg _

theorem byte_conv (b : Nat) (d : Int) (w : World) (h : w.cell? ⟨b, 0, none⟩ = some (.int .u8 d)) :
    (convert 73 9 (.slice (some ⟨b, 0, none⟩) 1 1)).run Tryd.prog w = .ok (.string (strOf [d])) w := by
  rw [run_convert_bytes_string w 73 9 5 _ _ _ Tryd.underlying73 Tryd.underlying5 Tryd.underlying9]
  refine run_bytesToString w _ _ _ [d] ?_
  have := run_loadCells_list (P := Tryd.prog) (w := w) ⟨b, 0, none⟩ ([d].map (Value.int .u8)) ?_
  · simpa using this
  · intro j v hj
    match j, hj with
    | 0, hj => simp at hj; subst hj; simpa [Addr.add] using h
    | j + 1, hj => simp at hj

set_option maxRecDepth 100000 in
set_option maxHeartbeats 2000000 in
theorem reftext_any (a b : Int) (n : Nat) (w : World) (ua : U64 a) (ub : U64 b) (hn : W128 a b = n) : Calls Tryd.prog 26 #[.agg #[(.int .u64 (a)), (.int .u64 (b))]] w fun e w' => e = .returned (.string (textOf n)) ∧ Below w.heap.size w w' := by
  have HLT := hid (MM_39 (n := n) (by rw [← hn]; exact (W128.lt ua ub).2))
  have HN := hid hn; clear hn
  have hbc := fun b d w h => byte_conv b d w h
  go_enter Tryd.func26, Tryd.ntmps26
  go_wp2_with fail
  refine (rdigits_any a b _ ua ub).mono ?_
  rintro e w1 ⟨⟨v1, rfl, n1⟩, B⟩
  rw [HN.out] at n1
  have N1 := hid n1; clear n1
  have BEL := hid (blift B)
  clear B
  go_wp2_with fail
  go_loopw [3, 4] (fun v3 v4 wr => ∃ (m : Nat) (out : ByteArray), v4 = .string out ∧ Hid (Num wr v3 (m : Int)) ∧ Hid (m < 10 ^ 39 ∧ txt m ++ out.data.toList = txt n) ∧ Hid (Below w.heap.size w wr)) (fun v3 _ wr => rowNum v3 wr)
  case atStart => exact ⟨n, ByteArray.empty, rfl, N1, ⟨HLT.out, by rw [show ByteArray.empty.data.toList = [] from rfl]; simp⟩, BEL⟩
  case round =>
    clear N1 BEL
    obtain ⟨m, out, rfl, N3, TX, BEL⟩ := hrel
    obtain ⟨l, row, dg, tr, hm⟩ := N3.out
    obtain ⟨p, cap, rfl⟩ := row.form
    have ROW := hid row; have DG := hid dg; have TR := hid tr; have HM := hid hm
    clear row dg tr hm
    by_cases h0 : l.length = 0
    · have hl0 : l = [] := List.length_eq_zero_iff.1 h0
      have hm0 : m = 0 := by have := HM.out; rw [hl0] at this; simp [numD] at this; omega
      have TX2 : Hid (out.data.toList = txt n) := by show _ = _; have := TX.out.2; rw [hm0] at this; simpa [txt] using this
      have hn0 : ¬ (0 : Int) < (l.length : Int) := by omega
      clear hl0 h0
      by_cases hz : n = 0
      · have e : out.toList = [] := by rw [ByteArray.toList_eq, TX2.out, hz]; rfl
        have T : Hid (textOf n = ⟨#[48]⟩) := by
          show _ = _
          apply Go.WideShapes.bytes_inj
          rw [textOf_data, hz, rdig_zero]
        clear hz
        go_wp2_with fail
        go_ret
        refine ⟨?_, BEL.out⟩
        rw [T.out]; rfl
      · have e : ¬ out.toList = [] := by
          rw [ByteArray.toList_eq, TX2.out]
          unfold txt; rw [if_neg hz]
          exact (rdig_head 38 n HLT.out).1
        have e' : out.toList.isEmpty = false := by simpa using e
        have T : Hid (textOf n = out) := by
          show _ = _
          apply Go.WideShapes.bytes_inj
          rw [textOf_data, TX2.out]
          unfold txt; rw [if_neg hz]
        clear hz
        go_wp2_with fail
        go_ret
        refine ⟨?_, BEL.out⟩
        rw [T.out]; rfl
    · have hpos : (0 : Int) < (l.length : Int) := by omega
      have hlen : l.length ≤ 100 := by
        refine (TR.out.len DG.out 100).2 ?_
        rw [HM.out]
        have a := TX.out.1
        have b : P16 20 ≤ P16 100 := P16_le (by omega)
        have c : ((10 ^ 39 : Nat) : Int) < P16 20 := by unfold P16; decide
        omega
      have size := BEL.out.size
      obtain ⟨g0, cap0, hv, hcell⟩ := ROW.out.cell (by omega)
      simp only [Value.slice.injEq, true_and] at hv
      obtain ⟨rfl, rfl⟩ := hv
      have hwl : IntKind.i64.wrap ((l.length : Int) - 1) = (l.length : Int) - 1 := IntWalk.i64_in _ ⟨by omega, by omega⟩
      have OW : Hid (Own wr.heap.size (wr.alloc (.cells #[] 23)) (.slice (some ⟨wr.heap.size, 0, none⟩) 0 0) []) :=
        ⟨rfl, .inr ⟨wr.heap.size, 0, #[], rfl, Nat.le_refl _, heap_alloc_new wr _, Nat.le_refl _, by unfold maxLen; omega, rfl, rfl⟩⟩
      have HC := hid hcell; clear hcell
      have R1 := hid (ROW.out.below (below_alloc wr (.cells #[] 23)))
      go_wp2_with (first | (at_builtin; refine app_row rfl _ _ rfl (wr.heap.size) (.slice (some ⟨wr.heap.size, 0, none⟩) 0 0) (.slice (some ⟨g0, 0, none⟩) l.length cap) [] l rfl rfl OW.out R1.out ?_ ?_ ?_))
      · simp
      · simp; omega
      · intro v6 W1 hown hbel
        obtain ⟨g, cap', rfl, hg, hg2⟩ := hown.form (by omega)
        have HO := hid hown
        have BB := hid ((below_alloc wr (.cells #[] 23)).trans hbel)
        have DI := hid (show DivI wr.heap.size W1 (.slice (some ⟨g, 0, none⟩) l.length cap') l l 0 (.int .u64 (0)) (.int .i64 ((l.length : Int) - 1)) l.length W1 from
          ⟨rfl, rfl, Nat.le_refl _, by omega, by omega, hown, rfl, DG.out, by simp [List.drop_length, numD], Below.refl _ _⟩)
        clear hown hbel
        go_wp2_with fail
        go_loopw [5, 7] (fun v5 v7 wq => ∃ nx left k, DivI wr.heap.size W1 (.slice (some ⟨g, 0, none⟩) l.length cap') l nx left v5 v7 k wq) (fun _ v7 _ => (intOf v7 + 1).toNat)
        case atStart => exact ⟨_, _, _, DI.out⟩
        case round =>
          obtain ⟨nx, left, k, I⟩ := hrel
          obtain ⟨rfl, rfl, hk, l0, l1, own, len, dg, sum, bel⟩ := id I
          have size2 := bel.size
          have I := hid I
          have BW := hid (BB.out.trans bel)
          unfold Own at own
          rw [len] at own
          have OWN2 := hid own; clear own
          have DG2 := hid dg; have SUM2 := hid sum; clear dg sum bel
          by_cases hk0 : k = 0
          · subst hk0
            have q1 : ¬ (0 : Int) ≤ ((0 : Nat) : Int) - 1 := by omega
            have w1 : IntKind.u64.wrap (48 + left) = 48 + left := wrap_small _ (by omega) (by omega)
            have w2 : IntKind.u8.wrap (48 + left) = 48 + left := IntWalk.u8_in _ ⟨by omega, by omega⟩
            have hbc : (convert 73 9 (.slice (some ⟨wr.heap.size, 0, none⟩) 1 1)).run Tryd.prog (wr.alloc (.cells #[.int .u8 (48 + left)] 5)) = .ok (.string (strOf [48 + left])) (wr.alloc (.cells #[.int .u8 (48 + left)] 5)) := byte_conv _ _ _ (by go_simp)
            have hsz : ¬ 9223372036854775807 < (strOf [48 + left]).size + out.size := by
              have a := congrArg List.length TX.out.2
              have b := txt_len n
              rw [size_str1]
              simp at a
              omega
            have hm : m ≠ 0 := by
              have a := TR.out.ge DG.out (by intro e; rw [e] at h0; exact h0 rfl)
              have b := P16_pos (l.length - 1)
              have c := HM.out
              omega
            have SQ := SUM2.out
            rw [List.drop_zero, List.drop_zero, HM.out] at SQ
            have hnum : numD nx = ((m / 10 : Nat) : Int) := by omega
            have hleft : left = ((m % 10 : Nat) : Int) := by omega
            have hstr : (strOf [48 + left]).data.toList = [UInt8.ofNat (48 + m % 10)] := by
              rw [strOf_data, hleft]
              have : ((48 : Int) + ((m % 10 : Nat) : Int)).toNat = 48 + m % 10 := by omega
              simp only [List.map_cons, List.map_nil, this]
            have TX2 : Hid (m / 10 < 10 ^ 39 ∧ txt (m / 10) ++ (strOf [48 + left] ++ out).data.toList = txt n) := by
              refine ⟨by have := TX.out.1; omega, ?_⟩
              rw [Go.Joins.data_append, hstr, ← TX.out.2, txt_step m hm TX.out.1, List.append_assoc]
            have HNUM := hid hnum
            have HML : Hid (m / 10 < m) := by show _ < _; omega
            clear SQ hnum hleft hstr hm
            have ownr : Own wr.heap.size wr (.slice none 0 0) [] := Own.nil _ _
            have ROW2 : Hid (Row (wr.alloc (.cells #[.int .u8 (48 + left)] 5)) (.slice (some ⟨g, 0, none⟩) l.length cap') nx) := by
              have q : Row wr (.slice (some ⟨g, 0, none⟩) l.length cap') nx := Row.of_owns OWN2.out
              exact q.below (below_alloc _ _)
            clear ownr
            go_wp2_with fail
            refine (trim_any _ nx _ ROW2.out DG2.out).mono ?_
            rintro e w' ⟨⟨v', rfl, hv⟩, rfl⟩
            rw [HNUM.out] at hv
            have HV := hid hv; clear hv
            go_wp2_with fail
            refine ⟨⟨_, _, rfl, HV, TX2, ?_⟩, ?_⟩
            · exact BEL.out.trans ((BW.out.trans ((below_alloc wr _).mono (by have := BW.out.size; omega))).mono BEL.out.size)
            · rw [HV.out.rowNum, N3.out.rowNum]
              exact HML.out
          · obtain ⟨j, rfl⟩ : ∃ j, k = j + 1 := ⟨k - 1, by omega⟩
            clear hk0
            have hj : (((j + 1 : Nat) : Int)) - 1 = (j : Int) := by omega
            rw [hj]
            have hjl : j < l.length := by omega
            have h1 : (0 : Int) ≤ (j : Int) := by omega
            have hjl' : (j : Int) < (l.length : Int) := by omega
            have c1 := cellB BW.out (HC.out j hjl)
            have c2 := World.ownsRow.cellAt OWN2.out j (by omega)
            have f2 := World.ownsRow.frozenAt OWN2.out j
            have c2' : wr.cell? ⟨g, j, none⟩ = some (.int .u64 (nx[j]'(by omega))) := by
              rw [c2]
              simp [List.getElem?_eq_getElem (show j < nx.length by omega)]
            clear c2
            have NX := hid (I.out.next DG.out hg)
            obtain ⟨d0, d1⟩ := DG.out.at j
            generalize l.getD j 0 = y at *
            have w1 : IntKind.u64.wrap (left * 65536) = left * 65536 := wrap_small _ (by omega) (by omega)
            have w2 : IntKind.u64.wrap (left * 65536 + y) = left * 65536 + y := wrap_small _ (by omega) (by omega)
            have hn0 : 0 ≤ left * 65536 + y := by omega
            have w3 : (left * 65536 + y).tdiv 10 = (left * 65536 + y) / 10 := Int.tdiv_eq_ediv_of_nonneg hn0
            have w4 : IntKind.u64.wrap ((left * 65536 + y) / 10) = (left * 65536 + y) / 10 := wrap_small _ (by omega) (by omega)
            have w5 : IntKind.i64.wrap ((j : Int) - 1) = (j : Int) - 1 := IntWalk.i64_in _ ⟨by omega, by omega⟩
            go_wp2_with fail
            exact ⟨⟨_, _, _, NX.out⟩, by simp [intOf]⟩
end Go.Proofs.YtdpcfpmlkhdmkaaDoor
