/- rows of digits: Minus. -/
import Derived.Test.YtdpcfpmlkhdmkaaDoorR3
import Derived.Deep.RegionWith
namespace Go.Proofs.YtdpcfpmlkhdmkaaDoor
open Go.RowKit

theorem Row.drew {w : World} {v : Value} {l : List Int} (h : Row w v l) : Row w.drew v l := h
structure MinusI (w : World) (l m xs : List Int) (c : Int) (v v6 v11 : Value) (k : Nat) (wr : World) : Prop where
  e7 : v11 = (.int .i64 (k))
  e6 : v6 = (.int .u64 (c))
  c0 : 0 ≤ c
  c1 : c ≤ 1
  own : Own w.heap.size wr v xs
  xl : xs.length = k
  dg : Digs xs
  sum : numD xs - P16 k * c = numD (l.take k) - numD (m.take k)
  bel : Below w.heap.size w wr
  hk : k ≤ l.length

theorem MinusI.end_ {w wr : World} {l m xs : List Int} {c : Int} {v v6 v7 : Value} {k : Nat} (h : MinusI w l m xs c v v6 v7 k wr) (h1 : ¬ k < l.length) (hl : Digs l) (hm : Digs m) (tm : Trim m) (hle : numD m ≤ numD l) :
    numD xs = numD l - numD m := by
  have e := h.sum
  have c0 := h.c0
  have c1 := h.c1
  have hk := h.hk
  obtain rfl : k = l.length := by omega
  have a := hl.lt
  have ml : m.length ≤ l.length := (tm.len hm _).2 (by omega)
  rw [List.take_of_length_le (Nat.le_refl _), List.take_of_length_le ml] at e
  have b := h.dg.lt
  rw [h.xl] at b
  have q : c = 0 ∨ c = 1 := by omega
  rcases q with rfl | rfl
  · omega
  · omega
theorem MinusI.next {w wr w1 : World} {l m xs : List Int} {c : Int} {v v6 v7 v' : Value} {k : Nat} (h : MinusI w l m xs c v v6 v7 k wr) (hl : Digs l) (hm : Digs m) (hg : k < l.length)
    (hown : Own w.heap.size w1 v' (xs ++ [(65536 + l.getD k 0 - m.getD k 0 - c) % 65536])) (hb : Below w.heap.size wr w1) :
    MinusI w l m (xs ++ [(65536 + l.getD k 0 - m.getD k 0 - c) % 65536]) (1 - (65536 + l.getD k 0 - m.getD k 0 - c) / 65536) v' (.int .u64 (1 - (65536 + l.getD k 0 - m.getD k 0 - c) / 65536)) (.int .i64 ((k + 1 : Nat))) (k + 1) w1 := by
  have a1 := hl.at k
  have a2 := hm.at k
  have a3 := h.c0
  have a4 := h.c1
  refine ⟨rfl, rfl, by omega, by omega, hown, by simp [h.xl], h.dg.snoc (by omega) (by omega), ?_, h.bel.trans hb, hg⟩
  rw [numD_snoc, numD_take_succ, numD_take_succ, h.xl, P16_succ]
  have := h.sum
  generalize l.getD k 0 = x at *
  generalize m.getD k 0 = y at *
  have e := Int.mul_ediv_add_emod (65536 + x - y - c) 65536
  have e2 : P16 k * (65536 + x - y - c) = P16 k * (65536 * ((65536 + x - y - c) / 65536) + (65536 + x - y - c) % 65536) := by rw [e]
  grind

theorem Row.cell {w : World} {v : Value} {l : List Int} (h : Row w v l) (hl : 0 < l.length) : ∃ g cap : Nat, v = .slice (some ⟨g, 0, none⟩) l.length cap ∧ ∀ k, k < l.length → w.cell? ⟨g, k, none⟩ = some (.int .u64 (l.getD k 0)) := by
  rcases h with ⟨_, rfl⟩ | ⟨g, cap, e, _, _, hx⟩
  · simp at hl
  · exact ⟨g, cap, e, fun k hk => by rw [getD_in l k hk]; exact hx k _ (List.getElem?_eq_getElem hk)⟩

set_option maxRecDepth 100000 in
set_option maxHeartbeats 1000000 in
theorem minus_num (va vb : Value) (l m : List Int) (w : World) (hra : Row w va l) (hrb : Row w vb m) (hl : Digs l) (hm : Digs m) (tm : Trim m) (hle : numD m ≤ numD l) (hll : l.length ≤ 100000) :
    Calls Tryd.prog 24 #[va, vb] w fun e w' => (∃ v', e = .returned v' ∧ Num w' v' (numD l - numD m)) ∧ Below w.heap.size w w' := by
  obtain ⟨pa, ca, rfl⟩ := hra.form
  have HRA := hid hra; have HRB := hid hrb; have HL := hid hl; have HM := hid hm; have TM := hid tm; have HLE := hid hle
  clear hra hrb hl hm tm hle
  go_enter Tryd.func24, Tryd.ntmps24
  go_wp2_with fail
  go_loopw [5, 6, 11] (fun v v6 v7 wr => ∃ xs c k, MinusI w l m xs c v v6 v7 k wr) (fun _ _ v7 _ => l.length - (intOf v7).toNat)
  case atStart => exact ⟨[], 0, 0, rfl, rfl, by omega, by omega, Own.nil _ _, rfl, Digs.nil, by simp [numD], Below.refl _ _, by omega⟩
  case round =>
    obtain ⟨xs, c, k, I⟩ := hrel
    obtain ⟨rfl, rfl, c0, c1, own, xl, dg, sum, bel, hk⟩ := id I
    have size := bel.size
    have I := hid I
    have OWN := hid own; clear own
    have BEL := hid bel; clear bel
    have DG := hid dg; clear dg sum
    have RA := hid (HRA.out.below BEL.out)
    have RB := hid (HRB.out.below BEL.out)
    have a1 := HL.out.at k
    have a2 := HM.out.at k
    by_cases hgo : k < l.length
    · have hgo' : (k : Int) < (l.length : Int) := by omega
      obtain ⟨g, cap, hv, hcell⟩ := RA.out.cell (by omega)
      simp only [Value.slice.injEq, true_and] at hv
      obtain ⟨rfl, rfl⟩ := hv
      have hc := hcell k hgo
      clear hcell
      have CB' := at_any _ m k wr.drew RB.out.drew
      obtain ⟨x, hx⟩ : ∃ x, l.getD k 0 = x := ⟨_, rfl⟩
      obtain ⟨y, hy⟩ : ∃ y, m.getD k 0 = y := ⟨_, rfl⟩
      rw [hy] at CB'
      rw [hx] at a1 hc
      rw [hy] at a2
      have HX := hid hx; have HY := hid hy; clear hx hy
      obtain ⟨a10, a11⟩ := a1
      obtain ⟨a20, a21⟩ := a2
      have CB := hid CB'
      clear CB'
      have w1 : IntKind.u64.wrap (65536 + x) = 65536 + x := wrap_small _ (by omega) (by omega)
      have w2 : IntKind.u64.wrap (65536 + x - y) = 65536 + x - y := wrap_small _ (by omega) (by omega)
      have w2' : IntKind.u64.wrap (65536 + x - y - c) = 65536 + x - y - c := wrap_small _ (by omega) (by omega)
      have hn0 : 0 ≤ 65536 + x - y - c := by omega
      have w3 : (65536 + x - y - c).tdiv 65536 = (65536 + x - y - c) / 65536 := Int.tdiv_eq_ediv_of_nonneg hn0
      have w4 : IntKind.u64.wrap ((65536 + x - y - c) / 65536) = (65536 + x - y - c) / 65536 := wrap_small _ (by omega) (by omega)
      have w5 : IntKind.u64.wrap (1 - (65536 + x - y - c) / 65536) = 1 - (65536 + x - y - c) / 65536 := wrap_small _ (by omega) (by omega)
      go_wp2_with fail
      go_region_with (go_at_call 32; refine CB.out.mono ?_; rintro e w' ⟨rfl, rfl⟩)
      all_goals
        go_wp2_with (first | (at_builtin; refine app1 rfl _ _ rfl (w.heap.size) _ _ ((65536 + x - y - c) % 65536) wr.drew rfl rfl rfl (Own.keeps OWN.out ((Below.refl _ wr).drew) (Nat.le_refl _)) size ?_ ?_))
        · omega
        · intro v' w1 hown hbel
          have HO := hid hown; clear hown
          have HB' := hid hbel; clear hbel
          go_wp2_with fail
          refine ⟨⟨xs ++ [(65536 + x - y - c) % 65536], 1 - (65536 + x - y - c) / 65536, k + 1, ?_⟩, ?_⟩
          · have := I.out.next HL.out HM.out hgo (by rw [HX.out, HY.out]; exact HO.out) ((Below.refl w.heap.size wr).drew.trans HB'.out)
            rw [HX.out, HY.out] at this
            exact this
          · simp [intOf]; omega
    · have h1 : ¬ (k : Int) < (l.length : Int) := by omega
      have E := hid (I.out.end_ hgo HL.out HM.out TM.out HLE.out)
      clear hgo
      go_wp2_with fail
      refine (trim_any _ xs _ OWN.out.row DG.out).mono ?_
      rintro e w' ⟨⟨v', rfl, hv⟩, rfl⟩
      have HV := hid hv; clear hv
      go_wp2_with fail
      go_ret
      refine ⟨⟨_, rfl, ?_⟩, BEL.out⟩
      rw [← E.out]; exact HV.out
end Go.Proofs.YtdpcfpmlkhdmkaaDoor
