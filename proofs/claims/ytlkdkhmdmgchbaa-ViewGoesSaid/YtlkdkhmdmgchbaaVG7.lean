/- texts on which the statement stands, part 7. -/
import Derived.Test.YtlkdkhmdmgchbaaVG6
import Derived.Maps.OwnSet
import Derived.Maps.RangeWalk
import Derived.DeepKeys4
import Derived.Laws.CopyRow
import Derived.Laws.OwnMore
import Derived.Shelf.SlSortCmp.WholeK
import Derived.Shelf.SlicesE.Compact
import Derived.Shelf.SlicesQ.Reverse
import Derived.Test.YtlkdkhmdmgchbaaB0
import Derived.Shelf.Spec.SlicesGrow
namespace Go.Proofs.Ytlkdkhmdmgchbaa
set_option linter.unusedSimpArgs false
set_option linter.unusedVariables false
open Go.RowKit
set_option maxRecDepth 100000

def foldU (ls : List (List Pr)) : List Pr := ls.foldl uniL []
theorem foldU_snoc {ls : List (List Pr)} {k : Nat} {l : List Pr} (h : ls.take (k + 1) = ls.take k ++ [l]) : foldU (ls.take (k + 1)) = uniL (foldU (ls.take k)) l := by unfold foldU; rw [h, List.foldl_append]; rfl
theorem foldU_len (ls : List (List Pr)) (N : Nat) (h : ∀ l ∈ ls, l.length ≤ N) : ∀ k, (foldU (ls.take k)).length ≤ k * N
  | 0 => by simp [foldU]
  | k + 1 => by
    have ih := foldU_len ls N h k
    by_cases hk : k < ls.length
    · rw [foldU_snoc (List.take_succ_eq_append_getElem hk)]
      have h1 := uniL_len (foldU (ls.take k)) ls[k]
      have h2 := h _ (List.getElem_mem hk)
      rw [Nat.add_mul]; omega
    · rw [List.take_of_length_le (by omega)] at ih ⊢
      rw [Nat.add_mul]; omega

set_option maxRecDepth 100000 in
set_option maxHeartbeats 2000000 in
theorem pall_any (g : Nat) (ls : List (List Pr)) (w : World) (h : ∀ k (hk : k < ls.length), ∃ v, w.cell? ⟨g, k, none⟩ = some v ∧ PRow w v ls[k]) (hl : ls.length ≤ 4) (hs : ∀ l ∈ ls, l.length ≤ 200000) :
    Calls Try.prog 148 #[.slice (some ⟨g, 0, none⟩) ls.length ls.length] w fun e w' => (∃ v, e = .returned v ∧ POwn w.heap.size w' v (foldU ls)) ∧ Below w.heap.size w w' := by
  have H := hid h; have HS := hid hs; have HL := hid hl
  clear h hs
  go_enter Try.func148, Try.ntmps148
  go_wp2_with fail
  go_loopw [3, 8] (fun v3 v8 wr => ∃ k : Nat, v8 = (.int .i64 (k)) ∧ k ≤ ls.length ∧ Hid (POwn w.heap.size wr v3 (foldU (ls.take k))) ∧ Hid (Below w.heap.size w wr)) (fun _ v8 _ => ls.length - (intOf v8).toNat)
  case atStart => exact ⟨0, rfl, Nat.zero_le _, POwn.nil _ _, Below.refl _ _⟩
  case round =>
    obtain ⟨k, rfl, hk, OW, BEL⟩ := hrel
    obtain ⟨pv, kv, e3⟩ := OW.out.row.form
    subst e3
    by_cases hgo : k < ls.length
    · have hgo' : (k : Int) < (ls.length : Int) := by omega
      have hwk : IntKind.i64.wrap ((k : Int) + 1) = ((k + 1 : Nat) : Int) := by rw [i64_ok _ (by omega) (by omega)]; omega
      obtain ⟨v, c, r⟩ := H.out k hgo
      have c' := cellB BEL.out c
      have RO := hid (r.below BEL.out)
      have LN := hid (HS.out _ (List.getElem_mem hgo))
      have ts := hid (foldU_snoc (List.take_succ_eq_append_getElem hgo))
      have LF := hid (foldU_len ls 200000 HS.out k)
      obtain ⟨l, hl0⟩ : ∃ l, ls[k] = l := ⟨_, rfl⟩
      rw [hl0] at RO LN ts
      clear hl0 c r
      obtain ⟨p, c, rfl⟩ := RO.out.form
      generalize foldU (ls.take k) = lo at *
      have CU := hid (punion_any wr (.slice pv lo.length kv) (.slice p l.length c) lo l OW.out.row RO.out (by have h1 := LN.out; have h2 := LF.out; have h3 := HL.out; have : k * 200000 ≤ 3 * 200000 := Nat.mul_le_mul_right _ (by omega); omega))
      clear LN LF
      go_wp2_with fail
      refine CU.out.mono ?_
      rintro e w1 ⟨⟨v', rfl, own⟩, B⟩
      have O1 := hid (own.weaken BEL.out.size)
      have B1 := hid (bel_step BEL.out B)
      clear own B CU c'
      go_wp2_with fail
      exact ⟨⟨k + 1, by simp, hgo, by rw [ts.out]; exact O1, B1⟩, by simp [intOf]; omega⟩
    · obtain rfl : k = ls.length := by omega
      have h1 : ¬ (ls.length : Int) < (ls.length : Int) := by omega
      rw [List.take_length] at OW
      go_wp2_with fail
      go_ret
      exact ⟨⟨_, rfl, OW.out⟩, BEL.out⟩

set_option maxRecDepth 100000 in
set_option maxHeartbeats 2000000 in
theorem ppairs_any (oA oD nA nD uA uD : Value) (m : Mg) (w : World) (h : MIs w oA oD nA nD uA uD m) (hs : m.small) :
    Calls Try.prog 99 #[mval oA oD nA nD uA uD m.oldest m.at_] w fun e w' => (∃ v, e = .returned v ∧ POwn w.heap.size w' v (allL m.older.1 m.older.2 m.newer.1 m.newer.2)) ∧ Below w.heap.size w w' := by
  obtain ⟨pA, cA, rfl⟩ := h.o.1.form
  obtain ⟨pD, cD, rfl⟩ := h.o.2.form
  obtain ⟨pB, cB, rfl⟩ := h.n.1.form
  obtain ⟨pE, cE, rfl⟩ := h.n.2.form
  obtain ⟨pF, cF, rfl⟩ := h.u.1.form
  obtain ⟨pG, cG, rfl⟩ := h.u.2.form
  have H := hid h; have HS := hid hs
  clear h hs
  unfold mval
  go_enter Try.func99, Try.ntmps99
  go_wp2_with fail
  refine (pall_any (w.heap.size + 1) [m.older.1, m.older.2, m.newer.1, m.newer.2] _ ?_ (by simp) ?_).mono ?_
  · intro k hk
    have B : Below w.heap.size w ((w.alloc (.cells #[.slice pA m.older.1.length cA, .slice pD m.older.2.length cD, .slice pB m.newer.1.length cB, .slice pE m.newer.2.length cE, .bool m.oldest, .int .i64 m.at_, .slice pF m.out.1.length cF, .slice pG m.out.2.length cG] 26)).alloc (.cells #[.slice pA m.older.1.length cA, .slice pD m.older.2.length cD, .slice pB m.newer.1.length cB, .slice pE m.newer.2.length cE] 22)) := by
      repeat' (first | exact Below.refl _ _ | with_reducible refine Below.alloc ?_ ?_ _ | with_reducible refine Below.setCell ?_ ?_ _ | with_reducible refine Below.drew ?_ | with_reducible refine below_drewN ?_ _ | refine Below.trans ?_ (Below.mono (by assumption) ?_))
      all_goals (first | omega | (simp <;> omega))
    match k, hk with
    | 0, _ => exact ⟨_, by go_simp, H.out.o.1.below B⟩
    | 1, _ => exact ⟨_, by go_simp, H.out.o.2.below B⟩
    | 2, _ => exact ⟨_, by go_simp, H.out.n.1.below B⟩
    | 3, _ => exact ⟨_, by go_simp, H.out.n.2.below B⟩
  · intro l hl
    obtain ⟨h1, h2, h3, h4⟩ := HS.out
    simp only [List.mem_cons, List.not_mem_nil, or_false] at hl
    rcases hl with rfl | rfl | rfl | rfl <;> assumption
  rintro e w1 ⟨⟨v, rfl, own⟩, B⟩
  have O1 := hid (own.weaken (show w.heap.size ≤ _ by simp; omega))
  have B1 : Hid (Below w.heap.size w w1) := by
    show Below _ _ _
    refine Below.trans ?_ (B.mono (by simp <;> omega))
    repeat' (first | exact Below.refl _ _ | with_reducible refine Below.alloc ?_ ?_ _ | with_reducible refine Below.setCell ?_ ?_ _ | with_reducible refine Below.drew ?_ | with_reducible refine below_drewN ?_ _ | refine Below.trans ?_ (Below.mono (by assumption) ?_))
    all_goals (first | omega | (simp <;> omega))
  obtain ⟨pv, kv, rfl⟩ := own.row.form
  clear own B
  go_wp2_with fail
  go_ret
  exact ⟨⟨_, rfl, O1.out⟩, B1.out⟩

def placeL (l : List Pr) (p : Pr) : Nat := (l.filter (fun x => decide (lt x p))).length
theorem placeL_is {l : List Pr} {p : Pr} {i : Nat} (h1 : i ≤ l.length) (ha : ∀ x ∈ l.take i, lt x p) (hb : ∀ x ∈ l.drop i, ¬ lt x p) : placeL l p = i := by
  unfold placeL
  have e : l.filter (fun x => decide (lt x p)) = (l.take i ++ l.drop i).filter (fun x => decide (lt x p)) := by rw [List.take_append_drop]
  rw [e, List.filter_append, List.filter_eq_self.2 (by simpa using ha), List.filter_eq_nil_iff.2 (by simpa using hb), List.append_nil, List.length_take]
  omega
theorem mem_at {l : List Pr} (hr : Rises l) {p : Pr} {i : Nat} (hi : i < l.length) (ha : ∀ x ∈ l.take i, lt x p) (hb : ∀ x ∈ l.drop i, ¬ lt x p) : p ∈ l ↔ l[i] = p := by
  constructor
  · intro hm
    rw [← List.take_append_drop i l, List.mem_append] at hm
    rcases hm with hm | hm
    · exact absurd (ha _ hm) (lt_irrefl _)
    · rw [List.drop_eq_getElem_cons hi, List.mem_cons] at hm
      rcases hm with hm | hm
      · exact hm.symm
      · exfalso
        have hd : Rises (l.drop i) := hr.sub (List.drop_sublist i l)
        rw [List.drop_eq_getElem_cons hi] at hd
        have hq : l[i] ∈ l.drop i := by
          rw [List.drop_eq_getElem_cons hi]
          exact List.mem_cons_self
        exact hb l[i] hq ((rises_cons.1 hd).1 _ hm)
  · rintro rfl
    exact List.getElem_mem hi
theorem Rises.below {l : List Pr} (hr : Rises l) {p : Pr} {h : Nat} (hh : h < l.length) (hp : lt l[h] p) : ∀ x ∈ l.take (h + 1), lt x p := by
  intro x hx
  rw [List.take_succ_eq_append_getElem hh, List.mem_append, List.mem_singleton] at hx
  rcases hx with hx | rfl
  · have hd : Rises (l.take (h + 1)) := hr.take _
    rw [List.take_succ_eq_append_getElem hh, Rises, List.pairwise_append] at hd
    exact lt_trans (hd.2.2 _ hx _ (by simp)) hp
  · exact hp
theorem Rises.above {l : List Pr} (hr : Rises l) {p : Pr} {h : Nat} (hh : h < l.length) (hp : ¬ lt l[h] p) : ∀ x ∈ l.drop h, ¬ lt x p := by
  intro x hx hl
  have hd : Rises (l.drop h) := hr.sub (List.drop_sublist h l)
  rw [List.drop_eq_getElem_cons hh] at hx hd
  rw [List.mem_cons] at hx
  rcases hx with rfl | hx
  · exact hp hl
  · exact hp (lt_trans ((rises_cons.1 hd).1 _ hx) hl)

set_option maxRecDepth 100000 in
set_option maxHeartbeats 4000000 in
theorem search_any (v : Value) (l : List Pr) (p0 p1 : Int) (w : World) (h : PRow w v l) (hr : Rises l) (hn : l.length ≤ 100000000) :
    Calls Try.prog 152 #[v, .agg #[(.int .u64 (p0)), (.int .u64 (p1))], .func (.func 56) #[] #[]] w fun e w' =>
      e = .returned (.tuple #[(.int .i64 ((placeL l (p0, p1) : Int))), .bool (decide ((p0, p1) ∈ l))]) ∧ Below w.heap.size w w' := by
  obtain ⟨p, cap, rfl⟩ := h.form
  have H := hid h; have HR := hid hr; have HN := hid hn
  have bT : Hid (Bx w.heap.size p0 p1 (w.alloc (.cells #[(.int .u64 (p0)), (.int .u64 (p1))] 52))) := Bx.new w p0 p1 _
  clear h hr hn
  go_enter Try.func152, Try.ntmps152
  go_wp2_with fail
  go_loopw [9, 10] (fun v9 v10 wr => ∃ i j : Nat, v9 = (.int .i64 (i)) ∧ v10 = (.int .i64 (j)) ∧ i ≤ j ∧ j ≤ l.length ∧ Hid (∀ x ∈ l.take i, lt x (p0, p1)) ∧ Hid (∀ x ∈ l.drop j, ¬ lt x (p0, p1)) ∧ Hid (Below w.heap.size w wr) ∧ Hid (Bx w.heap.size p0 p1 wr)) (fun v9 v10 _ => (intOf v10).toNat - (intOf v9).toNat)
  case atStart => exact ⟨0, l.length, rfl, rfl, Nat.zero_le _, Nat.le_refl _, by simp [Hid], by simp [Hid], below_alloc _ _, bT⟩
  case round =>
    clear bT
    obtain ⟨i, j, rfl, rfl, hij, hj, LO, HI, BEL, BT⟩ := hrel
    by_cases hgo : i < j
    · have hgo' : (i : Int) < (j : Int) := by omega
      obtain ⟨m, hm⟩ : ∃ m, (i + j) / 2 = m := ⟨_, rfl⟩
      have hl := HN.out
      have hm1 : i ≤ m ∧ m < j := by omega
      have hw1 : IntKind.i64.wrap ((i : Int) + (j : Int)) = ((i + j : Nat) : Int) := by rw [i64_ok _ (by omega) (by omega)]; omega
      have hw2 : IntKind.u64.wrap ((i + j : Nat) : Int) = ((i + j : Nat) : Int) := IntWalk.u64_in _ ⟨by omega, by omega⟩
      have hmI : (0 : Int) ≤ (m : Int) := by omega
      have hml : (m : Int) < (l.length : Int) := by omega
      obtain ⟨g, o, cap', hv, hcell⟩ := (H.out.below BEL.out).cell (by omega)
      simp only [Value.slice.injEq] at hv
      obtain ⟨hv, -, -⟩ := hv
      subst hv
      have hmn : m < l.length := by omega
      obtain ⟨d0, d1⟩ := hcell m hmn
      have UP := hid (fun hp => HR.out.below hmn (p := (p0, p1)) hp)
      have DN := hid (fun hp => HR.out.above hmn (p := (p0, p1)) hp)
      obtain ⟨x, hx⟩ : ∃ x, l[m] = x := ⟨_, rfl⟩
      rw [hx] at d0 d1 UP DN
      clear hx hcell
      obtain ⟨x0, x1⟩ := x
      simp only at d0 d1
      obtain ⟨e0, e1, e2⟩ := BT.out
      have A := hid (fun W => compare_any x0 x1 p0 p1 W)
      have hlt0 := hid (pcmp_lt (x0, x1) (p0, p1))
      obtain ⟨z, hz⟩ : ∃ z, pcmp (x0, x1) (p0, p1) = z := ⟨_, rfl⟩
      have zs := pcmp_small (x0, x1) (p0, p1)
      rw [hz] at A hlt0 zs
      clear hz
      have hq : ((i : Int) + (j : Int)) / 2 = (m : Int) := by omega
      have HM := hid hm1; have HQ := hid hq
      have hwm : IntKind.i64.wrap ((m : Int) + 1) = ((m + 1 : Nat) : Int) := by rw [i64_ok _ (by omega) (by omega)]; omega
      clear hm hq hm1
      rcases (show z = -1 ∨ z = 0 ∨ z = 1 by omega) with rfl | rfl | rfl <;> clear zs
      · have LO2 := hid (UP.out (hlt0.out.1 (by omega)))
        clear UP DN hlt0
        go_wp2_with fail
        rw [HQ.out]
        have st : Four wr g (o + m * 2) w.heap.size 0 x0 x1 p0 p1 wr.drew := ⟨below_drew _, d0, d1, e0, e1⟩
        go_region_held3 (fun W => Below wr.heap.size wr W ∧ W.cell? ⟨g, o + m * 2, none⟩ = some (.int .u64 (x0)) ∧ W.cell? ⟨g, o + m * 2 + 1, none⟩ = some (.int .u64 (x1)) ∧ W.cell? ⟨w.heap.size, 0, none⟩ = some (.int .u64 (p0)) ∧ W.cell? ⟨w.heap.size, 0 + 1, none⟩ = some (.int .u64 (p1))) (first | assumption | go_keep)
          (first | (go_at_call 56; refine (A.out _).mono ?_; rintro e w5 ⟨rfl, B⟩; have hx := fourB st B; clear B))
        all_goals
          have ST : Hid (Four wr g (o + m * 2) w.heap.size 0 x0 x1 p0 p1 w5) := (by assumption : Four wr g (o + m * 2) w.heap.size 0 x0 x1 p0 p1 w5)
          clear st
        all_goals
          clear d0 d1 e0 e1
          go_wp2_with fail
          refine ⟨⟨m + 1, j, by simp, rfl, by have := HM.out; omega, hj, LO2, HI, hid (bel_step BEL.out ST.out.1), hid ⟨ST.out.2.2.2.1, ST.out.2.2.2.2, World.lt_of_cell ST.out.2.2.2.1⟩⟩, ?_⟩
          have := HM.out
          simp [intOf]; omega
      · have HI2 := hid (DN.out (fun h => by have := hlt0.out.2 h; omega))
        clear UP DN hlt0
        go_wp2_with fail
        rw [HQ.out]
        have st : Four wr g (o + m * 2) w.heap.size 0 x0 x1 p0 p1 wr.drew := ⟨below_drew _, d0, d1, e0, e1⟩
        go_region_held3 (fun W => Below wr.heap.size wr W ∧ W.cell? ⟨g, o + m * 2, none⟩ = some (.int .u64 (x0)) ∧ W.cell? ⟨g, o + m * 2 + 1, none⟩ = some (.int .u64 (x1)) ∧ W.cell? ⟨w.heap.size, 0, none⟩ = some (.int .u64 (p0)) ∧ W.cell? ⟨w.heap.size, 0 + 1, none⟩ = some (.int .u64 (p1))) (first | assumption | go_keep)
          (first | (go_at_call 56; refine (A.out _).mono ?_; rintro e w5 ⟨rfl, B⟩; have hx := fourB st B; clear B))
        all_goals
          have ST : Hid (Four wr g (o + m * 2) w.heap.size 0 x0 x1 p0 p1 w5) := (by assumption : Four wr g (o + m * 2) w.heap.size 0 x0 x1 p0 p1 w5)
          clear st
        all_goals
          clear d0 d1 e0 e1
          go_wp2_with fail
          refine ⟨⟨i, m, rfl, rfl, by have := HM.out; omega, by have := HM.out; omega, LO, HI2, hid (bel_step BEL.out ST.out.1), hid ⟨ST.out.2.2.2.1, ST.out.2.2.2.2, World.lt_of_cell ST.out.2.2.2.1⟩⟩, ?_⟩
          have := HM.out
          simp [intOf]; omega
      · have HI2 := hid (DN.out (fun h => by have := hlt0.out.2 h; omega))
        clear UP DN hlt0
        go_wp2_with fail
        rw [HQ.out]
        have st : Four wr g (o + m * 2) w.heap.size 0 x0 x1 p0 p1 wr.drew := ⟨below_drew _, d0, d1, e0, e1⟩
        go_region_held3 (fun W => Below wr.heap.size wr W ∧ W.cell? ⟨g, o + m * 2, none⟩ = some (.int .u64 (x0)) ∧ W.cell? ⟨g, o + m * 2 + 1, none⟩ = some (.int .u64 (x1)) ∧ W.cell? ⟨w.heap.size, 0, none⟩ = some (.int .u64 (p0)) ∧ W.cell? ⟨w.heap.size, 0 + 1, none⟩ = some (.int .u64 (p1))) (first | assumption | go_keep)
          (first | (go_at_call 56; refine (A.out _).mono ?_; rintro e w5 ⟨rfl, B⟩; have hx := fourB st B; clear B))
        all_goals
          have ST : Hid (Four wr g (o + m * 2) w.heap.size 0 x0 x1 p0 p1 w5) := (by assumption : Four wr g (o + m * 2) w.heap.size 0 x0 x1 p0 p1 w5)
          clear st
        all_goals
          clear d0 d1 e0 e1
          go_wp2_with fail
          refine ⟨⟨i, m, rfl, rfl, by have := HM.out; omega, by have := HM.out; omega, LO, HI2, hid (bel_step BEL.out ST.out.1), hid ⟨ST.out.2.2.2.1, ST.out.2.2.2.2, World.lt_of_cell ST.out.2.2.2.1⟩⟩, ?_⟩
          have := HM.out
          simp [intOf]; omega
    · obtain rfl : i = j := by omega
      have EP := hid (placeL_is hj LO.out HI.out)
      have h0 : ¬ (i : Int) < (i : Int) := by omega
      obtain ⟨e0, e1, e2⟩ := BT.out
      by_cases hend : i < l.length
      · have h1 : (i : Int) < (l.length : Int) := by omega
        have MA := hid (mem_at HR.out hend LO.out HI.out)
        obtain ⟨g, o, cap', hv, hcell⟩ := (H.out.below BEL.out).cell (by omega)
        simp only [Value.slice.injEq] at hv
        obtain ⟨hv, -, -⟩ := hv
        subst hv
        obtain ⟨d0, d1⟩ := hcell i hend
        obtain ⟨x, hx⟩ : ∃ x, l[i] = x := ⟨_, rfl⟩
        rw [hx] at d0 d1 MA
        clear hx hcell
        obtain ⟨x0, x1⟩ := x
        simp only at d0 d1
        have A := hid (fun W => compare_any x0 x1 p0 p1 W)
        have heq := hid (pcmp_eq (x0, x1) (p0, p1))
        obtain ⟨z, hz⟩ : ∃ z, pcmp (x0, x1) (p0, p1) = z := ⟨_, rfl⟩
        rw [hz] at A heq
        clear hz hend
        by_cases hz0 : z = 0
        · subst hz0
          have E : Hid (decide ((p0, p1) ∈ l) = true) := by
            show _ = _
            rw [decide_eq_true_iff]
            exact MA.out.2 (heq.out.1 rfl)
          clear MA heq
          go_wp2_with fail
          have st : Four wr g (o + i * 2) w.heap.size 0 x0 x1 p0 p1 wr.drew := ⟨below_drew _, d0, d1, e0, e1⟩
          go_region_held3 (fun W => Below wr.heap.size wr W ∧ W.cell? ⟨g, o + i * 2, none⟩ = some (.int .u64 (x0)) ∧ W.cell? ⟨g, o + i * 2 + 1, none⟩ = some (.int .u64 (x1)) ∧ W.cell? ⟨w.heap.size, 0, none⟩ = some (.int .u64 (p0)) ∧ W.cell? ⟨w.heap.size, 0 + 1, none⟩ = some (.int .u64 (p1))) (first | assumption | go_keep)
            (first | (go_at_call 56; refine (A.out _).mono ?_; rintro e w5 ⟨rfl, B⟩; have hx := fourB st B; clear B))
          all_goals
            have ST : Hid (Four wr g (o + i * 2) w.heap.size 0 x0 x1 p0 p1 w5) := (by assumption : Four wr g (o + i * 2) w.heap.size 0 x0 x1 p0 p1 w5)
            clear st
          all_goals
            go_wp2_with fail
            go_ret2
            exact ⟨by rw [EP.out, E.out]; rfl, bel_step BEL.out ST.out.1⟩
        · have b0 : (z == 0) = false := by simpa using hz0
          have E : Hid (decide ((p0, p1) ∈ l) = false) := by
            show _ = _
            rw [decide_eq_false_iff_not]
            exact fun h => hz0 (heq.out.2 (MA.out.1 h))
          clear MA heq hz0
          go_wp2_with fail
          have st : Four wr g (o + i * 2) w.heap.size 0 x0 x1 p0 p1 wr.drew := ⟨below_drew _, d0, d1, e0, e1⟩
          go_region_held3 (fun W => Below wr.heap.size wr W ∧ W.cell? ⟨g, o + i * 2, none⟩ = some (.int .u64 (x0)) ∧ W.cell? ⟨g, o + i * 2 + 1, none⟩ = some (.int .u64 (x1)) ∧ W.cell? ⟨w.heap.size, 0, none⟩ = some (.int .u64 (p0)) ∧ W.cell? ⟨w.heap.size, 0 + 1, none⟩ = some (.int .u64 (p1))) (first | assumption | go_keep)
            (first | (go_at_call 56; refine (A.out _).mono ?_; rintro e w5 ⟨rfl, B⟩; have hx := fourB st B; clear B))
          all_goals
            have ST : Hid (Four wr g (o + i * 2) w.heap.size 0 x0 x1 p0 p1 w5) := (by assumption : Four wr g (o + i * 2) w.heap.size 0 x0 x1 p0 p1 w5)
            clear st
          all_goals
            go_wp2_with fail
            go_ret2
            exact ⟨by rw [EP.out, E.out]; rfl, bel_step BEL.out ST.out.1⟩
      · obtain rfl : i = l.length := by omega
        have E : Hid (decide ((p0, p1) ∈ l) = false) := by
          show _ = _
          rw [decide_eq_false_iff_not]
          intro h
          have := LO.out
          rw [List.take_of_length_le (by omega)] at this
          exact lt_irrefl _ (this _ h)
        clear hend
        go_wp2_with fail
        go_big_region
        all_goals
          go_wp2_with fail
          go_ret2
          exact ⟨by rw [EP.out, E.out]; rfl, BEL.out.drew⟩

abbrev PD (x : Pr) : List D := [.v (.int .u64 x.1), .v (.int .u64 x.2)]
abbrev PV (x : Pr) : DV := .agg (PD x)
abbrev RD (l : List Pr) : D := .s 2 (l.map PD)
abbrev TD (t : Tr) : DV := .agg [RD t.1, RD t.2]
abbrev TsD (l : List Tr) : D := .s 2 (l.map fun t => [RD t.1, RD t.2])
abbrev dI (n : Int) : DV := .c (.v (.int .i64 n))
abbrev dU (n : Int) : DV := .c (.v (.int .u64 n))
abbrev dB (b : Bool) : DV := .c (.v (.bool b))
section
variable {Z : Zone} {w w' : World} {v : Value}
theorem prow_of {l : List Pr} (h : RepD Z w v (RD l)) : PRow w v l := by
  obtain ⟨p, cap, e, h1, h2, h3⟩ := RepD.form h
  simp only [List.length_map] at e h1
  refine ⟨p, cap, e, h1, h3, h2, fun hl => ?_⟩
  obtain ⟨g, o, cap', vals, e', _, _, _, k⟩ := RepD.at h (by simpa using hl)
  rw [e] at e'
  simp only [Value.slice.injEq] at e'
  refine ⟨g, o, e'.1, fun j x hj => ?_⟩
  have hr : (l.map PD)[j]? = some (PD x) := by simp [hj]
  obtain ⟨_, c0, r0⟩ := k j _ 0 _ hr rfl
  obtain ⟨_, c1, r1⟩ := k j _ 1 _ hr rfl
  rw [r0.raw] at c0
  rw [r1.raw] at c1
  exact ⟨c0, c1⟩
theorem of_prow {l : List Pr} (h : PRow w v l) (hz : ∀ g, v.ownBlock = some g → Z g) : RepD Z w v (RD l) := by
  obtain ⟨p, cap, e, h1, h2, h3, h4⟩ := h
  subst e
  by_cases hl : 0 < l.length
  · obtain ⟨g, o, rfl, k⟩ := h4 hl
    refine .row g o l.length cap 2 _ (fun i j => match l[i]? with | some x => if j = 0 then .int .u64 x.1 else .int .u64 x.2 | none => undef) (by simp) h1 h3 (fun i r hi => ?_) (fun i r j x hi hj => ?_) (fun i r j x hi hj => ?_)
    all_goals
      simp only [List.getElem?_map, Option.map_eq_some_iff] at hi
      obtain ⟨y, hy, rfl⟩ := hi
    · rfl
    · obtain ⟨c0, c1⟩ := k i y hy
      have hj2 : j < 2 := by have := (List.getElem?_eq_some_iff.1 hj).1; simpa [PD] using this
      rcases (show j = 0 ∨ j = 1 by omega) with rfl | rfl
      · simp only [hy]; exact ⟨hz _ rfl, c0⟩
      · simp only [hy]; exact ⟨hz _ rfl, c1⟩
    · have hj2 : j < 2 := by have := (List.getElem?_eq_some_iff.1 hj).1; simpa [PD] using this
      rcases (show j = 0 ∨ j = 1 by omega) with rfl | rfl
      · simp only [PD, List.getElem?_cons_zero, Option.some.injEq] at hj; subst hj; simp only [hy]; exact .v _
      · simp only [PD, List.getElem?_cons_succ, List.getElem?_cons_zero, Option.some.injEq] at hj; subst hj; simp only [hy]; exact .v _
  · obtain rfl : l = [] := List.eq_nil_of_length_eq_zero (by omega)
    cases p with
    | none =>
      have : cap = 0 := h2 rfl
      subst this
      exact .nil 2
    | some a => exact .emp a cap 2 h3
theorem trow_of {l : List Tr} (h : RepD Z w v (TsD l)) : TRow w v l := by
  obtain ⟨p, cap, e, h1, h2, h3⟩ := RepD.form h
  simp only [List.length_map] at e h1
  refine ⟨p, cap, e, h1, h3, h2, fun hl => ?_⟩
  obtain ⟨g, o, cap', vals, e', _, _, _, k⟩ := RepD.at h (by simpa using hl)
  rw [e] at e'
  simp only [Value.slice.injEq] at e'
  refine ⟨g, o, e'.1, fun j x hj => ?_⟩
  have hr : (l.map fun t => [RD t.1, RD t.2])[j]? = some [RD x.1, RD x.2] := by simp [hj]
  obtain ⟨_, c0, r0⟩ := k j _ 0 _ hr rfl
  obtain ⟨_, c1, r1⟩ := k j _ 1 _ hr rfl
  exact ⟨_, _, c0, c1, prow_of r0, prow_of r1⟩
def newZ (w w' : World) : Zone := fun g => w.heap.size ≤ g ∧ Soft w' g
theorem newZ_ok : ∀ g, newZ w w' g → w.heap.size ≤ g ∧ Soft w' g := fun _ h => h
theorem tpair_of {t : Tr} (h : RepDV Z w v (TD t)) : ∃ vA vD, v = .agg #[vA, vD] ∧ TPair w vA vD t := by
  obtain ⟨vs, e, hs, k⟩ := h
  simp only [List.length_cons, List.length_nil] at hs
  obtain ⟨l, rfl⟩ : ∃ l : List Value, vs = l.toArray := ⟨vs.toList, rfl⟩
  match l, hs with
  | [a, b], _ => exact ⟨a, b, e, prow_of (by simpa using k 0 _ rfl), prow_of (by simpa using k 1 _ rfl)⟩
end
theorem flat_getD (l : List Pr) {i : Nat} {x : Pr} (h : l[i]? = some x) : (flat l).getD (i * 2) undef = .int .u64 x.1 ∧ (flat l).getD (i * 2 + 1) undef = .int .u64 x.2 := by
  obtain ⟨hi, rfl⟩ := List.getElem?_eq_some_iff.1 h
  obtain ⟨e1, e2⟩ := flat_get l i hi
  simp [List.getD, e1, e2]
theorem own_prow {Z : Zone} {B : Nat} {w : World} {v : Value} {l : List Pr} (h : POwn B w v l) : RowAt Z w v 52 2 (l.map PD) True := by
  refine ⟨flat l, ⟨by rw [flat_len]; simp, ?_⟩, fun u hu => ?_, fun i r hi => ?_, fun _ i r j x hi hj => ?_⟩
  · rcases h.2 with h | ⟨g, cap, cur, e, hb, rest⟩
    · exact .inl (by simpa using h)
    · exact .inr ⟨g, cap, cur, by simpa using e, Nat.zero_le _, by simpa using rest⟩
  · unfold flat at hu
    rw [List.mem_flatMap] at hu
    obtain ⟨x, _, hx⟩ := hu
    simp at hx
    rcases hx with rfl | rfl <;> rfl
  all_goals
    simp only [List.getElem?_map, Option.map_eq_some_iff] at hi
    obtain ⟨y, hy, rfl⟩ := hi
  · rfl
  · obtain ⟨e1, e2⟩ := flat_getD l hy
    have hj2 : j < 2 := by have := (List.getElem?_eq_some_iff.1 hj).1; simpa [PD] using this
    rcases (show j = 0 ∨ j = 1 by omega) with rfl | rfl
    · simp only [PD, List.getElem?_cons_zero, Option.some.injEq] at hj; subst hj; rw [Nat.add_zero, e1]; exact .v _
    · simp only [PD, List.getElem?_cons_succ, List.getElem?_cons_zero, Option.some.injEq] at hj; subst hj; rw [e2]; exact .v _
theorem vs0 {vs : Array Value} (h : vs.size = 0) : vs = #[] := by simpa using h
theorem vs1 {vs : Array Value} (h : vs.size = 1) : vs = #[vs.getD 0 undef] := by
  obtain ⟨l, rfl⟩ : ∃ l : List Value, vs = l.toArray := ⟨vs.toList, rfl⟩
  match l, h with
  | [a], _ => rfl
theorem vs2 {vs : Array Value} (h : vs.size = 2) : vs = #[vs.getD 0 undef, vs.getD 1 undef] := by
  obtain ⟨l, rfl⟩ : ∃ l : List Value, vs = l.toArray := ⟨vs.toList, rfl⟩
  match l, h with
  | [a, b], _ => rfl
theorem vs3 {vs : Array Value} (h : vs.size = 3) : vs = #[vs.getD 0 undef, vs.getD 1 undef, vs.getD 2 undef] := by
  obtain ⟨l, rfl⟩ : ∃ l : List Value, vs = l.toArray := ⟨vs.toList, rfl⟩
  match l, h with
  | [a, b, c], _ => rfl
theorem ct1 {P : Program} {f : FuncId} {a : DV} {app : Option TypeId} {res : Res} (h : ∀ Z w v, RepDV Z w v a → Calls P f #[v] w (CtR w app res)) : Ct P f [a] app res := fun Z w vs ⟨hs, hv⟩ => by
  rw [vs1 hs]; exact h Z w _ (hv 0 a rfl)
theorem ct2 {P : Program} {f : FuncId} {a b : DV} {app : Option TypeId} {res : Res} (h : ∀ Z w v u, RepDV Z w v a → RepDV Z w u b → Calls P f #[v, u] w (CtR w app res)) : Ct P f [a, b] app res := fun Z w vs ⟨hs, hv⟩ => by
  rw [vs2 hs]; exact h Z w _ _ (hv 0 a rfl) (hv 1 b rfl)
theorem ct3 {P : Program} {f : FuncId} {a b c : DV} {app : Option TypeId} {res : Res} (h : ∀ Z w v u t, RepDV Z w v a → RepDV Z w u b → RepDV Z w t c → Calls P f #[v, u, t] w (CtR w app res)) : Ct P f [a, b, c] app res := fun Z w vs ⟨hs, hv⟩ => by
  rw [vs3 hs]; exact h Z w _ _ _ (hv 0 a rfl) (hv 1 b rfl) (hv 2 c rfl)
theorem ctr_raw {w w' : World} {v : Value} (B : Below w.heap.size w w') : CtR w none (.one (.c (.v v))) (.returned v) w' := ⟨v, fun _ => False, rfl, B, fun _ h => h.elim, .v v⟩
theorem ctr_new {w w' : World} {v : Value} {res : Res} (B : Below w.heap.size w w') (h : RepR (newZ w w') w' v res) : CtR w none res (.returned v) w' := ⟨v, newZ w w', rfl, B, newZ_ok, h⟩
theorem ctr_own {w w' : World} {v : Value} {l : List Pr} (B : Below w.heap.size w w') (h : POwn w.heap.size w' v l) : CtR w (some 52) (.one (.c (RD l))) (.returned v) w' :=
  ⟨v, fun _ => False, rfl, B, fun _ h => h.elim, own_prow h, fun g hg => ⟨(h.lt g hg).1, fun h => h⟩⟩
theorem pair_of {Z : Zone} {w : World} {v : Value} {x : Pr} (h : RepDV Z w v (PV x)) : v = .agg #[.int .u64 x.1, .int .u64 x.2] := by
  obtain ⟨vs, e, hs, k⟩ := h
  simp only [List.length_cons, List.length_nil] at hs
  obtain ⟨l, rfl⟩ : ∃ l : List Value, vs = l.toArray := ⟨vs.toList, rfl⟩
  match l, hs with
  | [a, b], _ =>
    have ea : a = .int .u64 x.1 := by simpa using (k 0 _ rfl).raw
    have eb : b = .int .u64 x.2 := by simpa using (k 1 _ rfl).raw
    rw [e, ea, eb]
theorem ctr_tup2 {w w' : World} {v u : Value} {a b : DV} (B : Below w.heap.size w w') (h : RepDV (newZ w w') w' v a) (h' : RepDV (newZ w w') w' u b) : CtR w none (.tup [a, b]) (.returned (.tuple #[v, u])) w' :=
  ctr_new B ⟨_, rfl, rfl, fun i x hi => by
    match i, hi with
    | 0, hi => simp at hi; subst hi; exact h
    | 1, hi => simp at hi; subst hi; exact h'
    | i + 2, hi => simp at hi⟩
/-! ### contracts -/
theorem compare_ct (x y : Pr) : Ct Try.prog 56 [PV x, PV y] none (.one (dI (pcmp x y))) := ct2 fun Z w v u h h' => by
  rw [pair_of h, pair_of h']
  exact (compare_any _ _ _ _ w).mono fun e w' ⟨he, B⟩ => by subst he; exact ctr_raw B
theorem ahead_ct (x y : Pr) : Ct Try.prog 60 [PV x, PV y] none (.one (dB (decide (lt x y)))) := ct2 fun Z w v u h h' => by
  rw [pair_of h, pair_of h']
  exact (ahead_any _ _ _ _ w).mono fun e w' ⟨he, B⟩ => by subst he; exact ctr_raw B
theorem runion_ct (l m : List Pr) (hn : l.length ≤ 1000000) (hm : m.length ≤ 1000000) : Ct Try.prog 78 [.c (RD l), .c (RD m)] (some 52) (.one (.c (RD (unionL l m)))) := ct2 fun Z w v u h h' => by
  refine (union_any v u l m w (prow_of h) (prow_of h') hn hm).mono ?_
  rintro e w' ⟨⟨v', rfl, k⟩, B⟩
  exact ctr_own B k
theorem one_ct (t : Tr) (hs : t.1.length ≤ 1000000) : Ct Try.prog 37 [TD t] none (.one (dB (oneL t))) := ct1 fun Z w v h => by
  obtain ⟨a, b, rfl, k1⟩ := tpair_of h
  exact (one_any a b t w k1 hs).mono fun e w' ⟨he, B⟩ => by subst he; exact ctr_raw B
theorem says_ct (l : List Tr) (x : Pr) : Ct Try.prog 96 [.c (TsD l), PV x] none (.one (dI (saysL l x))) := ct2 fun Z w v u h h' => by
  rw [pair_of h']
  exact (says_any v l x.1 x.2 w (trow_of h)).mono fun e w' ⟨he, B⟩ => by subst he; exact ctr_raw B
theorem equal_ct (l m : List Pr) : Ct Try.prog 40 [.c (RD l), .c (RD m)] none (.one (dB (decide (l = m)))) := ct2 fun Z w v u h h' =>
  (equal_any v u l m w (prow_of h) (prow_of h')).mono fun e w' ⟨he, B⟩ => by subst he; exact ctr_raw B
theorem clone_ct (l : List Pr) (hn : l.length ≤ 100000000) : Ct Try.prog 98 [.c (RD l)] (some 52) (.one (.c (RD l))) := ct1 fun Z w v h => by
  refine (clone_any v l w (prow_of h) hn).mono ?_
  rintro e w' ⟨⟨v', rfl, k⟩, B⟩
  exact ctr_own B k
theorem cx_N (W0 : World) (N : Nat) (Z : Zone) : (cx W0 N Z).N = N := rfl
theorem cx_pz (W0 : World) (N : Nat) (Z : Zone) : (cx W0 N Z).pz = [0] := rfl
def tb {α : Type} (d : Nat → α) : List (Nat × α) → Nat → α
  | [], n => d n
  | (k, v) :: t, n => if n = k then v else tb d t n
theorem tb_nil {α : Type} (d : Nat → α) (n : Nat) : tb d [] n = d n := rfl
theorem tb_cons {α : Type} (d : Nat → α) (k : Nat) (v : α) (t : List (Nat × α)) (n : Nat) : tb d ((k, v) :: t) n = if n = k then v else tb d t n := rfl
def vw (nb : List (Nat × Nat)) (zo zf : List (Nat × List Nat)) (hb : List (Nat × Option Nat)) : Vw := ⟨tb (fun n => n) nb, tb (fun n => [n]) zo, tb (fun _ => []) zf, tb (fun n => some n) hb⟩
theorem vw_nb (nb : List (Nat × Nat)) (zo zf : List (Nat × List Nat)) (hb : List (Nat × Option Nat)) (n : Nat) : (vw nb zo zf hb).nb n = tb (fun n => n) nb n := rfl
theorem vw_zo (nb : List (Nat × Nat)) (zo zf : List (Nat × List Nat)) (hb : List (Nat × Option Nat)) (n : Nat) : (vw nb zo zf hb).zo n = tb (fun n => [n]) zo n := rfl
theorem vw_zf (nb : List (Nat × Nat)) (zo zf : List (Nat × List Nat)) (hb : List (Nat × Option Nat)) (n : Nat) : (vw nb zo zf hb).zf n = tb (fun _ => []) zf n := rfl
theorem vw_hb (nb : List (Nat × Nat)) (zo zf : List (Nat × List Nat)) (hb : List (Nat × Option Nat)) (n : Nat) : (vw nb zo zf hb).hb n = tb (fun n => some n) hb n := rfl
theorem kvp_av (x : AV) (k : AV → Prop) : kvp (.av x) k = k x := rfl
theorem hdp_some (r : Row) (zs : List Nat) (d : D) (k : List Nat → D → Prop) : hdp (some (r, zs, d)) k = k zs d := rfl
section
variable (σ σ' : St) (V : Vw)
theorem Fv_c (zs zs' : List Nat) (d d' : D) : Fv σ σ' V (.c zs d) (.c zs' d') = ((d = d' ∨ d.nrm = d') ∧ subz V zs zs' ∧ ∀ z ∈ zs', Uz σ' z) := by
  unfold Fv
  split <;> simp_all
theorem Fv_seg (zs zs' : List Nat) (d d' : List D) : Fv σ σ' V (.seg zs d) (.seg zs' d') = (d = d' ∧ subz V zs zs' ∧ ∀ z ∈ zs', Uz σ' z) := rfl
theorem Fv_tup (zs zs' : List Nat) (d d' : List DV) : Fv σ σ' V (.tup zs d) (.tup zs' d') = (d = d' ∧ subz V zs zs' ∧ ∀ z ∈ zs', Uz σ' z) := rfl
theorem Fv_agg (cs cs' : List (List Nat × D)) : Fv σ σ' V (.agg cs) (.agg cs') = FvL σ' V cs cs' := rfl
theorem Fv_ptr (n o n' o' : Nat) : Fv σ σ' V (.ptr n o) (.ptr n' o') = (V.nb n' = n ∧ o = o' ∧ Nm σ' n') := rfl
theorem Fv_wp (κ κ' : VK) (n n' : Nat) : Fv σ σ' V (.wp κ n) (.wp κ' n') = (κ = κ' ∧ V.nb n' = n ∧ Nm σ' n') := rfl
theorem Fv_ptrs (n o : Nat) (zs' : List Nat) (ds : List D) : Fv σ σ' V (.ptr n o) (.seg zs' ds) = (frz V n zs' ∧ fzc σ V n zs' o ds ∧ ∀ z ∈ zs', Uz σ' z) := rfl
theorem Fv_fn (g g' : FuncId) (caps caps' : List Nat) : Fv σ σ' V (.fn g caps) (.fn g' caps') = (g = g' ∧ caps'.map V.nb = caps ∧ ∀ n ∈ caps', Nm σ' n) := rfl
theorem Fv_fnd (g g' : FuncId) (caps zs' : List Nat) (ds : List D) : Fv σ σ' V (.fn g caps) (.c zs' (.f g' ds)) = (g = g' ∧ fzcaps σ V zs' caps ds ∧ ∀ z ∈ zs', Uz σ' z) := rfl
theorem Fv_own (h h' : Nat) : Fv σ σ' V (.own h) (.own h') = (V.hb h' = some h ∧ Uh σ' h') := rfl
theorem Fv_ownd (h : Nat) (zs' : List Nat) (d' : D) : Fv σ σ' V (.own h) (.c zs' d') = ((hdp (hdd σ (.own h)) fun zs d => d = d' ∧ subz V zs zs') ∧ ∀ z ∈ zs', Uz σ' z) := rfl
theorem Fv_nown (k h' : Nat) : Fv σ σ' V (.c [] (.n k)) (.own h') = (V.hb h' = none ∧ Uh σ' h') := rfl
theorem Fv_vown (h' : Nat) : Fv σ σ' V (.c [] (.v (.slice none 0 0))) (.own h') = (V.hb h' = none ∧ Uh σ' h') := rfl
theorem FvL_nil : FvL σ' V [] [] = True := rfl
theorem FvL_cons (zs zs' : List Nat) (d d' : D) (cs cs' : List (List Nat × D)) : FvL σ' V ((zs, d) :: cs) ((zs', d') :: cs') = ((d = d' ∨ d.nrm = d') ∧ subz V zs zs' ∧ (∀ z ∈ zs', Uz σ' z) ∧ FvL σ' V cs cs') := rfl
theorem foks_nil (L L' : Row) : foks L L' V [] = True := rfl
theorem foks_cons (L L' : Row) (k : Key) (v : KV) (R : Row) : foks L L' V ((k, v) :: R) = (fok L L' V k v ∧ foks L L' V R) := rfl
theorem fok_tmp (L L' : Row) (t : Nat) (x' : AV) : fok L L' V (.tmp t) (.av x') = kvp (lk L (.tmp t)) fun x => Fv (lk L) (lk L') V x x' := rfl
theorem fok_vt (L L' : Row) (i t : Nat) (x' : AV) : fok L L' V (.vt i t) (.av x') = kvp (lk L (.vt i t)) fun x => Fv (lk L) (lk L') V x x' := rfl
theorem fok_cell (L L' : Row) (n k : Nat) (x' : AV) : fok L L' V (.cell n k) (.av x') = (lk L' (.nm n) = .nm true ∧ kvp (lk L (.cell (V.nb n) k)) fun x => Fv (lk L) (lk L') V x x') := rfl
theorem fok_nm (L L' : Row) (n : Nat) : fok L L' V (.nm n) (.nm true) = (lk L (.nm (V.nb n)) = .nm true) := rfl
theorem fok_zn (L L' : Row) (z : Nat) : fok L L' V (.zn z) (.zn .live) = ((∀ y ∈ V.zo z, lk L (.zn y) = .zn .live) ∧ ∀ n ∈ V.zf z, lk L (.nm n) = .nm true) := rfl
theorem fok_hd (L L' : Row) (h' E sz y' : Nat) (zs' : List Nat) (rows : List (List D)) : fok L L' V (.hd h') (.hd (.own E sz y' zs' rows)) = ((Uz (lk L') y' ∧ ∀ z ∈ zs', Uz (lk L') z) ∧ V.zf y' = [] ∧ opc (V.hb h') (fun h => khown (lk L (.hd h)) fun E0 sz0 y zs rows0 => E0 = E ∧ sz0 = sz ∧ rows0 = rows ∧ V.zo y' = [y] ∧ subz V zs zs') (rows = [] ∧ V.zo y' = [])) := rfl
theorem fok_sz (L L' : Row) (n c : Nat) : fok L L' V (.sz n) (.sz c) = (lk L (.sz (V.nb n)) = .sz c) := rfl
theorem fok_df (L L' : Row) (k : Nat) : fok L L' V .df (.df k) = True := rfl
theorem fzc_nil (n : Nat) (zs' : List Nat) (k : Nat) : fzc σ V n zs' k [] = True := rfl
theorem fzc_cons (n : Nat) (zs' : List Nat) (k : Nat) (d : D) (ds : List D) : fzc σ V n zs' k (d :: ds) = ((kvp (σ (.cell n k)) fun x => hdp (hdd σ x) fun zs d' => d = d' ∧ subz V zs zs') ∧ fzc σ V n zs' (k + 1) ds) := rfl
theorem fzcaps_nil (zs' : List Nat) : fzcaps σ V zs' [] [] = True := rfl
theorem fzcaps_cons (zs' : List Nat) (n : Nat) (ns : List Nat) (ds : List D) (rest : List D) : fzcaps σ V zs' (n :: ns) (.p ds :: rest) = (frz V n zs' ∧ fzc σ V n zs' 0 ds ∧ fzcaps σ V zs' ns rest) := rfl
end
theorem rowsOc_map {α : Type} {f : α → List D} (h : ∀ x, ∀ d ∈ f x, ocD d = true) (l : List α) : rowsOc (l.map f) := fun r hr x hx => by
  obtain ⟨y, _, rfl⟩ := List.mem_map.1 hr
  exact h y x hx
theorem all_map_isV {α : Type} {f : α → List D} (h : ∀ x, (f x).all D.isV = true) (l : List α) : (l.map f).all (fun r => r.all D.isV) = true := by
  rw [List.all_map, List.all_eq_true]
  intro x _
  exact h x
theorem nzr_RD (zs : List Nat) (l : List Pr) : nzr zs (l.map PD) = [] := by unfold nzr; rw [if_pos (all_map_isV (fun x => rfl) l)]
theorem oc_RD (l : List Pr) : rowsOc (l.map PD) := rowsOc_map (fun x d hd => by simp at hd; rcases hd with rfl | rfl <;> rfl) l
theorem rowsOc_nil : rowsOc [] = True := by simp [rowsOc]
theorem rowsOc_cons (r : List D) (rs : List (List D)) : rowsOc (r :: rs) = ((r.all ocD) = true ∧ rowsOc rs) := by simp [rowsOc]
theorem rowsOc_RD (l : List Pr) : rowsOc (l.map PD) = True := by simp only [eq_iff_iff, iff_true]; exact oc_RD l
theorem slice_take {rows : List (List D)} {k : Nat} (hk : k ≤ rows.length) {K : List (List D) → Prop} (h : K (rows.take k))  {q : Prop} : orr (sliceAny none (some (.i64, (k : Int))) none rows K) q :=
  orr_l ⟨none, some (.i64, k), none, by simp [nat?], by simp [nat?], by simp [nat?], by simp, by simp, by simpa using hk, by simp, by simpa using h⟩
theorem slice_from {rows : List (List D)} {k : Nat} (hk : k ≤ rows.length) {K : List (List D) → Prop} (h : K (rows.drop k))  {q : Prop} : orr (sliceAny (some (.i64, (k : Int))) none none rows K) q :=
  orr_l ⟨some (.i64, k), none, none, by simp [nat?], by simp [nat?], by simp [nat?], by simp, by simpa using hk, by simp, by simp, by simpa using h⟩
theorem filter_take_snoc (p : Pr → Bool) {l : List Pr} {k : Nat} (hk : k < l.length) : (l.take (k + 1)).filter p = (l.take k).filter p ++ (if p l[k] then [l[k]] else []) := by
  rw [List.take_succ_eq_append_getElem hk, List.filter_append, List.filter_cons, List.filter_nil]
/-! ### short names for the walk -/
section
variable {P : Program} {C : Cx} {r : Option Nat} {Q : Exit → Act → World → Prop} {L : Row} {q x y : Code}
class Jt (P : Prop) (Q : outParam Prop) : Prop where
  i : Q → P
instance : Jt (AW P C r (.seq x y) Q L) (AW P C r x (Exit.then (y.wpIn (Fr r) 10 P Q) Q) L) := ⟨AW.seq⟩
instance {i : Nat} : Jt (AW P C r (.block i q) Q L) (AW P C r q (Exit.inBlock i Q) L) := ⟨AW.block⟩
instance : Jt (AW P C r .skip Q L) (NX C Q .normal L) := ⟨AW.skip⟩
instance {i : Nat} : Jt (AW P C r (.exit i) Q L) (NX C Q (.exit i) L) := ⟨AW.exit⟩
instance : Jt (AW P C r .ret Q L) (NX C Q .ret L) := ⟨AW.ret⟩
instance {l : Nat} : Jt (AW P C r (.label l) Q L) (NX C Q .normal L) := ⟨AW.label⟩
instance : Jt (NX C (Exit.then (y.wpIn (Fr r) 10 P Q) Q) .normal L) (AW P C r y Q L) := ⟨NX.then⟩
instance {K : Act → World → Prop} : Jt (NX C (Exit.then K Q) .ret L) (NX C Q .ret L) := ⟨NX.ret⟩
instance {K : Act → World → Prop} {i : Nat} : Jt (NX C (Exit.then K Q) (.exit i) L) (NX C Q (.exit i) L) := ⟨NX.exit⟩
instance {i : Nat} : Jt (NX C (Exit.inBlock i Q) .ret L) (NX C Q .ret L) := ⟨NX.inRet⟩
instance {i : Nat} : Jt (NX C (Exit.inBlock i Q) .normal L) (NX C Q .normal L) := ⟨NX.inNormal⟩
instance {i : Nat} : Jt (NX C (Exit.inBlock i Q) (.exit i) L) (NX C Q .normal L) := ⟨NX.inExit⟩
theorem NX.a (h : AW P C r y Q L) : NX C (Exit.then (y.wpIn (Fr r) 10 P Q) Q) .normal L := NX.then h
theorem NX.g {i j : Nat} (e : j ≠ i) (h : NX C Q (.exit j) L) : NX C (Exit.inBlock i Q) (.exit j) L := NX.outExit e h
theorem arun.n {T : Tab P} {N : Nat} {pz : List Nat} {ops : Array Oper} {z : Nat} {L : Row} {ks : List (List Key × List Key)} {k : List (List Key × List Key) → Row → Prop} (h : k ks L) : arun T N pz ops z [] L ks k := h
theorem arun.s {T : Tab P} {N : Nat} {pz : List Nat} {ops : Array Oper} {z : Nat} {o : Oper} {todo : List Oper} {L : Row} {ks : List (List Key × List Key)} {k : List (List Key × List Key) → Row → Prop}
    (h : ∀ (K : Row → Trc → Prop) (K' : Row → Prop), Hid (∀ gr tr, arun T N pz ops (z + 1) todo (puts L tr.writes) (ks ++ [((gr ++ tr.reads).map (·.1), tr.writes.map (·.1))]) k → K gr tr) → Hid (∀ gr, arun T N pz ops (z + 1) todo (puts L (wr o.dst (.c [] (.v undef)))) (ks ++ [(gr.map (·.1), (wr o.dst (.c [] (.v undef))).map (·.1))]) k → K' gr) →
      chk (dok N o) (gd ops (lk L) o (fun gr => astep T (lk L) pz z o (K gr)) K')) : arun T N pz ops z (o :: todo) L ks k := AR.step h
theorem mixd : Try.prog.follows .mixedOrders = true := by kernel_rfl
theorem AW.rc {id : Nat} {l : List Oper} {draw : Bool} {N : Nat} {pz : List Nat} (base : Nat) (h : ∀ K : Row → Prop, Hid (∀ L', NX C Q .normal L' → K L') → arun ty N pz l.toArray base l L [] fun ks L' => Chk draw l.toArray ks ∧ K L')
    (hN : C.N = N := by first | exact cx_N _ _ _ | assumption) (hP : C.pz = pz := by first | exact cx_pz _ _ _ | assumption) (hb : (pz.all fun p => decide (p < base)) = true := by decide) : AW Try.prog C r (.region id l.toArray draw) Q L :=
  AW.re ty mixd hN hP base hb fun K hK => by rw [List.toList_toArray]; exact h K hK
theorem Jt.f {ops : Array Oper} {ks : List (List Key × List Key)} {K : Row → Prop} (hK : Hid (∀ L', NX C Q .normal L' → K L')) (h : NX C Q .normal L) : Chk false ops ks ∧ K L := ⟨chk_text _ _, hK.out _ h⟩
theorem view_of {L' : Row} {pz : List Nat} (V : Vw) (h : foks L L' V L') (hP : C.pz = pz := by first | exact cx_pz _ _ _ | assumption) (hc : fchk pz V (nmsOf L') (znsOf L') = true := by kernel_rfl) (hdf : lk L' .df = lk L .df := by rfl) : ∀ a w, AS C (lk L) a w → AS C (lk L') a w :=
  fun _ _ x => AS.fold (fold_of hP hc hdf h) x
end
theorem RowAt.evo {B B' : Zone} {w w' : World} {v : Value} {E sz : Nat} {rows : List (List D)} (h : RowAt B w v E sz rows True) (hB : KeptZ B B' w w') (ho : ∀ b, v.ownBlock = some b → w'.heap[b]? = w.heap[b]?) : RowAt B' w' v E sz rows True := by
  obtain ⟨vals, k2, k3, k4, k5⟩ := h
  exact ⟨vals, ownsRow_eq k2 ho, k3, k4, fun _ i r j x hi hj => (k5 trivial i r j x hi hj).evo hB⟩
theorem RowAt.lt {B : Zone} {w : World} {v : Value} {E sz : Nat} {rows : List (List D)} {lean : Prop} (h : RowAt B w v E sz rows lean) {b : Nat} (hb : v.ownBlock = some b) : ∃ cur, w.heap[b]? = some (.cells cur E (0, 0)) := by
  obtain ⟨vals, q, -⟩ := h
  rcases q.2 with ⟨rfl, _⟩ | ⟨g', cap, cur, rfl, _, e, _⟩
  · cases hb
  · simp only [Value.ownBlock, Option.some.injEq] at hb; subst hb; exact ⟨cur, e⟩
inductive CC where
  | d (x : D)
  | row (E sz : Nat) (rows : List (List D))
def CC.isRow : CC → Bool
  | .d _ => false
  | .row .. => true
def CCR (A B : Zone) (w : World) (g : Nat) (u : Value) : CC → Prop
  | .d x => RepD B w u x
  | .row E sz rows => RowAt B w u E sz rows True ∧ ∀ b, u.ownBlock = some b → A b ∧ b ≠ g
structure OW (A B : Zone) (w : World) (g : Nat) (cs : List CC) : Prop where
  own : A g
  us : ∃ us : Nat → Value, (∃ cur E, w.heap[g]? = some (.cells cur E (0, 0)) ∧ cur.size = cs.length ∧ ∀ j, j < cs.length → cur[j]? = some (us j)) ∧ (∀ j c, cs[j]? = some c → CCR A B w g (us j) c) ∧
    ∀ i j ci cj b, i ≠ j → cs[i]? = some ci → cs[j]? = some cj → ci.isRow = true → cj.isRow = true → (us i).ownBlock = some b → (us j).ownBlock ≠ some b
theorem CCR.evo {A A' B B' : Zone} {w w' : World} {g : Nat} {u : Value} {c : CC} (h : CCR A B w g u c) (hA : KeptZ A A' w w') (hB : KeptZ B B' w w') : CCR A' B' w' g u c := by
  cases c with
  | d x => exact RepD.evo h hB
  | row E sz rows =>
    obtain ⟨h1, h2⟩ := h
    have lt : ∀ b, u.ownBlock = some b → b < w.heap.size := fun b hb => by obtain ⟨cur, e⟩ := h1.lt hb; exact (Array.getElem?_eq_some_iff.1 e).1
    exact ⟨h1.evo hB fun b hb => (hA b (h2 b hb).1 (lt b hb)).2, fun b hb => ⟨(hA b (h2 b hb).1 (lt b hb)).1, (h2 b hb).2⟩⟩
theorem OW.evo {A A' B B' : Zone} {w w' : World} {g : Nat} {cs : List CC} (h : OW A B w g cs) (hA : KeptZ A A' w w') (hB : KeptZ B B' w w') : OW A' B' w' g cs := by
  obtain ⟨us, ⟨cur, E, e, h1, h2⟩, h3, h4⟩ := h.us
  have := hA g h.own (Array.getElem?_eq_some_iff.1 e).1
  exact ⟨this.1, us, ⟨cur, E, this.2.trans e, h1, h2⟩, fun j c hc => (h3 j c hc).evo hA hB, h4⟩
theorem cell_of {w : World} {g j : Nat} {cur : Array Value} {E : TypeId} {fz : Nat × Nat} {u : Value} (h : w.heap[g]? = some (.cells cur E fz)) (hu : cur[j]? = some u) : w.cell? ⟨g, j, none⟩ = some u := by
  unfold World.cell?
  simp only [h]
  simpa using hu
theorem cur_of {w : World} {g j : Nat} {cur : Array Value} {E : TypeId} {fz : Nat × Nat} {u : Value} (h : w.heap[g]? = some (.cells cur E fz)) (hu : w.cell? ⟨g, j, none⟩ = some u) : cur[j]? = some u := by
  unfold World.cell? at hu
  simp only [h] at hu
  simpa using hu
section
variable {P : Program} {C : Cx} {G : Gh} {σ σ' : St} {a : Act} {w w' : World}
theorem ASG.know (h : ASG C G σ a w) {n k : Nat} {y : AV} {v : Value} (hn : Nm σ n) (hc : w.cell? ⟨G.ρ n, k, none⟩ = some v) (hr : Rep G σ w v y) : ASG C G (ovr σ [(.cell n k, .av y)]) a w ∧ Evo G G σ (ovr σ [(.cell n k, .av y)]) w w := by
  obtain ⟨σ', hσ⟩ : ∃ σ', σ' = ovr σ [(.cell n k, .av y)] := ⟨_, rfl⟩
  rw [← hσ]
  have ko : ∀ kk, kk ≠ .cell n k → σ' kk = σ kk := fun kk e => by rw [hσ]; exact ovr_one_ne _ _ _ e
  have ks : σ' (.cell n k) = .av y := by rw [hσ]; exact ovr_one _ _ _
  have lv : ∀ y, Lv σ' y ↔ Lv σ y := fun y => by unfold Lv; rw [ko _ (by simp)]
  have uz : ∀ y, Uz σ' y ↔ Uz σ y := fun y => by unfold Uz; rw [ko _ (by simp)]
  have nm : ∀ m, Nm σ' m ↔ Nm σ m := fun m => by unfold Nm; rw [ko _ (by simp)]
  have ev : Evo G G σ σ' w w := by
    refine ⟨fun y hy => (uz y).2 hy, fun k hk => ?_, fun m hm => ⟨(nm m).2 hm, rfl⟩, fun y _ hl => ⟨(lv y).1 hl, rfl, fun _ _ => rfl⟩, fun k hk hl => ⟨?_, rfl⟩⟩
    · unfold Uh; rw [ko _ (by simp)]; exact hk
    · unfold Lh at hl ⊢; rw [ko _ (by simp)] at hl; exact hl
  refine ⟨?_, ev⟩
  obtain ⟨c, d1, d2⟩ := h.df
  have hs := h.sf n hn
  refine ⟨h.fr, ⟨c, by rw [ko _ (by simp)]; exact d1, d2.eq, fun i hi => ⟨(d2.ok i hi).obj, (d2.ok i hi).nb, fun q hq => (d2.ok i hi).nn q ((nm q).1 hq), fun z hz => (d2.ok i hi).nz z ((lv z).1 hz)⟩, d2.inj⟩, h.sz, fun t x e => ?_, fun i t x e => ?_, fun m j x e => ?_, fun m hm => h.nm m ((nm m).1 hm), fun n m hn hm e => h.inj n m ((nm n).1 hn) ((nm m).1 hm) e,
    fun y g hl hg => ?_, fun y g h0 hl hg => h.new y g h0 ((lv y).1 hl) hg, fun y1 y2 g hne hy1 hy2 h1 h2 => h.disj y1 y2 g hne ((lv y1).1 hy1) ((lv y2).1 hy2) h1 h2, fun h' E' sz' y' zs' rows' e => ?_, fun y hy hl => h.zz y hy ((lv y).1 hl), fun p hp => ⟨(h.ob p hp).obj, (h.ob p hp).nb, fun n hn => (h.ob p hp).nn n ((nm n).1 hn), fun z hz => (h.ob p hp).nz z ((lv z).1 hz)⟩, fun n hn => (h.sf n ((nm n).1 hn)).of_ko (ko _ (by simp))⟩
  · rw [ko _ (by simp)] at e
    obtain ⟨v, a, b⟩ := h.tmp t x e; exact ⟨v, a, b.evo ev⟩
  · rw [ko _ (by simp)] at e
    exact (h.vt i t x e).evo ev
  · by_cases he : m = n ∧ j = k
    · obtain ⟨rfl, rfl⟩ := he
      rw [ks] at e
      cases e
      obtain ⟨cur, t, hh⟩ := hs.s.cells hc
      exact ⟨(nm m).2 hn, v, hc, by simp [World.frozen?, hh], hr.evo ev⟩
    · rw [ko _ (by simp; exact fun a b => he ⟨a, b⟩)] at e
      obtain ⟨a, v, b, c, d⟩ := h.cell m j x e
      exact ⟨(nm m).2 a, v, b, c, d.evo ev⟩
  · obtain ⟨a, b⟩ := h.sep y g ((lv y).1 hl) hg
    exact ⟨a, fun n hn => b n ((nm n).1 hn)⟩
  · rw [ko _ (by simp)] at e
    exact (h.hd h' _ _ _ _ _ e).evo ev rfl
theorem ASG.stepN (h : ASG C G σ a w) {n : Nat} (hf : ∀ k x, σ (.cell n k) ≠ .av x) {K : Nat → Prop} (hk : Keeps K w w') (hB : ∀ k, C.B k → K k) (hN : ∀ m, m ≠ n → Nm σ m → K (G.ρ m)) (hZ : ∀ z g, Lv σ z → G.ζ z g → K g) (hD : ∀ k i, σ .df = .df k → i < k → K (G.δ i)) (hO : ∀ p ∈ C.ob, K p.1) (hs : Nm σ n → SoftN σ w' n (G.ρ n)) :
    ASG C G σ a w' ∧ Evo G G σ σ w w' := by
  have ev : Evo G G σ σ w w' := ⟨fun _ h => h, fun _ h => h, fun _ h => ⟨h, rfl⟩, fun z _ hl => ⟨hl, rfl, fun g hg => hk.block g (h.sep z g hl hg).1 (hZ z g hl hg)⟩, fun _ _ h => ⟨h, rfl⟩⟩
  obtain ⟨k, d1, d2⟩ := h.df
  refine ⟨⟨h.fr.trans ⟨hk.os, hk.tape, hk.output, hk.size, fun i hi hb => hk.block i hi (hB i hb)⟩, ⟨k, d1, d2.eq, fun i hi => ?_, d2.inj⟩, h.sz, fun t x e => ?_, fun i t x e => (h.vt i t x e).evo ev, fun m j x e => ?_, fun n hn => ⟨(h.nm n hn).1, by have := (h.nm n hn).2; have := hk.size; omega⟩, h.inj, fun z g hl hg => ?_, fun z g h0 hl hg => ?_, h.disj, fun h' E sz y zs rows e => (h.hd h' E sz y zs rows e).evo ev rfl, h.zz, fun p hp => ?_, fun m hm => ?_⟩, ev⟩
  · have m := d2.ok i hi
    exact ⟨(hk.block _ (Array.getElem?_eq_some_iff.1 m.obj).1 (hD k i d1 hi)).trans m.obj, m.nb, m.nn, m.nz⟩
  · obtain ⟨v, a, b⟩ := h.tmp t x e; exact ⟨v, a, b.evo ev⟩
  · obtain ⟨a, v, b, c, d⟩ := h.cell m j x e
    have hlt := (h.nm m a).2
    have ne : m ≠ n := fun q => by subst q; exact hf _ _ e
    exact ⟨a, v, (hk.cell hlt (hN m ne a)).trans b, (hk.frozen hlt (hN m ne a)).trans c, d.evo ev⟩
  · obtain ⟨a, b⟩ := h.sep z g hl hg; have := hk.size; exact ⟨by omega, b⟩
  · obtain ⟨a, b⟩ := h.new z g h0 hl hg
    exact ⟨a, b.of_eq (hk.block g (h.sep z g hl hg).1 (hZ z g hl hg))⟩
  · have m := h.ob p hp
    exact ⟨(hk.block _ (Array.getElem?_eq_some_iff.1 m.obj).1 (hO p hp)).trans m.obj, m.nb, m.nn, m.nz⟩
  · by_cases e : m = n
    · subst e; exact hs hm
    · exact (h.sf m hm).of_eq (hk.block _ (h.nm m hm).2 (hN m e hm))
theorem ASG.addrow (h : ASG C G σ a w) {z E sz : Nat} {zs : List Nat} {rows : List (List D)} {v : Value} (hz : σ (.zn z) = .zn .free) (hh : σ (.hd z) = .hd .free) (z0 : z ∉ C.pz) (hzs : ∀ y ∈ zs, Lv σ y) (hm : ∀ g, v.ownBlock = some g → Mine C G σ w g) (hrow : RowAt (G.zu zs) w v E sz rows True) :
    ∃ G', ASG C G' (ovr σ [(.hd z, .hd (.own E sz z zs rows)), (.zn z, .zn .live)]) a w ∧ Evo G G' σ (ovr σ [(.hd z, .hd (.own E sz z zs rows)), (.zn z, .zn .live)]) w w ∧ G'.ρ = G.ρ ∧ G'.δ = G.δ ∧ G'.τ z = v ∧ (∀ y, y ≠ z → G'.ζ y = G.ζ y) ∧ ∀ b, G'.ζ z b ↔ v.ownBlock = some b := by
  obtain ⟨vals, k1, k2, k3, k4⟩ := hrow
  have soft : ∀ g, v.ownBlock = some g → Soft w g := fun g hg => by
    rcases k1.2 with ⟨rfl, _⟩ | ⟨g', cap, cur, rfl, _, e, _⟩
    · cases hg
    · simp only [Value.ownBlock, Option.some.injEq] at hg; subst hg; exact .mk e
  obtain ⟨h1, e1⟩ := h.addzone z0 hz (fun g => v.ownBlock = some g) fun g hg => ⟨hm g hg, soft g hg⟩
  have lz : Lv (ovr σ [(.zn z, .zn .live)]) z := by unfold Lv; exact ovr_one _ _ _
  have nz : ∀ y ∈ zs, y ≠ z := fun y hy e => by have := hzs y hy; unfold Lv at this; rw [e, hz] at this; cases this
  obtain ⟨h2, e2⟩ := h1.addhd (n := z) (E := E) (sz := sz) (y := z) (zs := zs) (rows := rows) (by rw [ovr_one_ne _ _ _ (by simp)]; exact hh) v lz.used (fun y hy => e1.uz y (hzs y hy).used) (fun _ => ⟨fun g => by simp, vals, k1, k2, k3, fun hl i r j x hi hj =>
    (k4 trivial i r j x hi hj).mono fun g ⟨y, hy, hg⟩ => ⟨y, hy, by simpa [nz y hy] using hg⟩⟩)
  rw [ovr_ovr] at h2 e2
  exact ⟨_, h2, e1.trans e2, rfl, rfl, by simp, fun y hy => by simp [hy], fun b => by simp⟩
theorem ASG.addname0 (h : ASG C G σ a w) {n b c : Nat} (hn : σ (.nm n) = .nm false) (hb : Mine C G σ w b) (hs : ∃ cur E, w.heap[b]? = some (.cells cur E (0, 0)) ∧ cur.size = c) :
    ∃ G', ASG C G' (ovr σ [(.nm n, .nm true), (.sz n, .sz c)]) a w ∧ Evo G G' σ (ovr σ [(.nm n, .nm true), (.sz n, .sz c)]) w w ∧ G'.ρ n = b ∧ (∀ m, m ≠ n → G'.ρ m = G.ρ m) ∧ G'.δ = G.δ ∧ G'.τ = G.τ ∧ G'.ζ = G.ζ := by
  obtain ⟨G', hG⟩ : ∃ G', G' = ({ G with ρ := fun m => if m = n then b else G.ρ m } : Gh) := ⟨_, rfl⟩
  obtain ⟨σ', hσ⟩ : ∃ σ', σ' = ovr σ [(.nm n, .nm true), (.sz n, .sz c)] := ⟨_, rfl⟩
  rw [← hσ]
  have nn : ¬ Nm σ n := by unfold Nm; rw [hn]; simp
  have ko : ∀ kk, kk ≠ .nm n → kk ≠ .sz n → σ' kk = σ kk := fun kk e e2 => by
    rw [hσ]; simp only [ovr, fnd]
    rw [if_neg (fun q => e q.symm), if_neg (fun q => e2 q.symm)]
    rfl
  have kz : σ' (.sz n) = .sz c := by rw [hσ]; simp [ovr, fnd]
  have kn : ∀ m, Nm σ' m ↔ Nm σ m ∨ m = n := fun m => by
    rw [hσ]; unfold Nm; simp only [ovr, fnd, Key.nm.injEq]
    by_cases e : n = m
    · subst e; simp
    · rw [if_neg e, if_neg (by simp)]
      simp only [Option.getD_none]
      exact ⟨Or.inl, fun h => h.resolve_right (fun e' => e e'.symm)⟩
  have lv : ∀ z, Lv σ' z ↔ Lv σ z := fun z => by unfold Lv; rw [ko _ (by simp) (by simp)]
  have ρn : G'.ρ n = b := by rw [hG]; simp
  have ρo : ∀ m, m ≠ n → G'.ρ m = G.ρ m := fun m e => by rw [hG]; simp [e]
  have eζ : G'.ζ = G.ζ := by rw [hG]
  have eτ : G'.τ = G.τ := by rw [hG]
  have eδ : G'.δ = G.δ := by rw [hG]
  have ne : ∀ m, Nm σ m → m ≠ n := fun m hm e => nn (e ▸ hm)
  have ev : Evo G G' σ σ' w w := by
    refine ⟨fun z h => ?_, fun z h => ?_, fun m hm => ⟨(kn m).2 (.inl hm), ρo m (ne m hm)⟩, fun z _ hl => ⟨(lv z).1 hl, by rw [eζ], fun _ _ => rfl⟩, fun z _ hl => ⟨?_, by rw [eτ]⟩⟩
    · unfold Uz; rw [ko _ (by simp) (by simp)]; exact h
    · unfold Uh; rw [ko _ (by simp) (by simp)]; exact h
    · unfold Lh at hl ⊢; rw [ko _ (by simp) (by simp)] at hl; exact hl
  refine ⟨G', ?_, ev, ρn, ρo, eδ, eτ, eζ⟩
  obtain ⟨c', d1, d2⟩ := h.df
  refine ⟨h.fr, ⟨c', by rw [ko _ (by simp) (by simp)]; exact d1, ?_, fun i hi => ?_, by rw [eδ]; exact d2.inj⟩, h.sz, fun t x e => ?_, fun i t x e => ?_, fun m k x e => ?_, fun m hm => ?_, fun m m' hm hm' e => ?_, fun z g hl hz => ?_, fun z g h0 hl hz => h.new z g h0 ((lv z).1 hl) (by rw [eζ] at hz; exact hz),
    fun y z g hne hy hz h1 h2 => h.disj y z g hne ((lv y).1 hy) ((lv z).1 hz) (by rw [eζ] at h1; exact h1) (by rw [eζ] at h2; exact h2), fun h' E sz y zs rows e => ?_, fun y hy hl g => by rw [eζ]; exact h.zz y hy ((lv y).1 hl) g, fun p hp => ?_, fun m hm => ?_⟩
  · have : ∀ k, marks G' k = marks G k := fun k => by induction k with
      | zero => rfl
      | succ k ih => simp only [marks, ih, eδ]
    rw [this]; exact d2.eq
  · have m := d2.ok i hi
    rw [eδ]
    refine ⟨m.obj, m.nb, fun q hq => ?_, fun y hy hg => m.nz y ((lv y).1 hy) (by rw [eζ] at hg; exact hg)⟩
    rcases (kn q).1 hq with hq | rfl
    · rw [ρo q (ne q hq)]; exact m.nn q hq
    · rw [ρn]; exact fun e => hb.nd c' i d1 hi e.symm
  · rw [ko _ (by simp) (by simp)] at e
    obtain ⟨v, a, b⟩ := h.tmp t x e; exact ⟨v, a, b.evo ev⟩
  · rw [ko _ (by simp) (by simp)] at e
    exact (h.vt i t x e).evo ev
  · rw [ko _ (by simp) (by simp)] at e
    obtain ⟨h1, v, h2, h3, h4⟩ := h.cell m k x e
    rw [ρo m (ne m h1)]
    exact ⟨(kn m).2 (.inl h1), v, h2, h3, h4.evo ev⟩
  · rcases (kn m).1 hm with hm | rfl
    · rw [ρo m (ne m hm)]; exact h.nm m hm
    · rw [ρn]; exact ⟨hb.nb, hb.lt⟩
  · rcases (kn m).1 hm with h1 | rfl
    · rcases (kn m').1 hm' with h2 | rfl
      · rw [ρo m (ne m h1), ρo m' (ne m' h2)] at e; exact h.inj m m' h1 h2 e
      · rw [ρo m (ne m h1), ρn] at e; exact absurd e (hb.nn m h1)
    · rcases (kn m').1 hm' with h2 | rfl
      · rw [ρo m' (ne m' h2), ρn] at e; exact absurd e.symm (hb.nn m' h2)
      · rfl
  · rw [eζ] at hz
    obtain ⟨h1, h2⟩ := h.sep z g ((lv z).1 hl) hz
    refine ⟨h1, fun m hm => ?_⟩
    rcases (kn m).1 hm with hm | rfl
    · rw [ρo m (ne m hm)]; exact h2 m hm
    · rw [ρn]; rintro rfl; exact hb.nz z ((lv z).1 hl) hz
  · rw [ko _ (by simp) (by simp)] at e
    exact (h.hd h' E sz y zs rows e).evo ev (by rw [eτ])
  · have m := h.ob p hp
    refine ⟨m.obj, m.nb, fun q hq => ?_, fun y hy hg => m.nz y ((lv y).1 hy) (by rw [eζ] at hg; exact hg)⟩
    rcases (kn q).1 hq with hq | rfl
    · rw [ρo q (ne q hq)]; exact m.nn q hq
    · rw [ρn]; exact fun e => hb.no p hp e.symm
  · rcases (kn m).1 hm with hm | rfl
    · rw [ρo m (ne m hm)]; exact (h.sf m hm).of_ko (ko _ (by simp) (by simpa using ne m hm))
    · obtain ⟨cur, E, e1, e2⟩ := hs
      rw [ρn]
      exact ⟨.mk e1, fun c2 hc => by rw [kz] at hc; cases hc; exact ⟨cur, E, e1, e2⟩⟩
def oWr (n z : Nat) (zs : List Nat) : Nat → List CC → Row
  | _, [] => []
  | j, .d x :: cs => oWr n z zs (j + 1) cs ++ [(.cell n j, .av (.c (nz zs x) x))]
  | j, .row E sz rows :: cs => oWr n z zs (j + 1) cs ++ [(.cell n j, .av (.own ((j + 2) * 100000 + z))), (.hd ((j + 2) * 100000 + z), .hd (.own E sz ((j + 2) * 100000 + z) zs rows)), (.zn ((j + 2) * 100000 + z), .zn .live)]
theorem fnd_oWr {n z : Nat} {zs : List Nat} : ∀ (cs : List CC) (j : Nat) {k : Key} {v : KV}, fnd (oWr n z zs j cs) k = some v → (∃ i, k = .cell n i ∧ j ≤ i) ∨ (∃ i, j ≤ i ∧ k = .hd ((i + 2) * 100000 + z)) ∨ ∃ i, j ≤ i ∧ k = .zn ((i + 2) * 100000 + z)
  | [], j, k, v, h => by cases h
  | .d x :: cs, j, k, v, h => by
    unfold oWr at h
    rw [fnd_app, Option.or_eq_some_iff] at h
    rcases h with h | ⟨-, h⟩
    · rcases fnd_oWr cs (j + 1) h with ⟨i, h1, h2⟩ | ⟨i, h1, h2⟩ | ⟨i, h1, h2⟩
      · exact .inl ⟨i, h1, by omega⟩
      · exact .inr (.inl ⟨i, by omega, h2⟩)
      · exact .inr (.inr ⟨i, by omega, h2⟩)
    · simp only [fnd] at h
      split at h
      · rename_i e; exact .inl ⟨j, e.symm, Nat.le_refl _⟩
      · cases h
  | .row E sz rows :: cs, j, k, v, h => by
    unfold oWr at h
    rw [fnd_app, Option.or_eq_some_iff] at h
    rcases h with h | ⟨-, h⟩
    · rcases fnd_oWr cs (j + 1) h with ⟨i, h1, h2⟩ | ⟨i, h1, h2⟩ | ⟨i, h1, h2⟩
      · exact .inl ⟨i, h1, by omega⟩
      · exact .inr (.inl ⟨i, by omega, h2⟩)
      · exact .inr (.inr ⟨i, by omega, h2⟩)
    · simp only [fnd] at h
      split at h
      · rename_i e; exact .inl ⟨j, e.symm, Nat.le_refl _⟩
      · split at h
        · rename_i e; exact .inr (.inl ⟨j, Nat.le_refl _, e.symm⟩)
        · split at h
          · rename_i e; exact .inr (.inr ⟨j, Nat.le_refl _, e.symm⟩)
          · cases h
theorem oWr_cell {n z : Nat} {zs : List Nat} : ∀ (cs : List CC) (j i : Nat), j ≤ i → i < j + cs.length → fnd (oWr n z zs j cs) (.cell n i) ≠ none
  | [], j, i, h1, h2 => by simp at h2; omega
  | c :: cs, j, i, h1, h2 => by
    simp only [List.length_cons] at h2
    by_cases e : i = j
    · subst e
      cases c with
      | d x => unfold oWr; rw [fnd_app]; cases fnd (oWr n z zs (i + 1) cs) (.cell n i) <;> simp [fnd]
      | row E sz rows => unfold oWr; rw [fnd_app]; cases fnd (oWr n z zs (i + 1) cs) (.cell n i) <;> simp [fnd]
    · have := oWr_cell (n := n) (z := z) (zs := zs) cs (j + 1) i (by omega) (by omega)
      cases c with
      | d x => unfold oWr; rw [fnd_app]; intro q; simp only [Option.or_eq_none_iff] at q; exact this q.1
      | row E sz rows => unfold oWr; rw [fnd_app]; intro q; simp only [Option.or_eq_none_iff] at q; exact this q.1
theorem ASG.learn {n z : Nat} {zs : List Nat} {us : Nat → Value} : ∀ (cs : List CC) (j : Nat) (G : Gh) (σ : St), ASG C G σ a w → Nm σ n → (∀ y ∈ zs, Lv σ y) → (∀ p ∈ C.pz, p < z) → (∀ i c, cs[i]? = some c → w.cell? ⟨G.ρ n, j + i, none⟩ = some (us (j + i)) ∧ CCR (fun _ => True) (G.zu zs) w (G.ρ n) (us (j + i)) c) →
    (∀ i c b, cs[i]? = some c → c.isRow = true → (us (j + i)).ownBlock = some b → Mine C G σ w b) → (∀ i i' c c' b, i ≠ i' → cs[i]? = some c → cs[i']? = some c' → c.isRow = true → c'.isRow = true → (us (j + i)).ownBlock = some b → (us (j + i')).ownBlock ≠ some b) →
    (∀ i E sz rows, cs[i]? = some (.row E sz rows) → σ (.zn ((j + i + 2) * 100000 + z)) = .zn .free ∧ σ (.hd ((j + i + 2) * 100000 + z)) = .hd .free) →
    ∃ G', ASG C G' (ovr σ (oWr n z zs j cs)) a w ∧ Evo G G' σ (ovr σ (oWr n z zs j cs)) w w ∧ G'.ρ = G.ρ ∧ G'.δ = G.δ ∧ ∀ y, Lv (ovr σ (oWr n z zs j cs)) y → (Lv σ y ∧ G'.ζ y = G.ζ y) ∨ ∀ b, G'.ζ y b → ∃ i c, cs[i]? = some c ∧ c.isRow = true ∧ (us (j + i)).ownBlock = some b
  | [], j, G, σ, hA, _, _, _, _, _, _, _ => ⟨G, by unfold oWr; rw [ovr_nil]; exact hA, by unfold oWr; rw [ovr_nil]; exact Evo.refl _ _ _, rfl, rfl, fun y hy => .inl ⟨by unfold oWr at hy; rw [ovr_nil] at hy; exact hy, rfl⟩⟩
  | .d x :: cs, j, G, σ, hA, hn, hl, hz, hc, hm, hd, hf => by
    obtain ⟨c1, c2⟩ := hc 0 _ rfl
    obtain ⟨h1, e1⟩ := hA.know hn c1 (rep_nz (fun y hy => (hl y hy).used) c2)
    have ko : ∀ kk, (∀ m i, kk ≠ .cell m i) → (ovr σ [(.cell n (j + 0), .av (.c (nz zs x) x))]) kk = σ kk := fun kk e => ovr_one_ne _ _ _ (e _ _)
    have lv : ∀ y, Lv (ovr σ [(.cell n (j + 0), .av (.c (nz zs x) x))]) y ↔ Lv σ y := fun y => by unfold Lv; rw [ko _ (by simp)]
    have nm : ∀ y, Nm (ovr σ [(.cell n (j + 0), .av (.c (nz zs x) x))]) y ↔ Nm σ y := fun y => by unfold Nm; rw [ko _ (by simp)]
    obtain ⟨G', k1, k2, k3, k4, k5⟩ := ASG.learn cs (j + 1) G _ h1 ((nm n).2 hn) (fun y hy => (lv y).2 (hl y hy)) hz (fun i c hi => by
        have := hc (i + 1) c (by simpa using hi)
        rwa [show j + (i + 1) = j + 1 + i by omega] at this) (fun i c b hi hr hb => by
        have q := hm (i + 1) c b (by simpa using hi) hr (by rw [show j + (i + 1) = j + 1 + i by omega]; exact hb)
        exact ⟨q.lt, q.nb, fun m h => q.nn m ((nm m).1 h), fun y h => q.nz y ((lv y).1 h), fun k i e => q.nd k i (by rw [← ko _ (by simp)]; exact e), q.no⟩) (fun i i' c c' b hne hi hi' hr hr' hb => by
        have := hd (i + 1) (i' + 1) c c' b (by omega) (by simpa using hi) (by simpa using hi') hr hr' (by rw [show j + (i + 1) = j + 1 + i by omega]; exact hb)
        rwa [show j + (i' + 1) = j + 1 + i' by omega] at this) (fun i E sz rows hi => by
        obtain ⟨q1, q2⟩ := hf (i + 1) E sz rows (by simpa using hi)
        rw [show j + (i + 1) + 2 = j + 1 + i + 2 by omega] at q1 q2
        exact ⟨by rw [ko _ (by simp)]; exact q1, by rw [ko _ (by simp)]; exact q2⟩)
    rw [ovr_ovr] at k1 k2 k5
    refine ⟨G', ?_, ?_, k3, k4, fun y hy => ?_⟩
    · unfold oWr; exact k1
    · unfold oWr; exact e1.trans k2
    · unfold oWr at hy
      rcases k5 y hy with ⟨q1, q2⟩ | q
      · exact .inl ⟨(lv y).1 q1, q2⟩
      · refine .inr fun b hb => ?_
        obtain ⟨i, c, i1, i2, i3⟩ := q b hb
        exact ⟨i + 1, c, by simpa using i1, i2, by rw [show j + (i + 1) = j + 1 + i by omega]; exact i3⟩
  | .row E sz rows :: cs, j, G, σ, hA, hn, hl, hz, hc, hm, hd, hf => by
    obtain ⟨c1, c2, -⟩ := hc 0 _ rfl
    obtain ⟨f1, f2⟩ := hf 0 E sz rows rfl
    simp only [Nat.add_zero] at c1 c2 f1 f2
    have hm0 := fun b hb => hm 0 (.row E sz rows) b rfl rfl (by simpa using hb)
    obtain ⟨h, hh⟩ : ∃ h, h = (j + 2) * 100000 + z := ⟨_, rfl⟩
    rw [← hh] at f1 f2
    obtain ⟨G1, h1, e1, r1, d1, t1, z1, z2⟩ := hA.addrow (v := us j) f1 f2 (fun q => by have := hz _ q; omega) hl hm0 c2
    obtain ⟨σ1, hσ1⟩ : ∃ σ1, σ1 = ovr σ [(.hd h, .hd (.own E sz h zs rows)), (.zn h, .zn .live)] := ⟨_, rfl⟩
    rw [← hσ1] at h1 e1
    have s1 : ∀ kk, kk ≠ .hd h → kk ≠ .zn h → σ1 kk = σ kk := fun kk q1 q2 => by
      rw [hσ1]; simp only [ovr, fnd]; rw [if_neg (fun e => q1 e.symm), if_neg (fun e => q2 e.symm)]; rfl
    have n1 : Nm σ1 n := by unfold Nm; rw [s1 _ (by simp) (by simp)]; exact hn
    have u1 : Uh σ1 h := by unfold Uh; rw [hσ1]; simp [ovr, fnd]
    obtain ⟨h2, e2⟩ := h1.know (n := n) (k := j) (y := .own h) (v := us j) n1 (by rw [r1]; exact c1) ⟨u1, fun _ => t1.symm⟩
    obtain ⟨σ2, hσ2⟩ : ∃ σ2, σ2 = ovr σ1 [(.cell n j, .av (.own h))] := ⟨_, rfl⟩
    rw [← hσ2] at h2 e2
    have s2 : ∀ kk, kk ≠ .hd h → kk ≠ .zn h → (∀ m i, kk ≠ .cell m i) → σ2 kk = σ kk := fun kk q1 q2 q3 => by
      rw [hσ2, ovr_one_ne _ _ _ (q3 _ _)]; exact s1 kk q1 q2
    have nl : ∀ y, Lv σ y → y ≠ h := fun y hy q => by subst q; unfold Lv at hy; rw [f1] at hy; cases hy
    have lv : ∀ y, Lv σ2 y → y ≠ h → Lv σ y := fun y hy q => by unfold Lv at hy ⊢; rw [s2 _ (by simp) (by simpa using q) (by simp)] at hy; exact hy
    have nm : ∀ y, Nm σ2 y ↔ Nm σ y := fun y => by unfold Nm; rw [s2 _ (by simp) (by simp) (by simp)]
    have zu : ∀ b, G.zu zs b → G1.zu zs b := fun b ⟨y, hy, hb⟩ => ⟨y, hy, by rw [z1 y (nl y (hl y hy))]; exact hb⟩
    obtain ⟨G', k1, k2, k3, k4, k5⟩ := ASG.learn cs (j + 1) G1 σ2 h2 ((nm n).2 hn) (fun y hy => by
        have := hl y hy
        unfold Lv at this ⊢
        rw [s2 _ (by simp) (by simpa using nl y (hl y hy)) (by simp)]; exact this) hz (fun i c hi => by
        have := hc (i + 1) c (by simpa using hi)
        rw [show j + (i + 1) = j + 1 + i by omega] at this
        rw [r1]
        exact ⟨this.1, this.2.evo (fun b hb _ => ⟨hb, rfl⟩) fun b hb _ => ⟨zu b hb, rfl⟩⟩) (fun i c b hi hr hb => by
        have hb' : (us (j + (i + 1))).ownBlock = some b := by rw [show j + (i + 1) = j + 1 + i by omega]; exact hb
        have q := hm (i + 1) c b (by simpa using hi) hr hb'
        refine ⟨q.lt, q.nb, fun m h => by rw [r1]; exact q.nn m ((nm m).1 h), fun y hy => ?_, fun k i e => by rw [d1]; exact q.nd k i (by rw [← s2 _ (by simp) (by simp) (by simp)]; exact e), q.no⟩
        by_cases e : y = h
        · subst e
          rw [z2]
          exact fun e2 => hd 0 (i + 1) (.row E sz rows) c b (by omega) rfl (by simpa using hi) rfl hr (by simpa using e2) hb'
        · rw [z1 y e]; exact q.nz y (lv y hy e)) (fun i i' c c' b hne hi hi' hr hr' hb => by
        have := hd (i + 1) (i' + 1) c c' b (by omega) (by simpa using hi) (by simpa using hi') hr hr' (by rw [show j + (i + 1) = j + 1 + i by omega]; exact hb)
        rwa [show j + (i' + 1) = j + 1 + i' by omega] at this) (fun i E sz rows hi => by
        obtain ⟨q1, q2⟩ := hf (i + 1) E sz rows (by simpa using hi)
        rw [show j + (i + 1) + 2 = j + 1 + i + 2 by omega] at q1 q2
        exact ⟨by rw [s2 _ (by simp) (by simp; omega) (by simp)]; exact q1, by rw [s2 _ (by simp; omega) (by simp) (by simp)]; exact q2⟩)
    have eq : ovr σ2 (oWr n z zs (j + 1) cs) = ovr σ (oWr n z zs j (.row E sz rows :: cs)) := by
      rw [hσ2, hσ1, ovr_ovr, ovr_ovr]
      have e0 : oWr n z zs j (.row E sz rows :: cs) = oWr n z zs (j + 1) cs ++ [(.cell n j, .av (.own ((j + 2) * 100000 + z))), (.hd ((j + 2) * 100000 + z), .hd (.own E sz ((j + 2) * 100000 + z) zs rows)), (.zn ((j + 2) * 100000 + z), .zn .live)] := rfl
      rw [e0, ← hh]
      simp
    rw [eq] at k1 k2 k5
    refine ⟨G', k1, (e1.trans e2).trans k2, k3.trans r1, k4.trans d1, fun y hy => ?_⟩
    rcases k5 y hy with ⟨q1, q2⟩ | q
    · by_cases e : y = h
      · subst e
        refine .inr fun b hb => ⟨0, _, rfl, rfl, ?_⟩
        rw [q2, z2] at hb
        simpa using hb
      · exact .inl ⟨lv y q1 e, q2.trans (z1 y e)⟩
    · refine .inr fun b hb => ?_
      obtain ⟨i, c, i1, i2, i3⟩ := q b hb
      exact ⟨i + 1, c, by simpa using i1, i2, by rw [show j + (i + 1) = j + 1 + i by omega]; exact i3⟩
end
def VK.av : VK → Nat → AV
  | .ptr off, n => .ptr n off
  | κ, n => .wp κ n
def oRead (L : St) (n : Nat) : Nat → Nat → Option (Row × List CC × List (Option Nat) × List Nat)
  | _, 0 => some ([], [], [], [])
  | j, c + 1 => match L (.cell n j) with
    | .av (.own h) => match L (.hd h) with
      | .hd (.own E sz y zs rows) => obd (zr L (y :: zs)) fun r1 => obd (oRead L n (j + 1) c) fun r => some ((.cell n j, .av (.own h)) :: (.hd h, .hd (.own E sz y zs rows)) :: (r1 ++ r.1), .row E sz rows :: r.2.1, some y :: r.2.2.1, zs ++ r.2.2.2)
      | _ => none
    | .av x => obd (hdd L x) fun y => obd (zr L y.2.1) fun r1 => obd (oRead L n (j + 1) c) fun r => some ((.cell n j, .av x) :: (y.1 ++ (r1 ++ r.1)), .d y.2.2.nrm :: r.2.1, none :: r.2.2.1, y.2.1 ++ r.2.2.2)
    | _ => none
theorem obd_ok {α β : Type} {e : Option α} {k : α → Option β} {r : β} (h : obd e k = some r) : ∃ v, e = some v ∧ k v = some r := by
  cases e with
  | none => cases h
  | some v => exact ⟨v, rfl, h⟩
section
variable {P : Program} {C : Cx} {G : Gh} {σ σ' : St} {a : Act} {w w' : World} {L : St}
theorem kav_rep {κ : VK} {n : Nat} (h : Nm σ n) : Rep G σ w (κ.val (G.ρ n)) (κ.av n) := by
  cases κ <;> exact ⟨h, rfl⟩
theorem kav_val {κ : VK} {n : Nat} {v : Value} (h : Rep G σ w v (κ.av n)) : v = κ.val (G.ρ n) ∧ Nm σ n := by
  cases κ <;> exact ⟨h.rep, h.ok⟩
theorem oRead_rd {n : Nat} : ∀ {c j : Nat} {r : Row} {y : List CC × List (Option Nat) × List Nat}, oRead L n j c = some (r, y) → Rd L r
  | 0, j, r, y, h => by simp only [oRead, Option.some.injEq, Prod.mk.injEq] at h; rw [← h.1]; exact Rd.nil
  | c + 1, j, r, y, h => by
    unfold oRead at h
    split at h
    · rename_i h0 hc
      split at h
      · rename_i E sz yy zs rows hh
        obtain ⟨r1, e1, h⟩ := obd_ok h
        obtain ⟨q, e2, h⟩ := obd_ok h
        simp only [Option.some.injEq, Prod.mk.injEq] at h
        rw [← h.1]
        exact Rd.cons hc (Rd.cons hh (Rd.app (zr_rd e1) (oRead_rd (y := q.2) e2)))
      · cases h
    · rename_i x _ hc
      obtain ⟨y1, e0, h⟩ := obd_ok h
      obtain ⟨r1, e1, h⟩ := obd_ok h
      obtain ⟨q, e2, h⟩ := obd_ok h
      simp only [Option.some.injEq, Prod.mk.injEq] at h
      rw [← h.1]
      exact Rd.cons hc (Rd.app (hdd_rd (y := y1.2) e0) (Rd.app (zr_rd e1) (oRead_rd (y := q.2) e2)))
    · cases h
theorem zr_ndf : ∀ {zs : List Nat} {r : Row}, zr L zs = some r → ∀ kv ∈ r, kv.1 ≠ .df
  | [], r, h, kv, hk => by simp only [zr, Option.some.injEq] at h; subst h; cases hk
  | z :: zs, r, h, kv, hk => by
    unfold zr at h
    split at h
    · rw [Option.map_eq_some_iff] at h
      obtain ⟨q, h1, rfl⟩ := h
      rcases List.mem_cons.1 hk with rfl | hk
      · simp
      · exact zr_ndf h1 kv hk
    · cases h
theorem hdd_ndf {x : AV} {r : Row} {y : List Nat × D} (h : hdd L x = some (r, y)) : ∀ kv ∈ r, kv.1 ≠ .df := fun kv hk => by
  unfold hdd at h
  split at h
  · simp only [Option.some.injEq, Prod.mk.injEq] at h; rw [← h.1] at hk; cases hk
  · simp only [Option.some.injEq, Prod.mk.injEq] at h; rw [← h.1] at hk; cases hk
  · split at h
    · simp only [Option.some.injEq, Prod.mk.injEq] at h
      rw [← h.1] at hk
      simp at hk
      subst hk
      simp
    · cases h
  · cases h
theorem oRead_ndf {n : Nat} : ∀ {c j : Nat} {r : Row} {y : List CC × List (Option Nat) × List Nat}, oRead L n j c = some (r, y) → ∀ kv ∈ r, kv.1 ≠ .df
  | 0, j, r, y, h, kv, hk => by simp only [oRead, Option.some.injEq, Prod.mk.injEq] at h; rw [← h.1] at hk; cases hk
  | c + 1, j, r, y, h, kv, hk => by
    unfold oRead at h
    split at h
    · rename_i h0 hc
      split at h
      · rename_i E sz yy zs rows hh
        obtain ⟨r1, e1, h⟩ := obd_ok h
        obtain ⟨q, e2, h⟩ := obd_ok h
        simp only [Option.some.injEq, Prod.mk.injEq] at h
        rw [← h.1] at hk
        rcases List.mem_cons.1 hk with rfl | hk
        · simp
        · rcases List.mem_cons.1 hk with rfl | hk
          · simp
          · rcases List.mem_append.1 hk with hk | hk
            · exact zr_ndf e1 kv hk
            · exact oRead_ndf (y := q.2) e2 kv hk
      · cases h
    · rename_i x _ hc
      obtain ⟨y1, e0, h⟩ := obd_ok h
      obtain ⟨r1, e1, h⟩ := obd_ok h
      obtain ⟨q, e2, h⟩ := obd_ok h
      simp only [Option.some.injEq, Prod.mk.injEq] at h
      rw [← h.1] at hk
      rcases List.mem_cons.1 hk with rfl | hk
      · simp
      · rcases List.mem_append.1 hk with hk | hk
        · exact hdd_ndf (y := y1.2) e0 kv hk
        · rcases List.mem_append.1 hk with hk | hk
          · exact zr_ndf e1 kv hk
          · exact oRead_ndf (y := q.2) e2 kv hk
    · cases h
def cellV (w : World) (g j : Nat) : Value := (w.cell? ⟨g, j, none⟩).getD undef
theorem cellV_eq {g j : Nat} {u : Value} (h : w.cell? ⟨g, j, none⟩ = some u) : cellV w g j = u := by unfold cellV; rw [h]; rfl
theorem oRead_ok {n : Nat} (hA : ASG C G σ a w) : ∀ {c j : Nat} {r : Row} {cs : List CC} {yo : List (Option Nat)} {zs : List Nat}, oRead L n j c = some (r, cs, yo, zs) → Rd σ r →
    cs.length = c ∧ (∀ z ∈ zs, Lv σ z) ∧ (∀ y, some y ∈ yo → Lv σ y) ∧ yo.length = c ∧ ∀ i x, cs[i]? = some x → w.cell? ⟨G.ρ n, j + i, none⟩ = some (cellV w (G.ρ n) (j + i)) ∧ CCR (fun b => ∃ y, some y ∈ yo ∧ G.ζ y b) (G.zu zs) w (G.ρ n) (cellV w (G.ρ n) (j + i)) x ∧ (x.isRow = true → ∃ y, yo[i]? = some (some y) ∧ ∀ b, (cellV w (G.ρ n) (j + i)).ownBlock = some b ↔ G.ζ y b)
  | 0, j, r, cs, yo, zs, h, _ => by
    simp only [oRead, Option.some.injEq, Prod.mk.injEq] at h
    obtain ⟨_, rfl, rfl, rfl⟩ := h
    exact ⟨rfl, fun z hz => absurd hz (by simp), fun y hy => absurd hy (by simp), rfl, fun i x hi => by simp at hi⟩
  | c + 1, j, r, cs, yo, zs, h, hr => by
    unfold oRead at h
    split at h
    · rename_i h0 hc
      split at h
      · rename_i E sz yy zs0 rows hh
        obtain ⟨r1, e1, h⟩ := obd_ok h
        obtain ⟨⟨q1, q2, q3, q4⟩, e2, h⟩ := obd_ok h
        simp only [Option.some.injEq, Prod.mk.injEq] at h
        obtain ⟨rfl, rfl, rfl, rfl⟩ := h
        have sc := hr.head
        have sh := hr.tail.head
        have lz := zr_ok e1 hr.tail.tail.left
        obtain ⟨k1, k2, k3, k4, k5⟩ := oRead_ok hA e2 hr.tail.tail.right
        obtain ⟨hn, v, c1, c2, c3⟩ := hA.cell n j _ sc
        have ev : v = G.τ h0 := c3.rep ⟨_, _, _, _, _, sh⟩
        subst ev
        obtain ⟨o1, o2⟩ := (hA.hd h0 _ _ _ _ _ sh).own (lz yy List.mem_cons_self)
        refine ⟨by simp [k1], fun z hz => ?_, fun y hy => ?_, by simp [k4], fun i x hi => ?_⟩
        · rcases List.mem_append.1 hz with hz | hz
          · exact lz z (List.mem_cons_of_mem _ hz)
          · exact k2 z hz
        · rcases List.mem_cons.1 hy with hy | hy
          · cases hy; exact lz yy List.mem_cons_self
          · exact k3 y hy
        · cases i with
          | zero =>
            simp only [List.getElem?_cons_zero, Option.some.injEq] at hi
            subst hi
            rw [Nat.add_zero, cellV_eq c1]
            obtain ⟨vals, p1, p2, p3, p4⟩ := o2
            refine ⟨c1, ⟨⟨vals, p1, p2, p3, fun _ i r j x hi hj => (p4 (fun z hz => lz z (List.mem_cons_of_mem _ hz)) i r j x hi hj).mono fun b ⟨z, hz, hb⟩ => ⟨z, List.mem_append_left _ hz, hb⟩⟩, fun b hb => ⟨⟨yy, by simp, (o1 b).2 hb⟩, fun e => ?_⟩⟩, fun _ => ⟨yy, rfl, fun b => (o1 b).symm⟩⟩
            exact (hA.sep yy b (lz yy List.mem_cons_self) ((o1 b).2 hb)).2 n hn e.symm
          | succ i =>
            obtain ⟨m1, m2, m3⟩ := k5 i x (by simpa using hi)
            rw [show j + 1 + i = j + (i + 1) by omega] at m1 m2 m3
            refine ⟨m1, m2.evo (fun b ⟨y, hy, hb⟩ _ => ⟨⟨y, List.mem_cons_of_mem _ hy, hb⟩, rfl⟩) (fun b ⟨z, hz, hb⟩ _ => ⟨⟨z, List.mem_append_right _ hz, hb⟩, rfl⟩), fun hx => ?_⟩
            obtain ⟨y, y1, y2⟩ := m3 hx
            exact ⟨y, by simpa using y1, y2⟩
      · cases h
    · rename_i x _ hc
      obtain ⟨⟨y0, y1, y2⟩, e0, h⟩ := obd_ok h
      obtain ⟨r1, e1, h⟩ := obd_ok h
      obtain ⟨⟨q1, q2, q3, q4⟩, e2, h⟩ := obd_ok h
      simp only [Option.some.injEq, Prod.mk.injEq] at h
      obtain ⟨rfl, rfl, rfl, rfl⟩ := h
      have sc := hr.head
      have lz := zr_ok e1 hr.tail.right.left
      obtain ⟨k1, k2, k3, k4, k5⟩ := oRead_ok hA e2 hr.tail.right.right
      obtain ⟨hn, v, c1, c2, c3⟩ := hA.cell n j _ sc
      obtain ⟨d1, d2⟩ := hdd_ok e0 hA hr.tail.left c3
      refine ⟨by simp [k1], fun z hz => ?_, fun y hy => ?_, by simp [k4], fun i x hi => ?_⟩
      · rcases List.mem_append.1 hz with hz | hz
        · exact lz z hz
        · exact k2 z hz
      · rcases List.mem_cons.1 hy with hy | hy
        · cases hy
        · exact k3 y hy
      · cases i with
        | zero =>
          simp only [List.getElem?_cons_zero, Option.some.injEq] at hi
          subst hi
          rw [Nat.add_zero, cellV_eq c1]
          exact ⟨c1, ((d2 lz).nrm).mono fun b ⟨z, hz, hb⟩ => ⟨z, List.mem_append_left _ hz, hb⟩, fun h => by cases h⟩
        | succ i =>
          obtain ⟨m1, m2, m3⟩ := k5 i x (by simpa using hi)
          rw [show j + 1 + i = j + (i + 1) by omega] at m1 m2 m3
          refine ⟨m1, m2.evo (fun b ⟨y, hy, hb⟩ _ => ⟨⟨y, List.mem_cons_of_mem _ hy, hb⟩, rfl⟩) (fun b ⟨z, hz, hb⟩ _ => ⟨⟨z, List.mem_append_right _ hz, hb⟩, rfl⟩), fun hx => ?_⟩
          obtain ⟨y, w1, w2⟩ := m3 hx
          exact ⟨y, by simpa using w1, w2⟩
    · cases h
def forgN (σ : St) (n : Nat) : St := fun k => match k with
  | .cell m j => if m = n then (match σ (.cell m j) with | .av _ => .unk | v => v) else σ (.cell m j)
  | k => σ k
theorem forgN_less (n : Nat) : Lesser σ (forgN σ n) := fun k => by
  unfold forgN
  split
  · rename_i m j
    by_cases e : m = n
    · rw [if_pos e]
      split
      · exact .inr (.inl ⟨.inr (.inr ⟨m, j, rfl⟩), rfl⟩)
      · exact .inl rfl
    · rw [if_neg e]; exact .inl rfl
  · exact .inl rfl
theorem forgN_ne (n : Nat) {k : Key} (h : ∀ j, k ≠ .cell n j) : forgN σ n k = σ k := by
  unfold forgN
  split
  · rename_i m j
    rw [if_neg (fun e => by subst e; exact h j rfl)]
  · rfl
theorem forgN_av (n k : Nat) (x : AV) : forgN σ n (.cell n k) ≠ .av x := by
  show (if n = n then (match σ (.cell n k) with | .av _ => KV.unk | v => v) else σ (.cell n k)) ≠ .av x
  rw [if_pos rfl]
  split
  · simp
  · rename_i h; intro e; exact h _ e
theorem forgN_un {n k : Nat} (h : ∀ x, σ (.cell n k) ≠ .av x) : forgN σ n (.cell n k) = σ (.cell n k) := by
  show (if n = n then (match σ (.cell n k) with | .av _ => KV.unk | v => v) else σ (.cell n k)) = _
  rw [if_pos rfl]
  split
  · rename_i x e; exact absurd e (h x)
  · rfl
def oFree (L : St) (z : Nat) : Nat → List CC → Option Row
  | _, [] => some []
  | j, .d _ :: cs => oFree L z (j + 1) cs
  | j, .row .. :: cs => match L (.zn ((j + 2) * 100000 + z)), L (.hd ((j + 2) * 100000 + z)) with
    | .zn .free, .hd .free => (oFree L z (j + 1) cs).map fun r => (.zn ((j + 2) * 100000 + z), .zn .free) :: (.hd ((j + 2) * 100000 + z), .hd .free) :: r
    | _, _ => none
theorem oFree_rd {z : Nat} : ∀ {cs : List CC} {j : Nat} {r : Row}, oFree L z j cs = some r → Rd L r
  | [], j, r, h => by simp only [oFree, Option.some.injEq] at h; rw [← h]; exact Rd.nil
  | .d _ :: cs, j, r, h => oFree_rd (cs := cs) (j := j + 1) h
  | .row .. :: cs, j, r, h => by
    unfold oFree at h
    split at h
    · rename_i e1 e2
      rw [Option.map_eq_some_iff] at h
      obtain ⟨q, h1, rfl⟩ := h
      exact Rd.cons e1 (Rd.cons e2 (oFree_rd h1))
    · cases h
theorem oFree_ok {z : Nat} : ∀ {cs : List CC} {j : Nat} {r : Row}, oFree L z j cs = some r → Rd σ r → ∀ i E sz rows, cs[i]? = some (.row E sz rows) → σ (.zn ((j + i + 2) * 100000 + z)) = .zn .free ∧ σ (.hd ((j + i + 2) * 100000 + z)) = .hd .free
  | [], j, r, h, _, i, E, sz, rows, hi => by simp at hi
  | .d _ :: cs, j, r, h, hr, i, E, sz, rows, hi => by
    cases i with
    | zero => simp at hi
    | succ i =>
      have := oFree_ok (cs := cs) (j := j + 1) h hr i E sz rows (by simpa using hi)
      rwa [show j + 1 + i + 2 = j + (i + 1) + 2 by omega] at this
  | .row .. :: cs, j, r, h, hr, i, E, sz, rows, hi => by
    unfold oFree at h
    split at h
    · rename_i e1 e2
      rw [Option.map_eq_some_iff] at h
      obtain ⟨q, h1, rfl⟩ := h
      cases i with
      | zero => exact ⟨hr.head, hr.tail.head⟩
      | succ i =>
        have := oFree_ok h1 hr.tail.tail i E sz rows (by simpa using hi)
        rwa [show j + 1 + i + 2 = j + (i + 1) + 2 by omega] at this
    · cases h
theorem fnd_oWr_row {n z : Nat} {zs : List Nat} : ∀ (cs : List CC) (j : Nat) {y : Nat} {v : KV}, fnd (oWr n z zs j cs) (.zn y) = some v → ∃ q : Nat, ∀ σ : St, Lv σ y → (∀ i E sz rows, cs[i]? = some (.row E sz rows) → σ (.zn ((j + i + 2) * 100000 + z)) = .zn .free) → False
  | [], j, y, v, h => by cases h
  | .d x :: cs, j, y, v, h => by
    unfold oWr at h
    rw [fnd_app, Option.or_eq_some_iff] at h
    rcases h with h | ⟨-, h⟩
    · obtain ⟨q, hq⟩ := fnd_oWr_row cs (j + 1) h
      exact ⟨q, fun σ hl hf => hq σ hl fun i E sz rows hi => by
        have := hf (i + 1) E sz rows (by simpa using hi)
        rwa [show j + (i + 1) + 2 = j + 1 + i + 2 by omega] at this⟩
    · simp [fnd] at h
  | .row E sz rows :: cs, j, y, v, h => by
    unfold oWr at h
    rw [fnd_app, Option.or_eq_some_iff] at h
    rcases h with h | ⟨-, h⟩
    · obtain ⟨q, hq⟩ := fnd_oWr_row cs (j + 1) h
      exact ⟨q, fun σ hl hf => hq σ hl fun i E sz rows hi => by
        have := hf (i + 1) E sz rows (by simpa using hi)
        rwa [show j + (i + 1) + 2 = j + 1 + i + 2 by omega] at this⟩
    · simp only [fnd, reduceCtorEq, if_false, Key.zn.injEq] at h
      split at h
      · rename_i e
        subst e
        exact ⟨0, fun σ hl hf => by
          have := hf 0 E sz rows rfl
          rw [Nat.add_zero] at this
          unfold Lv at hl; rw [this] at hl; cases hl⟩
      · cases h
theorem obj_ow {n : Nat} {cs : List CC} {yo : List (Option Nat)} {zs : List Nat} {r : Row} (hA : ASG C G σ a w) (hn : Nm σ n) (hsz : σ (.sz n) = .sz cs.length) (hrd : oRead L n 0 cs.length = some (r, cs, yo, zs)) (hr : Rd σ r) (hnd : ∀ i j y : Nat, i ≠ j → yo[i]? = some (some y) → yo[j]? ≠ some (some y)) :
    OW (fun b => b = G.ρ n ∨ ∃ y, some y ∈ yo ∧ G.ζ y b) (G.zu zs) w (G.ρ n) cs := by
  obtain ⟨k1, k2, k3, k4, k5⟩ := oRead_ok hA hrd hr
  obtain ⟨cur, E, e1, e2⟩ := (hA.sf n hn).z _ hsz
  refine ⟨.inl rfl, fun j => cellV w (G.ρ n) j, ⟨cur, E, e1, e2, fun j hj => ?_⟩, fun j c hc => ?_, fun i j ci cj b hne hi hj ri rj hb hb' => ?_⟩
  · have := (k5 j _ (List.getElem?_eq_getElem hj)).1
    rw [Nat.zero_add] at this
    exact cur_of e1 this
  · have := (k5 j c hc).2.1
    rw [Nat.zero_add] at this
    exact this.evo (fun b hb _ => ⟨.inr hb, rfl⟩) fun b hb _ => ⟨hb, rfl⟩
  · obtain ⟨y1, p1, p2⟩ := (k5 i ci hi).2.2 ri
    obtain ⟨y2, q1, q2⟩ := (k5 j cj hj).2.2 rj
    rw [Nat.zero_add] at p2 q2
    have ne : y1 ≠ y2 := fun e => by subst e; exact hnd i j y1 hne p1 q1
    exact hA.disj y1 y2 b ne (k3 y1 (List.mem_of_getElem? p1)) (k3 y2 (List.mem_of_getElem? q1)) ((p2 b).1 hb) ((q2 b).1 hb')
end
section
variable {P : Program} {C : Cx} {G : Gh} {σ σ' : St} {a : Act} {w w' : World} {L : St}
theorem obj_turn (hA : ASG C G σ a w) {n z : Nat} {cs cs' : List CC} {yo : List (Option Nat)} {zB : List Nat} {A' Zn : Zone} (hn : Nm σ n) (hlen : cs'.length = cs.length) (hsz : σ (.sz n) = .sz cs.length) (hyl : ∀ y, some y ∈ yo → Lv σ y ∧ y ∉ C.pz) (hzB : ∀ y ∈ zB, Lv σ y ∧ some y ∉ yo)
    (hz : σ (.zn z) = .zn .free) (hzb : ∀ p ∈ C.pz, p < z) (hfr : ∀ i E sz rows, cs'[i]? = some (.row E sz rows) → σ (.zn ((0 + i + 2) * 100000 + z)) = .zn .free ∧ σ (.hd ((0 + i + 2) * 100000 + z)) = .hd .free)
    (hk : Keeps (fun b => ¬ (b = G.ρ n ∨ ∃ y, some y ∈ yo ∧ G.ζ y b)) w w') (hA' : ∀ b, A' b → ((b = G.ρ n ∨ ∃ y, some y ∈ yo ∧ G.ζ y b) ∨ w.heap.size ≤ b) ∧ Soft w' b) (hZn : ∀ b, Zn b → ((b = G.ρ n ∨ ∃ y, some y ∈ yo ∧ G.ζ y b) ∨ w.heap.size ≤ b) ∧ Soft w' b ∧ ¬ A' b) (hO : OW A' (fun b => G.zu zB b ∨ Zn b) w' (G.ρ n) cs') :
    ∃ G', ASG C G' (ovr σ (oWr n z (zB ++ [z]) 0 cs' ++ ((.zn z, .zn .live) :: deadZ (yo.filterMap id)))) a w' ∧ (∀ y ∈ zB, Lv (ovr σ (oWr n z (zB ++ [z]) 0 cs' ++ ((.zn z, .zn .live) :: deadZ (yo.filterMap id)))) y ∧ G'.ζ y = G.ζ y) ∧ Lv (ovr σ (oWr n z (zB ++ [z]) 0 cs' ++ ((.zn z, .zn .live) :: deadZ (yo.filterMap id)))) z ∧ (∀ b, G'.ζ z b ↔ Zn b) ∧
      (∀ b, ((b = G.ρ n ∨ ∃ y, some y ∈ yo ∧ G.ζ y b) ∨ w.heap.size ≤ b) → b < w'.heap.size → ¬ A' b → ¬ Zn b → Mine C G' (ovr σ (oWr n z (zB ++ [z]) 0 cs' ++ ((.zn z, .zn .live) :: deadZ (yo.filterMap id)))) w' b) ∧ G'.ρ = G.ρ := by
  have mem : ∀ y, y ∈ yo.filterMap id ↔ some y ∈ yo := fun y => by simp [List.mem_filterMap]
  obtain ⟨ys, hys⟩ : ∃ ys, ys = yo.filterMap id := ⟨_, rfl⟩
  rw [← hys] at mem ⊢
  obtain ⟨us, ⟨cur, E0, hb1, hb2, hb3⟩, hcc, hdis⟩ := hO.us
  obtain ⟨σ1, hσ1⟩ : ∃ σ1, σ1 = ovr σ (deadZ ys) := ⟨_, rfl⟩
  obtain ⟨σ2, hσ2⟩ : ∃ σ2, σ2 = forgN σ1 n := ⟨_, rfl⟩
  have l1 : Lesser σ σ1 := by rw [hσ1]; exact lesser_dead (σ := σ) ys
  have h1 : ASG C G σ1 a w := hA.less l1
  have h2 : ASG C G σ2 a w := by rw [hσ2]; exact h1.less (forgN_less n)
  have s1 : ∀ k, (∀ y ∈ ys, k ≠ .zn y) → σ1 k = σ k := fun k hk => by
    rw [hσ1]; simp only [ovr]
    cases k with
    | zn y => rw [fnd_dead, if_neg (fun h => hk y h rfl)]; rfl
    | _ => rw [fnd_dead_ne _ (by simp)]; rfl
  have s2 : ∀ k, (∀ y ∈ ys, k ≠ .zn y) → (∀ j, k ≠ .cell n j) → σ2 k = σ k := fun k q1 q2 => by rw [hσ2, forgN_ne n q2]; exact s1 k q1
  have lv2 : ∀ y, Lv σ2 y → Lv σ y ∧ y ∉ ys := fun y hy => by
    have e : σ2 (.zn y) = σ1 (.zn y) := by rw [hσ2, forgN_ne n (by simp)]
    unfold Lv at hy
    rw [e] at hy
    refine ⟨l1.lv hy, fun h => ?_⟩
    rw [hσ1] at hy
    simp [ovr, fnd_dead, h] at hy
  have lv2' : ∀ y, Lv σ y → y ∉ ys → Lv σ2 y := fun y hy h => by unfold Lv at hy ⊢; rw [s2 _ (fun q hq e => by cases e; exact h hq) (by simp)]; exact hy
  have nm2 : ∀ m, Nm σ2 m ↔ Nm σ m := fun m => by unfold Nm; rw [s2 _ (by simp) (by simp)]
  have hn2 : Nm σ2 n := (nm2 n).2 hn
  -- what is the object's is nobody's else
  have mA : ∀ b, (b = G.ρ n ∨ ∃ y, some y ∈ yo ∧ G.ζ y b) → b < w.heap.size ∧ ¬ C.B b ∧ (∀ m, m ≠ n → Nm σ m → G.ρ m ≠ b) ∧ (∀ y, Lv σ2 y → ¬ G.ζ y b) ∧ (∀ k i, σ .df = .df k → i < k → G.δ i ≠ b) ∧ ∀ p ∈ C.ob, p.1 ≠ b := by
    rintro b (rfl | ⟨y, hy, hb⟩)
    · refine ⟨(hA.nm n hn).2, (hA.nm n hn).1, fun m hm hmn e => hm (hA.inj m n hmn hn e), fun y hy hb => (hA.sep y _ (lv2 y hy).1 hb).2 n hn rfl, fun k i e hi e' => ?_, fun p hp e => (hA.ob p hp).nn n hn e.symm⟩
      obtain ⟨k', d1, d2⟩ := hA.df
      rw [d1] at e; cases e
      exact (d2.ok i hi).nn n hn e'.symm
    · obtain ⟨ly, py⟩ := hyl y hy
      refine ⟨(hA.sep y b ly hb).1, (hA.new y b py ly hb).1, fun m _ hmn => (hA.sep y b ly hb).2 m hmn, fun y' hy' hb' => ?_, fun k i e hi e' => ?_, fun p hp e => (hA.ob p hp).nz y ly (e ▸ hb)⟩
      · obtain ⟨q1, q2⟩ := lv2 y' hy'
        exact hA.disj y' y b (fun e => q2 ((mem y').2 (e ▸ hy))) q1 ly hb' hb
      · obtain ⟨k', d1, d2⟩ := hA.df
        rw [d1] at e; cases e
        exact (d2.ok i hi).nz y ly (e' ▸ hb)
  have hAn : A' (G.ρ n) := hO.own
  obtain ⟨h3, e3⟩ := h2.stepN (n := n) (fun k x => by rw [hσ2]; exact forgN_av n k x) hk (fun b hb h => (mA b h).2.1 hb) (fun m hm hmn h => (mA _ h).2.2.1 m hm ((nm2 m).1 hmn) rfl) (fun y b hy hb h => (mA b h).2.2.2.1 y hy hb) (fun k i e hi h => (mA _ h).2.2.2.2.1 k i (by rw [← s2 .df (by simp) (by simp)]; exact e) hi rfl) (fun p hp h => (mA _ h).2.2.2.2.2 p hp rfl)
    (fun _ => ⟨(hA' _ hAn).2, fun c hc => by
      rw [s2 _ (by simp) (by simp), hsz] at hc
      cases hc
      exact ⟨cur, E0, hb1, by rw [hb2, hlen]⟩⟩)
  have minew : ∀ b, ((b = G.ρ n ∨ ∃ y, some y ∈ yo ∧ G.ζ y b) ∨ w.heap.size ≤ b) → b < w'.heap.size → b ≠ G.ρ n → Mine C G σ2 w' b := fun b hb hlt hne => by
    rcases hb with hb | hb
    · obtain ⟨_, m2, m3, m4, m5, m6⟩ := mA b hb
      refine ⟨hlt, m2, fun m hm => ?_, m4, fun k i e => m5 k i (by rw [← s2 .df (by simp) (by simp)]; exact e), m6⟩
      by_cases e : m = n
      · subst e; exact fun q => hne q.symm
      · exact m3 m e ((nm2 m).1 hm)
    · exact h2.fresh hb hlt
  have znn : ∀ b, Zn b → b ≠ G.ρ n := fun b hb e => by subst e; exact (hZn _ hb).2.2 hAn
  have z2 : σ2 (.zn z) = .zn .free := by
    rw [s2 _ (fun y hy e => ?_) (by simp)]
    · exact hz
    · cases e
      have := (hyl z ((mem z).1 hy)).1
      unfold Lv at this; rw [hz] at this; cases this
  obtain ⟨h4, e4⟩ := h3.addzone (z := z) (fun q => Nat.lt_irrefl _ (hzb z q)) z2 Zn (fun b hb => ⟨minew b (hZn b hb).1 (hZn b hb).2.1.lt (znn b hb), (hZn b hb).2.1⟩)
  obtain ⟨G3, hG3⟩ : ∃ G3, G3 = ({ G with ζ := fun y => if y = z then Zn else G.ζ y } : Gh) := ⟨_, rfl⟩
  obtain ⟨σ3, hσ3⟩ : ∃ σ3, σ3 = ovr σ2 [(.zn z, .zn .live)] := ⟨_, rfl⟩
  rw [← hG3, ← hσ3] at h4 e4
  have gz : ∀ b, G3.ζ z b ↔ Zn b := fun b => by rw [hG3]; simp
  have go : ∀ y, y ≠ z → G3.ζ y = G.ζ y := fun y hy => by rw [hG3]; simp [hy]
  have s3 : ∀ k, k ≠ .zn z → σ3 k = σ2 k := fun k hk => by rw [hσ3]; exact ovr_one_ne _ _ _ hk
  have lz3 : Lv σ3 z := by unfold Lv; rw [hσ3]; exact ovr_one _ _ _
  have Bz : ∀ y ∈ zB, y ≠ z := fun y hy e => by subst e; have := (hzB _ hy).1; unfold Lv at this; rw [hz] at this; cases this
  have lB3 : ∀ y ∈ zB, Lv σ3 y := fun y hy => by
    have := lv2' y (hzB y hy).1 (fun h => (hzB y hy).2 ((mem y).1 h))
    unfold Lv at this ⊢
    rw [s3 _ (by simpa using Bz y hy)]; exact this
  have nm3 : ∀ m, Nm σ3 m ↔ Nm σ m := fun m => by unfold Nm; rw [s3 _ (by simp)]; exact nm2 m
  have zuB : ∀ b, (G.zu zB b ∨ Zn b) → G3.zu (zB ++ [z]) b := by
    rintro b (⟨y, hy, hb⟩ | hb)
    · exact ⟨y, List.mem_append_left _ hy, by rw [go y (Bz y hy)]; exact hb⟩
    · exact ⟨z, by simp, (gz b).2 hb⟩
  have min3 : ∀ b, ((b = G.ρ n ∨ ∃ y, some y ∈ yo ∧ G.ζ y b) ∨ w.heap.size ≤ b) → b < w'.heap.size → b ≠ G.ρ n → ¬ Zn b → Mine C G3 σ3 w' b := fun b hb hlt hne hz' => by
    have q := minew b hb hlt hne
    refine ⟨q.lt, q.nb, fun m hm => by rw [hG3]; exact q.nn m ((nm2 m).2 ((nm3 m).1 hm)), fun y hy => ?_, fun k i e => by rw [hG3]; exact q.nd k i (by rw [← s3 _ (by simp)]; exact e), q.no⟩
    by_cases e : y = z
    · subst e; rw [gz]; exact hz'
    · rw [go y e]
      exact q.nz y (by unfold Lv at hy ⊢; rw [← s3 _ (by simpa using e)]; exact hy)
  obtain ⟨G', k1, k2, k3, k4, k5⟩ := h4.learn (n := n) (z := z) (zs := zB ++ [z]) (us := us) cs' 0 G3 σ3 ((nm3 n).2 hn) (fun y hy => by
      rcases List.mem_append.1 hy with hy | hy
      · exact lB3 y hy
      · simp at hy; subst hy; exact lz3) hzb (fun i c hi => by
      rw [Nat.zero_add]
      have hlt : i < cs'.length := (List.getElem?_eq_some_iff.1 hi).1
      have r3 : G3.ρ = G.ρ := by rw [hG3]
      rw [r3]
      exact ⟨cell_of hb1 (hb3 i hlt), (hcc i c hi).evo (fun b _ _ => ⟨trivial, rfl⟩) fun b hb _ => ⟨zuB b hb, rfl⟩⟩) (fun i c b hi hr hb => by
      rw [Nat.zero_add] at hb
      have hc := hcc i c hi
      cases c with
      | d x => cases hr
      | row E sz rows =>
        obtain ⟨c1, c2⟩ := hc
        obtain ⟨q1, q2⟩ := c2 b hb
        obtain ⟨a1, a2⟩ := hA' b q1
        exact min3 b a1 a2.lt q2 fun hz' => (hZn b hz').2.2 q1) (fun i i' c c' b hne hi hi' hr hr' hb => by
      rw [Nat.zero_add] at hb ⊢
      exact hdis i i' c c' b hne hi hi' hr hr' hb) (fun i E sz rows hi => by
      obtain ⟨q1, q2⟩ := hfr i E sz rows hi
      refine ⟨?_, ?_⟩
      · rw [s3 _ (by simp), s2 _ (fun y hy e => ?_) (by simp)]
        · exact q1
        · cases e
          have := (hyl _ ((mem _).1 hy)).1
          unfold Lv at this; rw [q1] at this; cases this
      · rw [s3 _ (by simp), s2 _ (by simp) (by simp)]; exact q2)
  have eq : ovr σ3 (oWr n z (zB ++ [z]) 0 cs') = ovr σ (oWr n z (zB ++ [z]) 0 cs' ++ ((.zn z, .zn .live) :: deadZ ys)) := by
    funext k
    simp only [hσ3, ovr, fnd_app]
    by_cases e1 : fnd (oWr n z (zB ++ [z]) 0 cs') k = none
    · rw [e1]
      simp only [Option.none_or, Option.getD_none, fnd]
      by_cases e2 : Key.zn z = k
      · simp [e2]
      · rw [if_neg e2, if_neg e2]
        simp only [Option.getD_none]
        have key : ∀ j, k = .cell n j → forgN σ1 n k = σ1 k := by
          rintro j rfl
          refine forgN_un fun x e => ?_
          have hc : cs'.length ≤ j := Nat.le_of_not_lt fun hlt => oWr_cell cs' 0 j (Nat.zero_le _) (by omega) e1
          rw [s1 _ (by simp)] at e
          obtain ⟨_, v, v1, _⟩ := hA.cell n j x e
          obtain ⟨cur', E', c1, c2⟩ := (hA.sf n hn).z _ hsz
          have := cur_of c1 v1
          have := (Array.getElem?_eq_some_iff.1 this).1
          omega
        rw [hσ2]
        have e3 : forgN σ1 n k = σ1 k := by
          by_cases hc : ∃ j, k = .cell n j
          · obtain ⟨j, hj⟩ := hc; exact key j hj
          · exact forgN_ne n fun j e => hc ⟨j, e⟩
        rw [e3, hσ1]
        rfl
    · cases hh : fnd (oWr n z (zB ++ [z]) 0 cs') k with
      | none => exact absurd hh e1
      | some v => rfl
  rw [eq] at k1 k2 k5
  have ko : ∀ k, (∀ v, fnd (oWr n z (zB ++ [z]) 0 cs') k ≠ some v) → ovr σ (oWr n z (zB ++ [z]) 0 cs' ++ ((.zn z, .zn .live) :: deadZ ys)) k = σ3 k := fun k hk => by
    rw [← eq]
    simp only [ovr]
    cases hh : fnd (oWr n z (zB ++ [z]) 0 cs') k with
    | none => rfl
    | some v => exact absurd hh (hk v)
  have nozn : ∀ y v, (∀ i, y ≠ (i + 2) * 100000 + z) → fnd (oWr n z (zB ++ [z]) 0 cs') (.zn y) ≠ some v := fun y v hy h => by
    rcases fnd_oWr cs' 0 h with ⟨i, h1, _⟩ | ⟨i, _, h1⟩ | ⟨i, _, h1⟩
    · cases h1
    · cases h1
    · cases h1; exact hy i rfl
  have k6 : ∀ y, Uz σ3 y → Lv (ovr σ (oWr n z (zB ++ [z]) 0 cs' ++ ((.zn z, .zn .live) :: deadZ ys))) y → G'.ζ y = G3.ζ y := fun y hy hl => (k2.lv y hy hl).2.1
  have livez : ∀ y, Lv σ3 y → Lv (ovr σ (oWr n z (zB ++ [z]) 0 cs' ++ ((.zn z, .zn .live) :: deadZ ys))) y := fun y hy => by
    by_cases h : ∃ v, fnd (oWr n z (zB ++ [z]) 0 cs') (.zn y) = some v
    · obtain ⟨v, hv⟩ := h
      exfalso
      rcases fnd_oWr cs' 0 hv with ⟨i, h1, _⟩ | ⟨i, _, h1⟩ | ⟨i, _, h1⟩
      · cases h1
      · cases h1
      · cases h1
        obtain ⟨q, hq⟩ := fnd_oWr_row cs' 0 hv
        exact hq σ3 hy (fun i E sz rows hi => by
          obtain ⟨f1, _⟩ := hfr i E sz rows hi
          rw [s3 _ (by simp), s2 _ (fun y hy e => ?_) (by simp)]
          · exact f1
          · cases e
            have := (hyl _ ((mem _).1 hy)).1
            unfold Lv at this; rw [f1] at this; cases this)
    · unfold Lv at hy ⊢
      rw [ko _ (fun v hv => h ⟨v, hv⟩)]; exact hy
  refine ⟨G', k1, fun y hy => ⟨livez y (lB3 y hy), ?_⟩, livez z lz3, fun b => ?_, fun b hb hlt hna hnz => ?_, k3.trans (by rw [hG3])⟩
  · rw [k6 y (lB3 y hy).used (livez y (lB3 y hy))]; exact go y (Bz y hy)
  · rw [k6 z lz3.used (livez z lz3)]; exact gz b
  · have hne : b ≠ G.ρ n := fun e => by subst e; exact hna hAn
    have q := min3 b hb hlt hne hnz
    refine ⟨q.lt, q.nb, fun m hm => ?_, fun y hy => ?_, fun k i e => ?_, q.no⟩
    · rw [k3]
      refine q.nn m ?_
      unfold Nm at hm ⊢
      rw [ko _ (fun v h => by rcases fnd_oWr cs' 0 h with ⟨i, h1, _⟩ | ⟨i, _, h1⟩ | ⟨i, _, h1⟩ <;> cases h1)] at hm
      exact hm
    · rcases k5 y hy with ⟨q1, q2⟩ | q1
      · rw [q2]; exact q.nz y q1
      · intro hb'
        obtain ⟨i, c, c1, c2, c3⟩ := q1 b hb'
        rw [Nat.zero_add] at c3
        have hc := hcc i c c1
        cases c with
        | d x => cases c2
        | row E sz rows => exact hna (hc.2 b c3).1
    · rw [k4]
      refine q.nd k i ?_
      rw [ko _ (fun v h => by rcases fnd_oWr cs' 0 h with ⟨i, h1, _⟩ | ⟨i, _, h1⟩ | ⟨i, _, h1⟩ <;> cases h1)] at e
      exact e
end
theorem AW.scope {P : Program} {C : Cx} {c : Code} {Q : Exit → Act → World → Prop} {L : Row} (h : AW P C none c (Exit.noGoto Q) L) : AW P C none (.scope c) Q L := fun a w hA => wpIn_wide.2 (wp_scope_straight (wpIn_wide.1 (h a w hA)))
theorem NX.sN {C : Cx} {Q : Exit → Act → World → Prop} {L : Row} (h : NX C Q .normal L) : NX C (Exit.noGoto Q) .normal L := h
theorem ud_RD {Z : Zone} {w : World} {v : Value} (l : List Pr) (h : RepD Z w v (RD l)) : RepD Z w v (.s 2 (uR l.length)) := by
  refine RepD.conv h (by simp [uR]) (fun i r' hi => ?_)
  obtain ⟨hlt, rfl⟩ : i < l.length ∧ r' = [.st isU, .st isU] := by
    simp only [uR, List.getElem?_replicate] at hi
    split at hi
    · exact ⟨by assumption, by cases hi; rfl⟩
    · cases hi
  refine ⟨PD l[i], by simp [hlt], rfl, fun j x' hj => ?_⟩
  rcases j with _ | _ | j
  · cases hj; exact ⟨_, rfl, fun u hu => .st _ _ ⟨_, hu.raw⟩⟩
  · cases hj; exact ⟨_, rfl, fun u hu => .st _ _ ⟨_, hu.raw⟩⟩
  · simp at hj
theorem nums_uR (n : Nat) : Nums (.s 2 (uR n)) := ud_uR n
end Go.Proofs.Ytlkdkhmdmgchbaa
namespace Go.Proofs.Ytlkdkhmdmgchbaa
set_option linter.unusedSimpArgs false
set_option linter.unusedVariables false
open Go.RowKit Go.Shelf
attribute [local go_sem] Oper.semAt_some
set_option maxRecDepth 100000

abbrev told1 (l : List Pr) : List (List DV) := l.map fun p => [PV p]
theorem vcell {Z : Zone} {w0 W : World} {p : Option Addr} {cap : Nat} {l : List Pr} (hr : RepD Z w0 (.slice p l.length cap) (RD l)) (hk : KZ Z w0 w0 W) (hl : 0 < l.length) :
    ∃ g o, p = some ⟨g, o, none⟩ ∧ ∀ k (h : k < l.length), W.cell? ⟨g, o + k * 2, none⟩ = some (.int .u64 (l[k]).1) ∧ W.cell? ⟨g, o + k * 2 + 1, none⟩ = some (.int .u64 (l[k]).2) := by
  obtain ⟨g, o, cap', vals, e, h1, h2, h3, h4⟩ := hr.at (by simpa using hl)
  simp only [Value.slice.injEq] at e
  obtain ⟨rfl, -, -⟩ := e
  refine ⟨g, o, rfl, fun k h => ?_⟩
  have q := fun j x => h4 k (PD l[k]) j x (by simp [h])
  have tr : ∀ o' u, Z g → w0.cell? ⟨g, o', none⟩ = some u → W.cell? ⟨g, o', none⟩ = some u := fun o' u hz hc => by
    have hlt := World.lt_of_cell hc
    exact (World.cell?_of_block (w := w0) (a := ⟨g, o', none⟩) (hk g hz hlt)).trans hc
  obtain ⟨a1, a2, a3⟩ := q 0 _ rfl
  obtain ⟨b1, b2, b3⟩ := q 1 _ rfl
  rw [a3.raw] at a2
  rw [b3.raw] at b2
  exact ⟨tr _ _ a1 a2, tr _ _ b1 b2⟩
set_option maxRecDepth 100000 in
set_option maxHeartbeats 4000000 in
theorem vals_iter (Z : Zone) (w0 : World) (b : Nat) (p : Option Addr) (cap : Nat) (l : List Pr) (hz : Z b) (c0 : w0.cell? ⟨b, 0, none⟩ = some (.slice p l.length cap)) (hr : RepD Z w0 (.slice p l.length cap) (RD l)) :
    Iter Try.prog 158 #[.pointer (some ⟨b, 0, none⟩)] (fun vs : Array Value => vs) (fun _ => True) (fun W => KZ Z w0 w0 W) (fun A B => KZ Z w0 A B)
      (fun pre vs => ∃ x, (told1 l)[pre.length]? = some x ∧ Reps (fun g => Z g ∧ g < w0.heap.size) w0 vs x) (fun xs => xs.length = (told1 l).length) (fun _ => True) := by
  intro y J Jx W hW jK jxK hY h0
  have HJ := hid jK
  have HJx := hid jxK
  have HY := hid hY
  clear jK jxK hY
  have len : l.length ≤ maxI := by
    obtain ⟨_, _, e, h1, h2, _⟩ := hr.form
    simp only [Value.slice.injEq, List.length_map] at e h1
    omega
  have HLN := hid len
  have VC := hid (fun W hk hl => vcell (W := W) hr hk hl)
  have CB := hid (fun (W : World) (hk : KZ Z w0 w0 W) => show W.cell? ⟨b, 0, none⟩ = some (.slice p l.length cap) from (World.cell?_of_block (w := w0) (a := ⟨b, 0, none⟩) (hk b hz (World.lt_of_cell c0))).trans c0)
  have KM := hid (fun (W W' : World) (hk : KZ Z w0 w0 W) (hb : Below W.heap.size W W') => show KZ Z w0 w0 W' from fun g hg hl => (hb.block g (by have q := hk g hg hl; rw [Array.getElem?_eq_getElem hl] at q; exact (Array.getElem?_eq_some_iff.1 q).1)).trans (hk g hg hl))
  clear hr len
  refine callsIn_of_wp Try.func158 rfl trivial ?_ rfl
  simp only [Try.ntmps158, List.size_toArray, List.length_cons, List.length_nil, Nat.reduceAdd, Nat.reduceSub, Array.replicate_succ, Array.replicate_zero, List.push_toArray, List.append_toArray, List.nil_append, List.cons_append]
  have cw := CB.out W hW
  have HW := hid hW; clear hW
  have H0 := hid h0; clear h0
  clear c0
  refine wpIn_wide.2 ?_
  go_wp2_with fail
  clear cw
  go_loopw [7] (fun v7 wr => ∃ (k : Nat) (pre : List (Array Value)), v7 = (.int .i64 (k)) ∧ k ≤ l.length ∧ pre.length = k ∧ Hid (KZ Z w0 w0 wr) ∧ Hid (J pre wr)) (fun v7 _ => l.length - (intOf v7).toNat)
  case atStart => exact ⟨0, [], rfl, Nat.zero_le _, rfl, HW, H0⟩
  case round =>
    clear HW H0
    obtain ⟨k, pre, rfl, hk, hpre, H, HP⟩ := hrel
    by_cases hgo : k < l.length
    · have hgo' : (k : Int) < (l.length : Int) := by omega
      have hwk : IntKind.i64.wrap ((k : Int) + 1) = ((k + 1 : Nat) : Int) := by have := HLN.out; unfold maxI at this; rw [i64_ok _ (by omega) (by omega)]; omega
      obtain ⟨g, o, hp, hc⟩ := VC.out wr H.out (by omega)
      subst hp
      obtain ⟨d0, d1⟩ := hc k hgo
      clear hc
      obtain ⟨x, hx⟩ : ∃ x, l[k] = x := ⟨_, rfl⟩
      rw [hx] at d0 d1
      obtain ⟨x0, x1⟩ := x
      simp only at d0 d1
      have s3 := World.lt_of_cell d0
      have HX := hid hx; clear hx
      have HP' := hid (HJ.out _ _ _ HP.out (Keeps.of_below (below_alloc wr (.cells #[.int .u64 x0, .int .u64 x1] 52))))
      have H' := hid (KM.out _ _ H.out (below_alloc wr (.cells #[.int .u64 x0, .int .u64 x1] 52)))
      obtain ⟨fn, tmps, assign, body, hy, hR⟩ := HY.out pre #[.agg #[.int .u64 x0, .int .u64 x1]] _ HP'.out ⟨[PV (x0, x1)], by simp [hpre, hgo, HX.out], by simp, by
        intro i d hd
        match i, hd with
        | 0, hd =>
          simp at hd
          subst hd
          exact ⟨#[.int .u64 x0, .int .u64 x1], rfl, rfl, fun j d hd => by
            match j, hd with
            | 0, hd => simp at hd; subst hd; exact .v _
            | 1, hd => simp at hd; subst hd; exact .v _⟩⟩
      have HR := hid hR; clear hR
      go_upto_region 3 with fail
      refine (wpIn_wide (n := 9)).1 ?_
      gi_wp2_with fail
      refine HR.out.mono ?_
      have KT := hid (fun W' (h : KZ Z w0 (wr.alloc (.cells #[.int .u64 x0, .int .u64 x1] 52)) W') => KZ.trans H'.out h)
      rintro e w8 (⟨rfl, hj4, hk8⟩ | ⟨rfl, hj4⟩)
      · have H8 := hid (KT.out _ hk8)
        have HJ8 := hid hj4
        clear d0 d1 hy hk8
        gi_wp2_with fail
        (try go_wp2_with fail)
        exact ⟨⟨k + 1, pre ++ [#[.agg #[.int .u64 x0, .int .u64 x1]]], by simp, hgo, by simp [hpre], H8, HJ8⟩, by simp [intOf]; omega⟩
      · have HJ8 := hid hj4
        clear d0 d1 hy
        gi_wp2_with fail
        (try go_wp2_with fail)
        (try rw [Exit.noGoto_ret]); (try rw [Exit.noGoto_normal])
        refine bodyPost_ret (results_none rfl _ _ _) rfl ?_
        exact ⟨⟨_, rfl⟩, .inr ⟨_, trivial, HJ8.out⟩⟩
    · obtain rfl : k = l.length := by omega
      have h1 : ¬ (l.length : Int) < (l.length : Int) := by omega
      go_wp2_with fail
      (try rw [Exit.noGoto_ret]); (try rw [Exit.noGoto_normal])
      go_end0
      exact ⟨⟨_, rfl⟩, .inl ⟨pre, by simpa using hpre, HP.out⟩⟩
set_option maxRecDepth 100000 in
theorem itok_vals (Z : Zone) (w : World) (b : Nat) (v : Value) (l : List Pr) (hz : Z b) (c0 : w.cell? ⟨b, 0, none⟩ = some v) (hr : RepD Z w v (RD l)) :
    ItOk Try.prog (told1 l) Z w (.func (.func 158) #[] #[.pointer (some ⟨b, 0, none⟩)]) := by
  obtain ⟨p, cap, rfl, h1, h2, h3⟩ := hr.form
  simp only [List.length_map] at c0 hr
  exact ⟨_, _, rfl, fun _ _ => rfl, vals_iter Z w b p cap l hz c0 hr⟩
end Go.Proofs.Ytlkdkhmdmgchbaa
namespace Go.Proofs.Ytlkdkhmdmgchbaa
set_option linter.unusedSimpArgs false
set_option linter.unusedVariables false
open Go.RowKit
open Go.Maps (Keyed)
open Go.WideElems (Fit rd rg rd_key rd_val rg_of)
set_option maxRecDepth 100000
def pvv (p : Pr) : Value := .agg #[.int .u64 p.1, .int .u64 p.2]
theorem laidOut_try : laidOutB Try.prog = true := by kernel_rfl
theorem rowPair : (52 : TypeId) < Try.prog.types.size := of_decide_eq_true (by kernel_rfl)
theorem widePair : (match Try.prog.underlying 52 with | some (.array _ _) | some (.struct _) => true | _ => false) = true := by kernel_rfl
theorem keyedPair : Keyed Try.prog 52 := Keyed.of_law (deep_law_laid laidOut_try (m := 2) (by omega) rowPair (by kernel_rfl) widePair)
def wfP (p : Pr) : Prop := ∃ l, keyOf Try.prog 52 (pvv p) = some l
noncomputable def kL (p : Pr) : Lit := (keyOf Try.prog 52 (pvv p)).getD (.bool false)
theorem wfP.key {p : Pr} (h : wfP p) : keyOf Try.prog 52 (pvv p) = some (kL p) := by
  obtain ⟨l, h⟩ := h
  simp [kL, h]
theorem kL_inj {p q : Pr} (hp : wfP p) (hq : wfP q) (h : kL p = kL q) : p = q := by
  have := keyedPair.inj (hp.key) (h ▸ hq.key)
  simp only [pvv, Value.agg.injEq, Array.mk.injEq, List.cons.injEq, Value.int.injEq, true_and, and_true] at this
  exact Prod.ext this.1 this.2
theorem cells52 : Try.prog.cellsOf 52 = 2 := by kernel_rfl
theorem cellsU : Try.prog.cellsOf 50 = 1 := by kernel_rfl
theorem keyT : Try.prog.keyType 52 = true := by kernel_rfl
theorem sizeT : ∃ m, Try.prog.types.size = m + 1 := ⟨_, rfl⟩
theorem wfP_of {p : Pr} (h1 : (Lit.int .u64 p.1).wf = true) (h2 : (Lit.int .u64 p.2).wf = true) : wfP p := by
  obtain ⟨m, hm⟩ := sizeT
  unfold wfP keyOf pvv
  simp only [Try.underlying52]
  rw [if_pos (by simp [keyT, Value.formed, Try.underlying52, cells52]), hm]
  unfold Program.keyLits
  simp only [Try.underlying52, Value.cells]
  rw [if_pos ⟨by rw [cells52]; rfl, by kernel_rfl⟩]
  simp [Program.keyLits, Try.underlying50, h1, h2, cellsU]
end Go.Proofs.Ytlkdkhmdmgchbaa
namespace Go.Proofs.Ytlkdkhmdmgchbaa
set_option linter.unusedSimpArgs false
set_option linter.unusedVariables false
open Go.RowKit
open Go.Maps (Keyed)
open Go.WideElems (Fit rd rg rd_key rd_val rg_of)
open Go.ChangeMaps
set_option maxRecDepth 100000
noncomputable abbrev RE : Value → Option (DataW Unit × List MemPlace) := plainElem Try.prog 3
def LK (es : Array MapEntry) (f : Pr → Option Int) : Prop := (∀ e ∈ es.toList, ∃ p x, f p = some x ∧ wfP p ∧ e.key = pvv p ∧ e.val = .int .i64 x) ∧ ∀ p x, f p = some x → wfP p ∧ ∃ e ∈ es.toList, e.key = pvv p ∧ e.val = .int .i64 x
structure MapOk (n : Nat) (es : Array MapEntry) (clock : Nat) (f : Pr → Option Int) : Prop where
  fit : Fit Try.prog 52 RE es clock
  size : es.size ≤ n
  lk : LK es f
def updF (f : Pr → Option Int) (p : Pr) (x : Int) : Pr → Option Int := fun q => if q = p then some x else f q
theorem rg_int {e : MapEntry} {y : Lit × DataW Unit} {p : Pr} {x : Int} (hp : wfP p) (h : rd Try.prog 52 RE e = some y) (hy : y = (kL p, .lit (.int .i64 x))) : e.key = pvv p ∧ e.val = .int .i64 x := by
  subst hy
  refine ⟨keyedPair.inj (rd_key h) hp.key, ?_⟩
  obtain ⟨z, h1, h2⟩ := rd_val h
  obtain ⟨a, h3, h4, _⟩ := plainElem_int_inv Try.underlying3 h1
  rw [h4] at h2
  simp only [DataW.lit.injEq, Lit.int.injEq, true_and] at h2
  rw [h3, h2]
theorem rg_mk {e : MapEntry} {p : Pr} {x : Int} (hp : wfP p) (h1 : e.key = pvv p) (h2 : e.val = .int .i64 x) {y : Lit × DataW Unit} (h : rd Try.prog 52 RE e = some y) : y = (kL p, .lit (.int .i64 x)) := by
  have k1 := rd_key h
  rw [h1, hp.key] at k1
  obtain ⟨z, k2, k3⟩ := rd_val h
  rw [h2] at k2
  obtain ⟨a, h3, h4, _⟩ := plainElem_int_inv Try.underlying3 k2
  cases h3
  rw [h4] at k3
  exact Prod.ext (Option.some.inj k1).symm k3
theorem MapOk.put {w : World} {b n : Nat} {es : Array MapEntry} {clock : Nat} {f : Pr → Option Int} {p : Pr} {x : Int} (hb : w.heap[b]? = some (.map es clock)) (M : MapOk n es clock f) (hn : n < maxLen) (hp : wfP p) (hx : (Lit.int .i64 x).wf = true) :
    ∃ es' clock', (Instr.mapUpdate 151 (.map (some b)) (pvv p) (.int .i64 x)).run Try.prog w = .ok () (setBlock w b (.map es' clock')) ∧ MapOk (n + 1) es' clock' (updF f p x) := by
  obtain ⟨es', clock', hrun, F', hput, -, -, hwho⟩ := Maps.fit_store (R' := RE) keyedPair Try.underlying151 hb M.fit (Nat.lt_of_le_of_lt M.size hn) (fun _ _ _ _ hz => hz) hp.key (plainElem_int Try.underlying3 hx)
  have hmem : ∀ y, y ∈ es'.toList.map (rg Try.prog 52 RE) ↔ y = (kL p, .lit (.int .i64 x)) ∨ (y ∈ es.toList.map (rg Try.prog 52 RE) ∧ notKey (kL p) y = true) := fun y => by
    rw [← mem_sorted, hput]
    unfold putKey
    rw [(Go.WideShapes.insert_perm _ _).mem_iff, List.mem_cons, List.mem_filter, mem_sorted]
  refine ⟨es', clock', hrun, F', ?_, fun e he => ?_, fun q y hq => ?_⟩
  · have e1 : es'.size = ((es'.toList.map (rg Try.prog 52 RE)).foldr DataW.insert []).length := by rw [length_sorted]; simp
    rw [e1, hput]
    unfold putKey
    rw [length_insert]
    have e2 := List.length_filter_le (notKey (kL p)) ((es.toList.map (rg Try.prog 52 RE)).foldr DataW.insert [])
    rw [length_sorted] at e2
    have := M.size
    simp at e2
    omega
  · rcases hwho e he with ⟨h1, h2⟩ | ⟨h1, h2⟩
    · obtain ⟨q, y, k1, k2, k3, k4⟩ := M.lk.1 e h1
      refine ⟨q, y, ?_, k2, k3, k4⟩
      unfold updF
      rw [if_neg (fun e' => h2 (by rw [k3, e']))]
      exact k1
    · exact ⟨p, x, by simp [updF], hp, h1, h2⟩
  · unfold updF at hq
    have back : ∀ {q : Pr} {y : Int}, wfP q → (kL q, DataW.lit (.int .i64 y)) ∈ es'.toList.map (rg Try.prog 52 RE) → ∃ e ∈ es'.toList, e.key = pvv q ∧ e.val = .int .i64 y := fun {q y} hwq h => by
      obtain ⟨e, he, h3⟩ := List.mem_map.1 h
      obtain ⟨z, hz⟩ := F'.reads e he
      rw [rg_of hz] at h3
      exact ⟨e, he, rg_int hwq hz h3⟩
    by_cases e : q = p
    · subst e
      rw [if_pos rfl] at hq
      cases hq
      exact ⟨hp, back hp ((hmem _).2 (.inl rfl))⟩
    · rw [if_neg e] at hq
      obtain ⟨hwq, e0, h0, h1, h2⟩ := M.lk.2 q y hq
      obtain ⟨z, hz⟩ := M.fit.reads e0 h0
      have hzz := rg_mk hwq h1 h2 hz
      refine ⟨hwq, back hwq ((hmem _).2 (.inr ⟨List.mem_map.2 ⟨e0, h0, by rw [rg_of hz, hzz]⟩, ?_⟩))⟩
      unfold notKey
      rw [Bool.not_eq_true']
      exact Maps.sameKey_ne (fun h => e (kL_inj hwq hp h))
end Go.Proofs.Ytlkdkhmdmgchbaa
namespace Go.Proofs.Ytlkdkhmdmgchbaa
set_option linter.unusedSimpArgs false
set_option linter.unusedVariables false
open Go.RowKit
open Go.ChangeMaps (setBlock)
set_option maxRecDepth 100000
def mapC (b : Nat) (es : Array MapEntry) (clock : Nat) : SP where
  p := fun Z w v => v = .map (some b) ∧ Z b ∧ w.heap[b]? = some (.map es clock)
  evo := by
    rintro Z Z' w w' v ⟨rfl, h1, h2⟩ hz
    obtain ⟨a, c⟩ := hz b h1 (Array.getElem?_eq_some_iff.1 h2).1
    exact ⟨rfl, a, c.trans h2⟩
  one := by
    rintro Z w v ⟨rfl, _⟩
    rfl
def iterC (b since : Nat) (seen : Array Nat) (c0 : Nat) : SP where
  p := fun Z w v => ∃ r, v = .pointer (some ⟨r, 0, none⟩) ∧ Z r ∧ w.heap[r]? = some (.mapIter (some b) since seen c0)
  evo := by
    rintro Z Z' w w' v ⟨r, rfl, h1, h2⟩ hz
    obtain ⟨a, c⟩ := hz r h1 (Array.getElem?_eq_some_iff.1 h2).1
    exact ⟨r, rfl, a, c.trans h2⟩
  one := by
    rintro Z w v ⟨r, rfl, _⟩
    rfl
section
variable {P : Program} {C : Cx} {r : Option Nat} {Q : Exit → Act → World → Prop} {L : Row} {c : Code} {G : Gh} {σ σ' : St} {a : Act} {w : World}
theorem ASG.retell (h : ASG C G σ a w) (hk : ∀ key, (∀ t, key ≠ .tmp t) → (∀ n k, key ≠ .cell n k) → σ' key = σ key) (ht : ∀ t x, σ' (.tmp t) = .av x → ∃ v, a.tmps[t]? = some v ∧ Rep G σ w v x)
    (hc : ∀ n k x, σ' (.cell n k) = .av x → Nm σ n ∧ ∃ v, w.cell? ⟨G.ρ n, k, none⟩ = some v ∧ w.frozen? ⟨G.ρ n, k, none⟩ = false ∧ Rep G σ w v x) : ASG C G σ' a w := by
  have lv : ∀ z, Lv σ' z ↔ Lv σ z := fun z => by unfold Lv; rw [hk _ (by simp) (by simp)]
  have nm : ∀ z, Nm σ' z ↔ Nm σ z := fun z => by unfold Nm; rw [hk _ (by simp) (by simp)]
  have ev : Evo G G σ σ' w w := by
    refine ⟨fun z h => ?_, fun z h => ?_, fun m hm => ⟨(nm m).2 hm, rfl⟩, fun z _ hl => ⟨(lv z).1 hl, rfl, fun _ _ => rfl⟩, fun z _ hl => ⟨?_, rfl⟩⟩
    · unfold Uz; rw [hk _ (by simp) (by simp)]; exact h
    · unfold Uh; rw [hk _ (by simp) (by simp)]; exact h
    · unfold Lh at hl ⊢; rw [hk _ (by simp) (by simp)] at hl; exact hl
  obtain ⟨k, d1, d2⟩ := h.df
  refine ⟨h.fr, ⟨k, (hk _ (by simp) (by simp)).trans d1, d2.eq, fun i hi => ⟨(d2.ok i hi).obj, (d2.ok i hi).nb, fun q hq => (d2.ok i hi).nn q ((nm q).1 hq), fun z hz => (d2.ok i hi).nz z ((lv z).1 hz)⟩, d2.inj⟩, h.sz, fun t x e => ?_, fun i t x e => ?_, fun n j x e => ?_, fun n hn => h.nm n ((nm n).1 hn), fun n m hn hm => h.inj n m ((nm n).1 hn) ((nm m).1 hm),
    fun z g hl hg => ?_, fun z g h0 hl hg => h.new z g h0 ((lv z).1 hl) hg, fun y z g hne hy hz => h.disj y z g hne ((lv y).1 hy) ((lv z).1 hz), fun h' E sz y zs rows e => ?_, fun z hz hl => h.zz z hz ((lv z).1 hl), fun p hp => ⟨(h.ob p hp).obj, (h.ob p hp).nb, fun n hn => (h.ob p hp).nn n ((nm n).1 hn), fun z hz => (h.ob p hp).nz z ((lv z).1 hz)⟩, fun n hn => (h.sf n ((nm n).1 hn)).of_ko (hk _ (by simp) (by simp))⟩
  · obtain ⟨v, h1, h2⟩ := ht t x e
    exact ⟨v, h1, h2.evo ev⟩
  · rw [hk _ (by simp) (by simp)] at e; exact (h.vt i t x e).evo ev
  · obtain ⟨h1, v, h2, h3, h4⟩ := hc n j x e
    exact ⟨(nm n).2 h1, v, h2, h3, h4.evo ev⟩
  · obtain ⟨h1, h2⟩ := h.sep z g ((lv z).1 hl) hg
    exact ⟨h1, fun n hn => h2 n ((nm n).1 hn)⟩
  · rw [hk _ (by simp) (by simp)] at e
    exact (h.hd h' E sz y zs rows e).evo ev rfl
theorem ASG.turn {w' : World} {y zn : Nat} {o : Obj} {b : Nat} (hA : ASG C G σ a w) (ly : Lv σ y) (y0 : y ∉ C.pz) (fz : σ (.zn zn) = .zn .free) (zn0 : zn ∉ C.pz) (hb : G.ζ y b) (hsz : w'.heap.size = w.heap.size) (hos : w'.os = w.os) (htp : w'.tape = w.tape) (hout : w'.output = w.output)
    (blk : ∀ i, i ≠ b → w'.heap[i]? = w.heap[i]?) (hb' : w'.heap[b]? = some o) (so : SoftO o) :
    ASG C { G with ζ := fun q => if q = zn then G.ζ y else G.ζ q } (ovr σ [(.zn zn, .zn .live), (.zn y, .zn .dead)]) a w' ∧ y ≠ zn := by
  have ne : y ≠ zn := fun e => by subst e; unfold Lv at ly; rw [fz] at ly; cases ly
  have hA1 : ASG C G (ovr σ (deadZ [y])) a w' := by
    refine hA.kill (fun q hq => by simp at hq; subst hq; exact ly) (fun q hq => by simp at hq; subst hq; exact y0) ?_
    exact ⟨hos, htp, hout, by omega, fun i hi hbb => blk i (fun e => hbb (e ▸ ⟨y, by simp, hb⟩))⟩
  have dz : ∀ q, Lv (ovr σ (deadZ [y])) q → q ≠ y ∧ Lv σ q := fun q hq => by
    have := (lesser_dead (σ := σ) [y]).lv hq
    refine ⟨?_, this⟩
    rintro rfl
    unfold Lv at hq
    simp [ovr, fnd_dead] at hq
  obtain ⟨hA2, _⟩ := hA1.addzone (z := zn) zn0 (by simp only [ovr, fnd_dead]; rw [if_neg (by simp; exact fun e => ne e.symm)]; exact fz) (G.ζ y) (fun q hq => by
    refine ⟨⟨by rw [hsz]; exact (hA.sep y q ly hq).1, (hA.new y q y0 ly hq).1, fun m hm => (hA.sep y q ly hq).2 m ?_, fun b hb hg' => ?_, fun c i e hi e' => ?_, fun p hpp e => (hA.ob p hpp).nz y ly (e ▸ hq)⟩, ?_⟩
    · unfold Nm at hm ⊢; rw [← (lesser_dead (σ := σ) [y]).nm]; exact hm
    · obtain ⟨a1, a2⟩ := dz b hb
      exact hA.disj b y q a1 a2 ly hg' hq
    · obtain ⟨k', d1, d2⟩ := hA.df
      rw [(lesser_dead (σ := σ) [y]).df, d1] at e; cases e
      exact (d2.ok i hi).nz y ly (e' ▸ hq)
    · by_cases e : q = b
      · subst e
        exact ⟨_, hb', so⟩
      · exact (hA.new y q y0 ly hq).2.of_eq (blk q e))
  refine ⟨?_, ne⟩
  have e : ovr (ovr σ (deadZ [y])) [(.zn zn, .zn .live)] = ovr σ [(.zn zn, .zn .live), (.zn y, .zn .dead)] := by
    funext k
    simp only [ovr, deadZ, List.map_cons, List.map_nil, fnd]
    by_cases e1 : Key.zn zn = k
    · simp [e1]
    · simp [e1]
  rw [← e]
  exact hA2
end
section
variable {L : St}
end
theorem lk_ovr (L : Row) : ∀ r : Row, lk (r ++ L) = ovr (lk L) r
  | [] => by rw [ovr_nil]; rfl
  | (k, v) :: r => by
    funext q
    simp only [List.cons_append, lk, ovr, fnd]
    by_cases h : k = q
    · simp [h]
    · rw [if_neg h, if_neg h, lk_ovr L r]; rfl
section
variable {C : Cx} {r : Option Nat} {Q : Exit → Act → World → Prop} {L : Row}
theorem first_op {ops : Array Oper} {i : Nat} {o : Oper} {K : Act → World → Prop} {a : Act} {w : World} (ho : ops[i]? = some o) (hg : o.guard = none) (h : Does Try.prog o a w K) : wpOpIn (Fr r) 10 Try.prog ops Q i K a w := by
  unfold wpOpIn
  have : Region.wanted o (yielded ops a.tmps) = true := by simp [Region.wanted, hg]
  simp only [ho, this, if_true]
  exact h.wpIn
theorem AW.next {id d d2 it m : Nat} {z zn b since c0 : Nat} {seen : Array Nat} {es : Array MapEntry} {clock : Nat} {zm : List Nat} {ty1 ty2 : TypeId} {s1 s2 : String} {e1 e2 : Array Edge} {pz : List Nat} {N : Nat} (hP : C.pz = pz) (hN : C.N = N)
    (hit : lk L (.tmp it) = .av (.c [z] (.st (iterC b since seen c0)))) (hz : lk L (.zn z) = .zn .live) (hzn : lk L (.zn zn) = .zn .free) (hpz : (pz.contains z) = false) (hpn : pz.contains zn = false) (hmap : lk L (.tmp m) = .av (.c zm (.st (mapC b es clock)))) (hzm : ∀ y ∈ zm, lk L (.zn y) = .zn .live)
    (hd : d < N) (hd2 : d2 < N) (hold : ∀ x ∈ es.toList, x.born < since) (hsc : since ≤ c0) (hck : since ≤ clock)
    (done : (leftOf es seen).size = 0 → NX C Q .normal ((.tmp d2, .av (.c [] (.v (.bool false)))) :: (.tmp d, .av (.tup [] [.c (.v (.bool false))])) :: L))
    (round : ∀ e ∈ (leftOf es seen).toList, NX C Q .normal ((.tmp d2, .av (.c [] (.v (.bool true)))) :: (.tmp d, .av (.tup [] [.c (.v (.bool true)), .c (.v e.key), .c (.v e.val)])) :: (.tmp it, .av (.c [zn] (.st (iterC b since (seen.push e.born) clock)))) :: (.zn zn, .zn .live) :: (.zn z, .zn .dead) :: L)) :
    AW Try.prog C r (.region id #[⟨some d, .next (.tmp it) false, ty1, s1, e1, none⟩, ⟨some d2, .extract (.tmp d) 0, ty2, s2, e2, none⟩] false) Q L := by
  intro a w ⟨G, hA⟩
  subst hP hN
  have z0 : z ∉ C.pz := fun h => by simp [h] at hpz
  have zn0 : zn ∉ C.pz := fun h => by simp [h] at hpn
  refine wpIn_region ?_
  show wpOpsIn (Fr r) 10 Try.prog _ Q [0, 1] a w
  rw [wpOpsIn_cons]
  refine first_op rfl rfl ?_
  obtain ⟨v, hv, hrep⟩ := hA.tmp it _ hit
  have hrep' := hrep.rep (fun y hy => by simp at hy; subst hy; exact hz)
  obtain ⟨vm, hvm, hrepm⟩ := hA.tmp m _ hmap
  have hrepm' := hrepm.rep hzm
  have he : a.eval (.tmp it) = v := by simp [Act.eval, hv]
  have second : ∀ (t : Act) (u : World) (K : Row) (l : List DV) (x : Value), AS C (lk ((.tmp d, .av (.tup [] (.c (.v x) :: l))) :: K)) t u → (∀ a' w', AS C (lk ((.tmp d2, .av (.c [] (.v x))) :: (.tmp d, .av (.tup [] (.c (.v x) :: l))) :: K)) a' w' → Q .normal a' w') →
      wpOpsIn (Fr r) 10 Try.prog #[⟨some d, .next (.tmp it) false, ty1, s1, e1, none⟩, ⟨some d2, .extract (.tmp d) 0, ty2, s2, e2, none⟩] Q [1] t u := by
    intro t u K l x hAS hK
    rw [wpOpsIn_cons]
    refine first_op rfl rfl ?_
    have hx : opd (lk ((.tmp d, .av (.tup [] (.c (.v x) :: l))) :: K)) (.tmp d) = some ([(.tmp d, .av (.tup [] (.c (.v x) :: l)))], .tup [] (.c (.v x) :: l)) := by simp [opd, lk]
    refine op_extract (P := Try.prog) (C := C) (o := ⟨some d2, .extract (.tmp d) 0, ty2, s2, e2, none⟩) (d := .c (.v x)) rfl hx (r' := []) rfl rfl (fun d' hd' => by cases hd'; exact hd2) _ t u _ hAS (fun kv hkv => ?_) (fun a' w' h' => ?_)
    · simp at hkv; subst hkv; simp [lk]
    · refine hK a' w' ?_
      rw [show lk ((.tmp d2, .av (.c [] (.v x))) :: (.tmp d, .av (.tup [] (.c (.v x) :: l))) :: K) = ovr (lk ((.tmp d, .av (.tup [] (.c (.v x) :: l))) :: K)) (wr (some d2) (atz [] (.c (.v x)))) from lk_ovr _ [(.tmp d2, .av (.c [] (.v x)))]]
      exact h'
  cases hrep' with
  | st _ _ h =>
    cases hrepm' with
    | st _ _ hm =>
      obtain ⟨rr, rfl, ⟨z', hz', hgr⟩, hr⟩ := h
      simp at hz'; subst hz'
      obtain ⟨rfl, hb1, hb⟩ := hm
      rcases run_next_at (P := Try.prog) w ty1 rr b since c0 seen es clock hr hb hold hsc with ⟨h0, hrun⟩ | ⟨en, hen, w1, hal, hrun⟩
      · have er : (execOp a.eval ⟨some d, .next (.tmp it) false, ty1, s1, e1, none⟩).run Try.prog w = .ok (.value (.tuple #[.bool false])) w := by
          simp only [execOp, he]
          rw [Sem.run_bind, hrun]
          rfl
        refine ⟨fun c => by simp, .inl ⟨_, _, er, ?_⟩⟩
        refine second _ _ L [] (.bool false) ?_ (done h0)
        have := hA.put (dst := some d) (v := .tuple #[.bool false]) (x := .tup [] [.c (.v (.bool false))]) (fun d' hd' => by cases hd'; exact hd) ⟨fun y hy => absurd hy (by simp), fun _ => ⟨_, rfl, rfl, fun i x hi => by
          match i, hi with
          | 0, hi => cases hi; exact .v _⟩⟩
        exact ⟨G, by rw [show lk ((.tmp d, .av (.tup [] [.c (.v (.bool false))])) :: L) = ovr (lk L) (wr (some d) (.tup [] [.c (.v (.bool false))])) from lk_ovr L [(.tmp d, .av (.tup [] [.c (.v (.bool false))]))]]; exact this⟩
      · have er : (execOp a.eval ⟨some d, .next (.tmp it) false, ty1, s1, e1, none⟩).run Try.prog w = .ok (.value (.tuple #[.bool true, en.key, en.val])) (setBlock w1 rr (.mapIter (some b) since (seen.push en.born) clock)) := by
          simp only [execOp, he]
          rw [Sem.run_bind, hrun]
          rfl
        refine ⟨fun c => by simp, .inl ⟨_, _, er, ?_⟩⟩
        have hw1 : w1.heap = w.heap ∧ w1.os = w.os ∧ w1.tape = w.tape ∧ w1.output = w.output := by rcases hal with rfl | rfl <;> exact ⟨rfl, rfl, rfl, rfl⟩
        have hr1 : w1.heap[rr]? = some (.mapIter (some b) since seen c0) := by rw [hw1.1]; exact hr
        obtain ⟨w', hw'⟩ : ∃ w', w' = setBlock w1 rr (.mapIter (some b) since (seen.push en.born) clock) := ⟨_, rfl⟩
        have hset := Go.MapKept.heap_set (o' := .mapIter (some b) since (seen.push en.born) clock) hr1
        have hsame : w'.heap[rr]? = some (.mapIter (some b) since (seen.push en.born) clock) := by rw [hw']; exact hset.1
        have hoth : ∀ i, i ≠ rr → w'.heap[i]? = w.heap[i]? := fun i hi => by rw [hw']; exact (hset.2 i hi).trans (by rw [hw1.1])
        rw [← hw']
        obtain ⟨hA2, ne⟩ := hA.turn (zn := zn) hz z0 hzn zn0 hgr (by rw [hw']; simp [setBlock, hw1.1]) (by rw [hw']; exact hw1.2.1) (by rw [hw']; exact hw1.2.2.1) (by rw [hw']; exact hw1.2.2.2) hoth hsame trivial
        obtain ⟨G3, hA3⟩ : ∃ G3, ASG C G3 (ovr (lk L) ([(.tmp it, .av (.c [zn] (.st (iterC b since (seen.push en.born) clock))))] ++ [(.zn zn, .zn .live), (.zn z', .zn .dead)])) a w' := by
          refine ⟨_, hA2.retell (fun key h1 h2 => ?_) (fun t q hq => ?_) (fun q j u hq => ?_)⟩
          · simp only [ovr, fnd_app, fnd]
            rw [if_neg (fun e => h1 it e.symm)]
            rfl
          · by_cases ht : it = t
            · subst ht
              simp only [ovr, fnd_app, fnd, if_true, Option.some_or, Option.getD_some, KV.av.injEq] at hq
              subst hq
              refine ⟨_, hv, ⟨fun y hy => ?_, fun _ => .st _ _ ⟨rr, rfl, ⟨zn, by simp, by simpa using hgr⟩, hsame⟩⟩⟩
              simp at hy; subst hy
              unfold Uz; simp [ovr, fnd]
            · refine hA2.tmp t q ?_
              simpa [ovr, fnd, ht] using hq
          · refine hA2.cell q j u ?_
            simpa [ovr, fnd] using hq
        have hA4 := hA3.put (dst := some d) (v := .tuple #[.bool true, en.key, en.val]) (x := .tup [] [.c (.v (.bool true)), .c (.v en.key), .c (.v en.val)]) (fun d' hd' => by cases hd'; exact hd) ⟨fun y hy => absurd hy (by simp), fun _ => ⟨_, rfl, rfl, fun i x hi => by
          match i, hi with
          | 0, hi => cases hi; exact .v _
          | 1, hi => cases hi; exact .v _
          | 2, hi => cases hi; exact .v _⟩⟩
        rw [ovr_ovr] at hA4
        refine second (a.put (some d) (.tuple #[.bool true, en.key, en.val])) w' ((.tmp it, .av (.c [zn] (.st (iterC b since (seen.push en.born) clock)))) :: (.zn zn, .zn .live) :: (.zn z', .zn .dead) :: L) [.c (.v en.key), .c (.v en.val)] (.bool true) ⟨G3, ?_⟩ (round en hen)
        rw [show lk ((.tmp d, .av (.tup [] [.c (.v (.bool true)), .c (.v en.key), .c (.v en.val)])) :: (.tmp it, .av (.c [zn] (.st (iterC b since (seen.push en.born) clock)))) :: (.zn zn, .zn .live) :: (.zn z', .zn .dead) :: L) = ovr (lk L) _ from lk_ovr L [(.tmp d, .av (.tup [] [.c (.v (.bool true)), .c (.v en.key), .c (.v en.val)])), (.tmp it, .av (.c [zn] (.st (iterC b since (seen.push en.born) clock)))), (.zn zn, .zn .live), (.zn z', .zn .dead)]]
        exact hA4
end
end Go.Proofs.Ytlkdkhmdmgchbaa
namespace Go.Proofs.Ytlkdkhmdmgchbaa
set_option linter.unusedSimpArgs false
set_option linter.unusedVariables false
open Go.RowKit
set_option maxRecDepth 100000
def KzQ (w : World) (g : Nat) (A B : Zone) (cs' : List CC) (w' : World) (A' Zn : Zone) : Prop := (∀ b, A' b → (A b ∨ w.heap.size ≤ b) ∧ Soft w' b) ∧ (∀ b, Zn b → (A b ∨ w.heap.size ≤ b) ∧ Soft w' b ∧ ¬ A' b) ∧ OW A' (fun b => B b ∨ Zn b) w' g cs' ∧ Keeps (fun b => ¬ A b) w w'
def KzA (P : Program) (f : FuncId) (κ : VK) (args : List DV) (cs : List CC) (R : Zone → Zone → World → Nat → Ending → World → Prop) : Prop := ∀ (A B : Zone) (w : World) (g : Nat) (vs : Array Value), OW A B w g cs → (∀ b, A b → Soft w b ∧ ¬ B b) → (∀ b, B b → b < w.heap.size) → Reps B w vs args →
  Calls P f (#[κ.val g] ++ vs) w (R A B w g)
def KzR (cs' : List CC) (res : Res) (A B : Zone) (w : World) (g : Nat) : Ending → World → Prop := fun e w' => ∃ (v : Value) (A' Zn : Zone), e = .returned v ∧ KzQ w g A B cs' w' A' Zn ∧ RepR (fun b => B b ∨ Zn b) w' v res
def Kz (P : Program) (f : FuncId) (κ : VK) (args : List DV) (cs cs' : List CC) (res : Res) : Prop := KzA P f κ args cs (KzR cs' res)
def KzoR (cs' : List CC) (E sz : Nat) (rows : List (List D)) (A B : Zone) (w : World) (g : Nat) : Ending → World → Prop := fun e w' => ∃ (v : Value) (A' Zn : Zone), e = .returned v ∧ KzQ w g A B cs' w' A' Zn ∧ RowAt (fun b => B b ∨ Zn b) w' v E sz rows True ∧ ∀ b, v.ownBlock = some b → (A b ∨ w.heap.size ≤ b) ∧ ¬ A' b ∧ ¬ Zn b
def Kzo (P : Program) (f : FuncId) (κ : VK) (args : List DV) (cs cs' : List CC) (E sz : Nat) (rows : List (List D)) : Prop := KzA P f κ args cs (KzoR cs' E sz rows)
def KznR (cs' : List CC) (κN : VK) (csN : List CC) (A B : Zone) (w : World) (g : Nat) : Ending → World → Prop := fun e w' => ∃ (gN : Nat) (A' Zn AN : Zone), e = .returned (κN.val gN) ∧ KzQ w g A B cs' w' A' Zn ∧ OW AN (fun b => B b ∨ Zn b) w' gN csN ∧ ∀ b, AN b → (A b ∨ w.heap.size ≤ b) ∧ Soft w' b ∧ ¬ A' b ∧ ¬ Zn b
def Kzn (P : Program) (f : FuncId) (κ : VK) (args : List DV) (cs cs' : List CC) (κN : VK) (csN : List CC) : Prop := KzA P f κ args cs (KznR cs' κN csN)
def KnR (κN : VK) (csN : List CC) (w : World) : Ending → World → Prop := fun e w' => ∃ (gN : Nat) (Zn AN : Zone), e = .returned (κN.val gN) ∧ Below w.heap.size w w' ∧ (∀ b, Zn b → w.heap.size ≤ b ∧ Soft w' b ∧ ¬ AN b) ∧ OW AN Zn w' gN csN ∧ ∀ b, AN b → w.heap.size ≤ b ∧ Soft w' b
def Kn (P : Program) (f : FuncId) (args : List DV) (κN : VK) (csN : List CC) : Prop := ∀ (Z : Zone) (w : World) (vs : Array Value), Reps Z w vs args → Calls P f vs w (KnR κN csN w)
section
variable {P : Program} {C : Cx} {G : Gh} {σ σ' : St} {a : Act} {w w' : World} {L : St}
theorem ASG.newobj (h : ASG C G σ a w) {n z g : Nat} {zs : List Nat} {cs : List CC} {AN : Zone} (hn : σ (.nm n) = .nm false) (hl : ∀ y ∈ zs, Lv σ y) (hz : ∀ p ∈ C.pz, p < z) (hO : OW AN (G.zu zs) w g cs) (hm : ∀ b, AN b → Mine C G σ w b)
    (hfr : ∀ i E sz rows, cs[i]? = some (.row E sz rows) → σ (.zn ((0 + i + 2) * 100000 + z)) = .zn .free ∧ σ (.hd ((0 + i + 2) * 100000 + z)) = .hd .free) :
    ∃ G', ASG C G' (ovr σ (oWr n z zs 0 cs ++ [(.nm n, .nm true), (.sz n, .sz cs.length)])) a w ∧ Evo G G' σ (ovr σ (oWr n z zs 0 cs ++ [(.nm n, .nm true), (.sz n, .sz cs.length)])) w w ∧ G'.ρ n = g := by
  obtain ⟨us, ⟨cur, E0, hb1, hb2, hb3⟩, hcc, hdis⟩ := hO.us
  obtain ⟨G1, h1, e1, r1, r2, d1, t1, z1⟩ := h.addname0 (c := cs.length) hn (hm g hO.own) ⟨cur, E0, hb1, hb2⟩
  obtain ⟨σ1, hσ1⟩ : ∃ σ1, σ1 = ovr σ [(.nm n, .nm true), (.sz n, .sz cs.length)] := ⟨_, rfl⟩
  rw [← hσ1] at h1 e1
  have ko : ∀ k, k ≠ .nm n → k ≠ .sz n → σ1 k = σ k := fun k q1 q2 => by rw [hσ1]; simp only [ovr, fnd]; rw [if_neg (fun e => q1 e.symm), if_neg (fun e => q2 e.symm)]; rfl
  have nn : Nm σ1 n := by unfold Nm; rw [hσ1]; simp [ovr, fnd]
  have nm : ∀ m, Nm σ1 m → m = n ∨ Nm σ m := fun m hm => by
    by_cases e : m = n
    · exact .inl e
    · unfold Nm at hm ⊢; rw [ko _ (by simpa using e) (by simp)] at hm; exact .inr hm
  have lv : ∀ y, Lv σ1 y ↔ Lv σ y := fun y => by unfold Lv; rw [ko _ (by simp) (by simp)]
  have zu : G1.zu zs = G.zu zs := by funext b; simp only [Gh.zu, z1]
  obtain ⟨G', k1, k2, k3, _⟩ := h1.learn (n := n) (z := z) (zs := zs) (us := us) cs 0 G1 σ1 nn (fun y hy => (lv y).2 (hl y hy)) hz (fun i c hi => by
      rw [Nat.zero_add, r1, zu]
      exact ⟨cell_of hb1 (hb3 i (List.getElem?_eq_some_iff.1 hi).1), (hcc i c hi).evo (fun b _ _ => ⟨trivial, rfl⟩) fun b hb _ => ⟨hb, rfl⟩⟩) (fun i c b hi hr hb => by
      rw [Nat.zero_add] at hb
      have hc := hcc i c hi
      cases c with
      | d x => cases hr
      | row E sz rows =>
        obtain ⟨q1, q2⟩ := hc.2 b hb
        have q := hm b q1
        refine ⟨q.lt, q.nb, fun m hmm => ?_, fun y hy => by rw [z1]; exact q.nz y ((lv y).1 hy), fun k i e => by rw [d1]; exact q.nd k i (by rw [← ko _ (by simp) (by simp)]; exact e), q.no⟩
        rcases nm m hmm with rfl | h'
        · rw [r1]; exact fun e => q2 e.symm
        · rw [r2 m (fun e => by subst e; unfold Nm at h'; rw [hn] at h'; cases h')]; exact q.nn m h') (fun i i' c c' b hne hi hi' hr hr' hb => by
      rw [Nat.zero_add] at hb ⊢
      exact hdis i i' c c' b hne hi hi' hr hr' hb) (fun i E sz rows hi => by
      obtain ⟨q1, q2⟩ := hfr i E sz rows hi
      exact ⟨by rw [ko _ (by simp) (by simp)]; exact q1, by rw [ko _ (by simp) (by simp)]; exact q2⟩)
  rw [hσ1, ovr_ovr] at k1 k2
  exact ⟨G', k1, by rw [hσ1] at e1; exact e1.trans k2, by rw [k3, r1]⟩
theorem ovr_get {ws : Row} {k : Key} {v : KV} (h : fnd ws k = some v) : ovr σ ws k = v := by simp [ovr, h]
theorem ovr_same {ws : Row} {k : Key} (h : fnd ws k = none) : ovr σ ws k = σ k := by simp [ovr, h]
def oOk (pz : List Nat) (yo : List (Option Nat)) (zs : List Nat) : Bool := (yo.all fun y => match y with | some y => !pz.contains y && !zs.contains y | none => true) && decide ((yo.filterMap id).Nodup)
theorem oOk_ok {pz : List Nat} {yo : List (Option Nat)} {zs : List Nat} (h : oOk pz yo zs = true) : (∀ y, some y ∈ yo → y ∉ pz ∧ y ∉ zs) ∧ ∀ i j y : Nat, i ≠ j → yo[i]? = some (some y) → yo[j]? ≠ some (some y) := by
  unfold oOk at h
  simp only [Bool.and_eq_true, List.all_eq_true, decide_eq_true_eq] at h
  refine ⟨fun y hy => ?_, ?_⟩
  · have := h.1 _ hy
    simpa using this
  · have nd := h.2
    clear h
    induction yo with
    | nil => intro i j y _ hi; simp at hi
    | cons x yo ih =>
      intro i j y hne hi hj
      cases x with
      | none =>
        have nd' : (yo.filterMap id).Nodup := by simpa using nd
        cases i with
        | zero => simp at hi
        | succ i =>
          cases j with
          | zero => simp at hj
          | succ j => exact ih nd' i j y (by omega) (by simpa using hi) (by simpa using hj)
      | some x =>
        have nd' : x ∉ yo.filterMap id ∧ (yo.filterMap id).Nodup := by simpa using nd
        have memf : ∀ k, yo[k]? = some (some y) → y ∈ yo.filterMap id := fun k hk => List.mem_filterMap.2 ⟨some y, List.mem_of_getElem? hk, rfl⟩
        cases i with
        | zero =>
          cases j with
          | zero => exact hne rfl
          | succ j =>
            simp at hi
            subst hi
            exact nd'.1 (memf j (by simpa using hj))
        | succ i =>
          cases j with
          | zero =>
            simp at hj
            subst hj
            exact nd'.1 (memf i (by simpa using hi))
          | succ j => exact ih nd'.2 i j y (by omega) (by simpa using hi) (by simpa using hj)
section
variable {pz : List Nat} {c : Call} {d : Option Tmp} {ty : TypeId} {st : String} {e : Array Edge} {gd : Option (Nat × Bool)} {n z : Nat} {κ κ' : VK} {cs cs' : List CC} {f : FuncId} {x0 : Operand} {xs : List Operand} {ds : List DV} {r0 r1 r2 r3 : Row} {zs zs1 : List Nat} {yo : List (Option Nat)}
structure KzC (L : St) (pz : List Nat) (z n : Nat) (κ : VK) (cs cs' : List CC) (x0 : Operand) (xs : List Operand) (ds : List DV) (r0 r1 r2 r3 : Row) (zs zs1 : List Nat) (yo : List (Option Nat)) : Prop where
  x : opd L x0 = some (r0, κ.av n)
  args : argsOf L xs = some (r1, zs1, ds)
  sz : L (.sz n) = .sz cs.length
  nm : L (.nm n) = .nm true
  rd : oRead L n 0 cs.length = some (r2, cs, yo, zs)
  len : cs'.length = cs.length
  ok : oOk pz yo (zs ++ zs1) = true
  fz : L (.zn z) = .zn .free
  fr : oFree L z 0 cs' = some r3
def kzReads (n z : Nat) (c : Nat) (r0 r1 r2 r3 : Row) : Row := (.zn z, .zn .free) :: (.sz n, .sz c) :: (.nm n, .nm true) :: (r0 ++ (r1 ++ (r2 ++ r3)))
def kzWrites (n z : Nat) (zs zs1 : List Nat) (yo : List (Option Nat)) (cs' : List CC) : Row := oWr n z ((zs ++ zs1) ++ [z]) 0 cs' ++ ((.zn z, .zn .live) :: deadZ (yo.filterMap id))
theorem KzC.rds (k : KzC L pz z n κ cs cs' x0 xs ds r0 r1 r2 r3 zs zs1 yo) : Rd L (kzReads n z cs.length r0 r1 r2 r3) :=
  Rd.cons k.fz (Rd.cons k.sz (Rd.cons k.nm (Rd.app (opd_rd k.x) (Rd.app (argsOf_rd k.args) (Rd.app (oRead_rd k.rd) (oFree_rd k.fr))))))
theorem kz_call (hK : KzC L C.pz z n κ cs cs' x0 xs ds r0 r1 r2 r3 zs zs1 yo) (hzb : ∀ p ∈ C.pz, p < z) (hA : ASG C G σ a w) (hr : Rd σ (kzReads n z cs.length r0 r1 r2 r3)) {R : Zone → Zone → World → Nat → Ending → World → Prop} (hf : KzA P f κ' ds cs R) :
    a.eval x0 = κ.val (G.ρ n) ∧ ∃ A B : Zone, Calls P f (#[κ'.val (G.ρ n)] ++ (xs.map a.eval).toArray) w (R A B w (G.ρ n)) ∧ (∀ y ∈ zs ++ zs1, Lv σ y) ∧ (∀ b, B b ↔ G.zu (zs ++ zs1) b) ∧
      ∀ w' A' Zn, KzQ w (G.ρ n) A B cs' w' A' Zn → ∃ G', ASG C G' (ovr σ (kzWrites n z zs zs1 yo cs')) a w' ∧ (∀ y ∈ zs ++ zs1, Lv (ovr σ (kzWrites n z zs zs1 yo cs')) y ∧ G'.ζ y = G.ζ y) ∧ Lv (ovr σ (kzWrites n z zs zs1 yo cs')) z ∧ (∀ b, G'.ζ z b ↔ Zn b) ∧
        (∀ b, (A b ∨ w.heap.size ≤ b) → b < w'.heap.size → ¬ A' b → ¬ Zn b → Mine C G' (ovr σ (kzWrites n z zs zs1 yo cs')) w' b) ∧ G'.ρ = G.ρ := by
  have fz : σ (.zn z) = .zn .free := hr.head
  have hsz : σ (.sz n) = .sz cs.length := hr.tail.head
  have hn : Nm σ n := hr.tail.tail.head
  have hr := hr.tail.tail.tail
  obtain ⟨q1, q2⟩ := oOk_ok hK.ok
  obtain ⟨k1, k2, k3, k4, k5⟩ := oRead_ok hA hK.rd hr.right.right.left
  have ow := obj_ow hA hn hsz hK.rd hr.right.right.left q2
  have ev := (kav_val (opd_ok hK.x hA hr.left)).1
  obtain ⟨j0, j1, j2⟩ := argsOf_ok hK.args hA hr.right.left
  have lall : ∀ y ∈ zs ++ zs1, Lv σ y := fun y hy => by
    rcases List.mem_append.1 hy with h | h
    · exact k2 y h
    · exact j0 y h
  have hargs : Reps (G.zu (zs ++ zs1)) w (xs.map a.eval).toArray ds := ⟨by simpa using j1, fun i x hi => by
    have e : ((xs.map a.eval).toArray).getD i undef = (xs.map a.eval).getD i undef := by simp [Array.getD_eq_getD_getElem?, List.getD]
    rw [e]
    exact (j2 i x hi).mono fun b ⟨y, hy, hb⟩ => ⟨y, List.mem_append_right _ hy, hb⟩⟩
  have lyo : ∀ y, some y ∈ yo → Lv σ y ∧ y ∉ C.pz := fun y hy => ⟨k3 y hy, (q1 y hy).1⟩
  have hAB : ∀ b, (b = G.ρ n ∨ ∃ y, some y ∈ yo ∧ G.ζ y b) → Soft w b ∧ ¬ G.zu (zs ++ zs1) b := by
    rintro b (rfl | ⟨y, hy, hb⟩)
    · exact ⟨(hA.sf n hn).s, fun ⟨z', hz', hb⟩ => (hA.sep z' _ (lall z' hz') hb).2 n hn rfl⟩
    · refine ⟨(hA.new y b (lyo y hy).2 (lyo y hy).1 hb).2, fun ⟨z', hz', hb'⟩ => ?_⟩
      exact hA.disj z' y b (fun e => (q1 y hy).2 (e ▸ hz')) (lall z' hz') (lyo y hy).1 hb' hb
  refine ⟨ev, _, _, hf _ _ w _ _ (ow.evo (fun b hb _ => ⟨hb, rfl⟩) (fun b ⟨y, hy, hb⟩ _ => ⟨⟨y, List.mem_append_left _ hy, hb⟩, rfl⟩)) hAB (fun b ⟨y, hy, hb⟩ => (hA.sep y b (lall y hy) hb).1) hargs, lall, fun b => Iff.rfl, fun w' A' Zn hq => ?_⟩
  obtain ⟨p1, p2, p3, p4⟩ := hq
  exact obj_turn hA hn hK.len hsz lyo (fun y hy => ⟨lall y hy, fun h => (q1 y h).2 hy⟩) fz hzb (oFree_ok hK.fr hr.right.right.right) p4 p1 p2 p3
theorem hatch_kz {k : Trc → Prop} {res : Res} (hrun : ∀ (a : Act) (w : World) (g : Nat), a.eval x0 = κ.val g → (execOp a.eval ⟨d, .call c, ty, st, e, gd⟩).run P w = .ok (.enter f (#[κ'.val g] ++ (xs.map a.eval).toArray)) w)
    (hf : Kz P f κ' ds cs cs' res) (hK : KzC L pz z n κ cs cs' x0 xs ds r0 r1 r2 r3 zs zs1 yo)
    (hk : k ⟨kzReads n z cs.length r0 r1 r2 r3, wr d (atR ((zs ++ zs1) ++ [z]) res) ++ kzWrites n z zs zs1 yo cs'⟩) : stHatchZ P L pz z ⟨d, .call c, ty, st, e, gd⟩ k := by
  refine ⟨_, hk, hK.rds, fun C hd hpz hzb => ?_⟩
  subst hpz
  intro σ a w K ⟨G, hA⟩ hr hK'
  obtain ⟨ev, A, B, hcall, hl, hB, hturn⟩ := kz_call hK hzb hA hr hf
  refine ⟨fun c => by simp, .inr (.inr ⟨f, _, w, hrun a w _ ev, hcall.mono ?_⟩)⟩
  rintro ee w' ⟨v, A', Zn, rfl, hq, hres⟩
  obtain ⟨G', t1, t2, t3, t4, _⟩ := hturn w' A' Zn hq
  refine ⟨v, rfl, hK' _ _ ?_⟩
  have := t1.put (dst := d) (v := v) (x := atR ((zs ++ zs1) ++ [z]) res) (dok_ok hd) (atR_rep (fun y hy => ?_) (hres.mono fun b hb => ?_))
  · rw [ovr_ovr] at this
    exact ⟨_, this⟩
  · rcases List.mem_append.1 hy with hy | hy
    · exact (t2 y hy).1.used
    · simp at hy; subst hy; exact t3.used
  · rcases hb with hb | hb
    · obtain ⟨y, hy, hb⟩ := (hB b).1 hb
      exact ⟨y, List.mem_append_left _ hy, by rw [(t2 y hy).2]; exact hb⟩
    · exact ⟨z, by simp, (t4 b).2 hb⟩
theorem hatch_kzo {k : Trc → Prop} {E sz : Nat} {rows : List (List D)} {d : Tmp} (hrun : ∀ (a : Act) (w : World) (g : Nat), a.eval x0 = κ.val g → (execOp a.eval ⟨some d, .call c, ty, st, e, gd⟩).run P w = .ok (.enter f (#[κ'.val g] ++ (xs.map a.eval).toArray)) w)
    (hf : Kzo P f κ' ds cs cs' E sz rows) (hK : KzC L pz z n κ cs cs' x0 xs ds r0 r1 r2 r3 zs zs1 yo) (h1 : L (.zn (100000 + z)) = .zn .free) (h2 : L (.hd (100000 + z)) = .hd .free)
    (hk : k ⟨(.zn (100000 + z), .zn .free) :: (.hd (100000 + z), .hd .free) :: kzReads n z cs.length r0 r1 r2 r3, wr (some d) (.own (100000 + z)) ++ ([(.hd (100000 + z), .hd (.own E sz (100000 + z) ((zs ++ zs1) ++ [z]) rows)), (.zn (100000 + z), .zn .live)] ++ kzWrites n z zs zs1 yo cs')⟩) : stHatchZ P L pz z ⟨some d, .call c, ty, st, e, gd⟩ k := by
  refine ⟨_, hk, Rd.cons h1 (Rd.cons h2 hK.rds), fun C hd hpz hzb => ?_⟩
  subst hpz
  intro σ a w K ⟨G, hA⟩ hr hK'
  have f1 := hr.head
  have f2 := hr.tail.head
  obtain ⟨ev, A, B, hcall, hl, hB, hturn⟩ := kz_call hK hzb hA hr.tail.tail hf
  refine ⟨fun c => by simp, .inr (.inr ⟨f, _, w, hrun a w _ ev, hcall.mono ?_⟩)⟩
  rintro ee w' ⟨v, A', Zn, rfl, hq, hrow, hob⟩
  obtain ⟨G', t1, t2, t3, t4, t5, _⟩ := hturn w' A' Zn hq
  refine ⟨v, rfl, hK' _ _ ?_⟩
  have ne : ∀ y ∈ (zs ++ zs1) ++ [z], Lv (ovr σ (kzWrites n z zs zs1 yo cs')) y := fun y hy => by
    rcases List.mem_append.1 hy with hy | hy
    · exact (t2 y hy).1
    · simp at hy; subst hy; exact t3
  have nf : ∀ (i : Nat), (100000 + z : Nat) ≠ (i + 2) * 100000 + z := fun i => by omega
  have g1 : ovr σ (kzWrites n z zs zs1 yo cs') (.zn (100000 + z)) = .zn .free := by
    rw [ovr_same]
    · exact f1
    · unfold kzWrites
      rw [fnd_app]
      cases hh : fnd (oWr n z (zs ++ zs1 ++ [z]) 0 cs') (.zn (100000 + z)) with
      | some q =>
        rcases fnd_oWr cs' 0 hh with ⟨i, h1, _⟩ | ⟨i, _, h1⟩ | ⟨i, _, h1⟩
        · cases h1
        · cases h1
        · exact absurd (by simpa using h1) (nf i)
      | none =>
        simp only [Option.none_or, fnd]
        rw [if_neg (by simp <;> omega), fnd_dead, if_neg]
        intro hm
        have hy : some (100000 + z) ∈ yo := by simpa [List.mem_filterMap] using hm
        obtain ⟨_, _, k3, _⟩ := oRead_ok hA hK.rd hr.tail.tail.tail.tail.tail.right.right.left
        have := k3 _ hy
        unfold Lv at this; rw [f1] at this; cases this
  have g2 : ovr σ (kzWrites n z zs zs1 yo cs') (.hd (100000 + z)) = .hd .free := by
    rw [ovr_same]
    · exact f2
    · unfold kzWrites
      rw [fnd_app]
      cases hh : fnd (oWr n z (zs ++ zs1 ++ [z]) 0 cs') (.hd (100000 + z)) with
      | some q =>
        rcases fnd_oWr cs' 0 hh with ⟨i, h1, _⟩ | ⟨i, _, h1⟩ | ⟨i, _, h1⟩
        · cases h1
        · exact absurd (by simpa using h1) (nf i)
        · cases h1
      | none =>
        simp only [Option.none_or, fnd]
        rw [if_neg (by simp), fnd_dead_ne _ (by simp)]
  have hm : ∀ b, v.ownBlock = some b → Mine C G' (ovr σ (kzWrites n z zs zs1 yo cs')) w' b := fun b hb => by
    obtain ⟨o1, o2, o3⟩ := hob b hb
    obtain ⟨cur, hc⟩ := hrow.lt hb
    exact t5 b o1 (Array.getElem?_eq_some_iff.1 hc).1 o2 o3
  have hrw : RowAt (G'.zu ((zs ++ zs1) ++ [z])) w' v E sz rows True := hrow.evo (fun b hb _ => ⟨by
    rcases hb with hb | hb
    · obtain ⟨y, hy, hb⟩ := (hB b).1 hb
      exact ⟨y, List.mem_append_left _ hy, by rw [(t2 y hy).2]; exact hb⟩
    · exact ⟨z, by simp, (t4 b).2 hb⟩, rfl⟩) fun b hb => rfl
  obtain ⟨G2, u1, u2, u3, u4, u5, _⟩ := t1.addrow (v := v) g1 g2 (fun q => by have := hzb _ q; omega) ne hm hrw
  have h3 := u1.put (dst := some d) (v := v) (x := .own (100000 + z)) (dok_ok hd) ⟨by show Uh _ _; unfold Uh; simp [ovr, fnd], fun _ => u5.symm⟩
  rw [ovr_ovr, ovr_ovr] at h3
  exact ⟨_, by simpa using h3⟩
end
theorem hatch_kn {pz : List Nat} {d : Tmp} {x : Operand} {args : Array Operand} {ats : Array TypeId} {ty : TypeId} {st : String} {e : Array Edge} {gd : Option (Nat × Bool)} {k : Trc → Prop} {z : Nat} {f : FuncId} {ds : List DV} {r r3 : Row} {zs : List Nat} {κN : VK} {csN : List CC} (hf : callOk P f = true) (hc : Kn P f ds κN csN)
    (hcd : callD L x args.toList = some (r, zs, f, ds)) (fz : L (.zn z) = .zn .free) (fn : L (.nm z) = .nm false) (fr : oFree L z 0 csN = some r3)
    (hk : k ⟨(.zn z, .zn .free) :: (.nm z, .nm false) :: (r ++ r3), wr (some d) (κN.av z) ++ ((oWr z z [z] 0 csN ++ [(.nm z, .nm true), (.sz z, .sz csN.length)]) ++ [(.zn z, .zn .live)])⟩) : stHatchZ P L pz z ⟨some d, .call ⟨.value x, args, ats⟩, ty, st, e, gd⟩ k := by
  refine ⟨_, hk, Rd.cons fz (Rd.cons fn (Rd.app (callD_rd (y := (zs, f, ds)) hcd) (oFree_rd fr))), fun C hd hpz hzb => ?_⟩
  subst hpz
  intro σ a w K ⟨G, hA⟩ hr hK'
  have f1 := hr.head
  have f2 := hr.tail.head
  obtain ⟨_, vs, hrun, hreps⟩ := callD_ok (o := ⟨some d, .call ⟨.value x, args, ats⟩, ty, st, e, gd⟩) rfl hcd hf hA hr.tail.tail.left
  refine ⟨fun c => by simp, .inr (.inr ⟨f, _, w, hrun, (hc _ w _ hreps).mono ?_⟩)⟩
  rintro ee w' ⟨gN, Zn, AN, rfl, B, hZn, hO, hAN⟩
  refine ⟨_, rfl, hK' _ _ ?_⟩
  obtain ⟨h1, e1⟩ := hA.below B
  have z0 : z ∉ C.pz := fun h => Nat.lt_irrefl _ (hzb _ h)
  obtain ⟨h2, e2⟩ := h1.addzone z0 f1 Zn (fun b hb => ⟨hA.fresh (hZn b hb).1 (hZn b hb).2.1.lt, (hZn b hb).2.1⟩)
  have ko : ∀ k, k ≠ .zn z → (ovr σ [(.zn z, .zn .live)]) k = σ k := fun k hk => ovr_one_ne _ _ _ hk
  obtain ⟨G', k1, k2, k3⟩ := h2.newobj (n := z) (z := z) (zs := [z]) (cs := csN) (AN := AN) (g := gN) (by rw [ko _ (by simp)]; exact f2) (fun y hy => by simp at hy; subst hy; unfold Lv; exact ovr_one _ _ _) hzb (hO.evo (fun b hb _ => ⟨hb, rfl⟩) fun b hb _ => ⟨⟨z, by simp, by simpa using hb⟩, rfl⟩) (fun b hb => by
      have q := hA.fresh (hAN b hb).1 (hAN b hb).2.lt
      refine ⟨q.lt, q.nb, fun m hm => q.nn m (by unfold Nm at hm ⊢; rw [← ko _ (by simp)]; exact hm), fun y hy => ?_, fun k i e => q.nd k i (by rw [← ko _ (by simp)]; exact e), q.no⟩
      by_cases ez : y = z
      · subst ez
        simp only [if_true]
        exact fun hz' => (hZn b hz').2.2 hb
      · simp only [if_neg ez]
        exact q.nz y (by unfold Lv at hy ⊢; rw [← ko _ (by simpa using ez)]; exact hy)) (fun i E sz rows hi => by
      obtain ⟨q1, q2⟩ := oFree_ok fr hr.tail.tail.right i E sz rows hi
      exact ⟨by rw [ko _ (by simp <;> omega)]; exact q1, by rw [ko _ (by simp)]; exact q2⟩)
  have hn : Nm (ovr (ovr σ [(.zn z, .zn .live)]) (oWr z z [z] 0 csN ++ [(.nm z, .nm true), (.sz z, .sz csN.length)])) z := by
    unfold Nm
    refine ovr_get ?_
    rw [fnd_app]
    cases hh : fnd (oWr z z [z] 0 csN) (.nm z) with
    | some q => rcases fnd_oWr csN 0 hh with ⟨i, h1, _⟩ | ⟨i, _, h1⟩ | ⟨i, _, h1⟩ <;> cases h1
    | none => simp [fnd]
  have rp : Rep G' (ovr (ovr σ [(.zn z, .zn .live)]) (oWr z z [z] 0 csN ++ [(.nm z, .nm true), (.sz z, .sz csN.length)])) w' (κN.val gN) (κN.av z) := by rw [← k3]; exact kav_rep hn
  have h3 := k1.put (dst := some d) (dok_ok hd) rp
  rw [ovr_ovr, ovr_ovr] at h3
  exact ⟨_, by simpa using h3⟩
end
theorem lk_app : ∀ (A B : Row), lk (A ++ B) = ovr (lk B) A
  | [], B => by rw [List.nil_append, ovr_nil]
  | (k, v) :: A, B => by
    funext k'
    rw [List.cons_append]
    simp only [lk, ovr, fnd, lk_app A B]
    by_cases e : k = k'
    · simp [e]
    · simp [e]
section
variable {P : Program} {C : Cx} {G : Gh} {σ σ' : St} {a : Act} {w w' : World} {L : St} {c : Code}
theorem ASG.addvt (h : ASG C G σ a w) {i t : Nat} {x : AV} (hr : Rep G σ w (C.pv i t) x) : ASG C G (ovr σ [(.vt i t, .av x)]) a w := by
  obtain ⟨σ', hσ⟩ : ∃ σ', σ' = ovr σ [(.vt i t, .av x)] := ⟨_, rfl⟩
  rw [← hσ]
  have ko : ∀ kk, kk ≠ .vt i t → σ' kk = σ kk := fun kk e => by rw [hσ]; exact ovr_one_ne _ _ _ e
  have ks : σ' (.vt i t) = .av x := by rw [hσ]; exact ovr_one _ _ _
  have lv : ∀ y, Lv σ' y ↔ Lv σ y := fun y => by unfold Lv; rw [ko _ (by simp)]
  have uz : ∀ y, Uz σ' y ↔ Uz σ y := fun y => by unfold Uz; rw [ko _ (by simp)]
  have nm : ∀ m, Nm σ' m ↔ Nm σ m := fun m => by unfold Nm; rw [ko _ (by simp)]
  have ev : Evo G G σ σ' w w := by
    refine ⟨fun y hy => (uz y).2 hy, fun k hk => ?_, fun m hm => ⟨(nm m).2 hm, rfl⟩, fun y _ hl => ⟨(lv y).1 hl, rfl, fun _ _ => rfl⟩, fun k hk hl => ⟨?_, rfl⟩⟩
    · unfold Uh; rw [ko _ (by simp)]; exact hk
    · unfold Lh at hl ⊢; rw [ko _ (by simp)] at hl; exact hl
  obtain ⟨c, d1, d2⟩ := h.df
  refine ⟨h.fr, ⟨c, by rw [ko _ (by simp)]; exact d1, d2.eq, fun i hi => ⟨(d2.ok i hi).obj, (d2.ok i hi).nb, fun q hq => (d2.ok i hi).nn q ((nm q).1 hq), fun z hz => (d2.ok i hi).nz z ((lv z).1 hz)⟩, d2.inj⟩, h.sz, fun t x e => ?_, fun i' t' x' e => ?_, fun m j x e => ?_, fun m hm => h.nm m ((nm m).1 hm), fun n m hn hm e => h.inj n m ((nm n).1 hn) ((nm m).1 hm) e,
    fun y g hl hg => ?_, fun y g h0 hl hg => h.new y g h0 ((lv y).1 hl) hg, fun y1 y2 g hne hy1 hy2 h1 h2 => h.disj y1 y2 g hne ((lv y1).1 hy1) ((lv y2).1 hy2) h1 h2, fun h' E' sz' y' zs' rows' e => ?_, fun y hy hl => h.zz y hy ((lv y).1 hl), fun p hp => ⟨(h.ob p hp).obj, (h.ob p hp).nb, fun n hn => (h.ob p hp).nn n ((nm n).1 hn), fun z hz => (h.ob p hp).nz z ((lv z).1 hz)⟩, fun n hn => (h.sf n ((nm n).1 hn)).of_ko (ko _ (by simp))⟩
  · rw [ko _ (by simp)] at e
    obtain ⟨v, a, b⟩ := h.tmp t x e; exact ⟨v, a, b.evo ev⟩
  · by_cases he : i' = i ∧ t' = t
    · obtain ⟨rfl, rfl⟩ := he
      rw [ks] at e
      cases e
      exact hr.evo ev
    · rw [ko _ (by simp; exact fun a b => he ⟨a, b⟩)] at e
      exact (h.vt i' t' x' e).evo ev
  · rw [ko _ (by simp)] at e
    obtain ⟨a, v, b, c, d⟩ := h.cell m j x e
    exact ⟨(nm m).2 a, v, b, c, d.evo ev⟩
  · obtain ⟨a, b⟩ := h.sep y g ((lv y).1 hl) hg
    exact ⟨a, fun n hn => b n ((nm n).1 hn)⟩
  · rw [ko _ (by simp)] at e
    exact (h.hd h' _ _ _ _ _ e).evo ev rfl
theorem args_start {B : Zone} {vs : Array Value} {args : List DV} {N : Nat} {u : Value} (hW : C.W0 = w) (hN : C.N = N) (hpz : C.pz = [0]) (hob : C.ob = []) (hZp : ∀ b, C.Zp 0 b ↔ B b ∧ b < w.heap.size) (h : Reps B w vs args) (hB : ∀ b, B b → b < w.heap.size) (hargs : args.length + 1 ≤ N) :
    ASG C ⟨fun _ => 0, fun z b => z = 0 ∧ B b, fun _ => undef, fun _ => 0⟩ (lk (argRows 1 args ++ [(.zn 0, .zn .live)])) { tmps := #[u] ++ vs ++ Array.replicate (N - (#[u] ++ vs).size) undef, defers := [] } w := by
  obtain ⟨hs, hv⟩ := h
  have hzn : ∀ z, Lv (lk (argRows 1 args ++ [(.zn 0, .zn .live)])) z → z = 0 := fun z hz => by
    unfold Lv at hz
    rw [lk_args_ne _ _ _ (by simp)] at hz
    simp only [lk, Key.zn.injEq] at hz
    by_cases h0 : 0 = z
    · exact h0.symm
    · rw [if_neg h0] at hz; simp [dflt] at hz
  have uz : Uz (lk (argRows 1 args ++ [(.zn 0, .zn .live)])) 0 := by
    unfold Uz
    rw [lk_args_ne _ _ _ (by simp)]
    simp [lk]
  have nonm : ∀ n, ¬ Nm (lk (argRows 1 args ++ [(.zn 0, .zn .live)])) n := fun n e => by
    unfold Nm at e
    rw [lk_args_ne _ _ _ (by simp)] at e
    simp [lk, dflt] at e
  refine ⟨by rw [hW]; exact Keeps.refl _ _, ⟨0, ?_, rfl, fun i hi => by omega, fun i j hi => by omega⟩, ?_, fun t x e => ?_, fun i t x e => ?_, fun n k x e => ?_, fun n e => absurd e (nonm n), fun n m e => absurd e (nonm n), fun z b hl hz => ?_, fun z b h0 hl hz => ?_, fun y z b hne hy hz h1 h2 => hne ((hzn y hy).trans (hzn z hz).symm), fun h E sz y zs rows e => ?_, fun z hz _ b => ?_, fun p hp => by rw [hob] at hp; simp at hp, fun n e => absurd e (nonm n)⟩
  · rw [lk_args_ne _ _ _ (by simp)]; rfl
  · rw [hN]; simp; omega
  · rw [lk_args] at e
    split at e
    · rename_i ht
      have hi : t - 1 < args.length := by omega
      rw [List.getElem?_eq_getElem hi] at e
      simp only [KV.av.injEq] at e
      subst e
      have hlt : t - 1 < vs.size := by omega
      refine ⟨vs.getD (t - 1) undef, ?_, atz_rep (fun z hz => ?_) ((hv (t - 1) _ (List.getElem?_eq_getElem hi)).evo fun b hb hlt => ⟨⟨0, by simp, rfl, hb⟩, rfl⟩)⟩
      · obtain ⟨i, rfl⟩ : ∃ i, t = i + 1 := ⟨t - 1, by omega⟩
        simp only [Nat.add_sub_cancel] at hlt ⊢
        have h1 : i + 1 < (#[u] ++ vs).size := by simp; omega
        rw [Array.getElem?_append_left h1, Array.getElem?_append_right (by simp)]
        simp [Array.getD_eq_getD_getElem?, hlt]
      · simp at hz; subst hz
        exact uz
    · simp [lk, dflt] at e
  · rw [lk_args_ne _ _ _ (by simp)] at e; simp [lk, dflt] at e
  · rw [lk_args_ne _ _ _ (by simp)] at e; simp [lk, dflt] at e
  · exact ⟨hB b hz.2, fun n e => absurd e (nonm n)⟩
  · rw [hpz] at h0
    exact absurd hz.1 (by simpa using h0)
  · rw [lk_args_ne _ _ _ (by simp)] at e; simp [lk, dflt] at e
  · have : z = 0 := by rw [hpz] at hz; simpa using hz
    subst this
    rw [hZp]
    exact ⟨fun h => ⟨h.2, hB b h.2⟩, fun h => ⟨rfl, h.1⟩⟩
def ckz (W0 : World) (N : Nat) (A B : Zone) (g : Nat) : Cx := ⟨W0, fun k => k < W0.heap.size ∧ ¬ A k, N, fun _ _ => .pointer (some ⟨g, 0, none⟩), fun _ b => B b ∧ b < W0.heap.size, [0], [], fun _ h => h.1⟩
def kzRows (κ : VK) (args : List DV) (cs : List CC) : Row := (.vt 0 0, .av (.ptr 1 0)) :: (.tmp 0, .av (κ.av 1)) :: ((oWr 1 1 [0] 0 cs ++ [(.nm 1, .nm true), (.sz 1, .sz cs.length)]) ++ (argRows 1 args ++ [(.zn 0, .zn .live)]))
theorem kz_start {A B : Zone} {vs : Array Value} {args : List DV} {N g : Nat} {κ : VK} {cs : List CC} (hO : OW A B w g cs) (hA : ∀ b, A b → Soft w b ∧ ¬ B b) (hB : ∀ b, B b → b < w.heap.size) (h : Reps B w vs args) (hargs : args.length + 1 ≤ N) :
    AS (ckz w N A B g) (lk (kzRows κ args cs)) { tmps := #[κ.val g] ++ vs ++ Array.replicate (N - (#[κ.val g] ++ vs).size) undef, defers := [] } w := by
  have h0 := args_start (C := ckz w N A B g) (u := κ.val g) rfl rfl rfl rfl (fun b => Iff.rfl) h hB hargs
  have df : ∀ k, (∀ t, k ≠ .tmp t) → k ≠ .zn 0 → lk (argRows 1 args ++ [(.zn 0, .zn .live)]) k = dflt k := fun k q1 q2 => by
    rw [lk_args_ne _ _ _ q1]
    simp only [lk]
    rw [if_neg (fun e => q2 e.symm)]
  have lv0 : ∀ y, Lv (lk (argRows 1 args ++ [(.zn 0, .zn .live)])) y → y = 0 := fun y hy => by
    by_cases e : y = 0
    · exact e
    · unfold Lv at hy; rw [df _ (by simp) (by simpa using e)] at hy; cases hy
  have l0 : Lv (lk (argRows 1 args ++ [(.zn 0, .zn .live)])) 0 := by unfold Lv; rw [lk_args_ne _ _ _ (by simp)]; simp [lk]
  obtain ⟨G', k1, k2, k3⟩ := h0.newobj (n := 1) (z := 1) (g := g) (zs := [0]) (cs := cs) (AN := A) (df _ (by simp) (by simp)) (fun y hy => by simp at hy; subst hy; exact l0) (fun p hp => by simp [ckz] at hp; omega) (hO.evo (fun b hb _ => ⟨hb, rfl⟩) fun b hb _ => ⟨⟨0, by simp, rfl, hb⟩, rfl⟩)
    (fun b hb => ⟨(hA b hb).1.lt, fun q => q.2 hb, fun m hm => (by unfold Nm at hm; rw [df _ (by simp) (by simp)] at hm; cases hm), fun y _ hz => (hA b hb).2 hz.2, fun k i e hi => (by rw [df _ (by simp) (by simp)] at e; cases e; omega), fun p hp => (by simp [ckz] at hp)⟩) (fun i E sz rows _ => ⟨df _ (by simp) (by simp <;> omega), df _ (by simp) (by simp)⟩)
  obtain ⟨σ1, hσ1⟩ : ∃ σ1, σ1 = ovr (lk (argRows 1 args ++ [(.zn 0, .zn .live)])) (oWr 1 1 [0] 0 cs ++ [(.nm 1, .nm true), (.sz 1, .sz cs.length)]) := ⟨_, rfl⟩
  rw [← hσ1] at k1
  have n1 : Nm σ1 1 := by
    unfold Nm
    rw [hσ1]
    refine ovr_get ?_
    rw [fnd_app]
    cases hh : fnd (oWr 1 1 [0] 0 cs) (.nm 1) with
    | some q => rcases fnd_oWr cs 0 hh with ⟨i, h1, _⟩ | ⟨i, _, h1⟩ | ⟨i, _, h1⟩ <;> cases h1
    | none => simp [fnd]
  have k4 := k1.retell (σ' := ovr σ1 [(.tmp 0, .av (κ.av 1))]) (fun key q1 _ => ovr_one_ne _ _ _ (q1 0)) (fun t x e => ?_) (fun n k x e => ?_)
  · have n2 : Nm (ovr σ1 [(.tmp 0, .av (κ.av 1))]) 1 := by unfold Nm; rw [ovr_one_ne _ _ _ (by simp)]; exact n1
    have k5 := k4.addvt (i := 0) (t := 0) (x := .ptr 1 0) ⟨n2, by show _ = _; rw [k3]; rfl⟩
    refine ⟨G', ?_⟩
    have e : lk (kzRows κ args cs) = ovr (ovr σ1 [(.tmp 0, .av (κ.av 1))]) [(.vt 0 0, .av (.ptr 1 0))] := by
      unfold kzRows
      rw [show ((Key.vt 0 0, KV.av (.ptr 1 0)) :: (.tmp 0, .av (κ.av 1)) :: ((oWr 1 1 [0] 0 cs ++ [(.nm 1, .nm true), (.sz 1, .sz cs.length)]) ++ (argRows 1 args ++ [(.zn 0, .zn .live)]))) = [(.vt 0 0, .av (.ptr 1 0))] ++ ([(.tmp 0, .av (κ.av 1))] ++ ((oWr 1 1 [0] 0 cs ++ [(.nm 1, .nm true), (.sz 1, .sz cs.length)]) ++ (argRows 1 args ++ [(.zn 0, .zn .live)]))) from rfl, lk_app, lk_app, lk_app, hσ1]
    rw [e]
    exact k5
  · by_cases ht : t = 0
    · subst ht
      rw [ovr_one] at e
      cases e
      exact ⟨κ.val g, by simp [Array.getElem?_append], by rw [← k3]; exact kav_rep n1⟩
    · rw [ovr_one_ne _ _ _ (by simpa using ht)] at e
      exact k1.tmp t x e
  · rw [ovr_one_ne _ _ _ (by simp)] at e
    exact k1.cell n k x e
theorem kz_intro {f : FuncId} {fn : Func} {κ : VK} {args : List DV} {cs : List CC} {R : Zone → Zone → World → Nat → Ending → World → Prop} (hf : P.funcs[f]? = some fn) (hb : fn.body = some c) {N : Nat} (hn : fn.ntmps = N) (hargs : args.length + 1 ≤ N)
    (h : ∀ W0 A B g, (ckz W0 N A B g).N = N → (ckz W0 N A B g).pz = [0] → AW P (ckz W0 N A B g) none c (bodyPostM Fence.wide 10 P fn (R A B W0 g)) (kzRows κ args cs)) : KzA P f κ args cs R := by
  intro A B w g vs hV hA hB hr
  refine calls_of_aw hf hb (h w A B g rfl rfl _ w ?_)
  rw [hn]
  exact kz_start hV hA hB hr hargs
structure KzE (L : Row) (n : Nat) (cs' : List CC) (yo : List (Option Nat)) (zs : List Nat) (r : Row) : Prop where
  nm : lk L (.nm n) = .nm true
  sz : lk L (.sz n) = .sz cs'.length
  rd : oRead (lk L) n 0 cs'.length = some (r, cs', yo, zs)
theorem kz_end {A B : Zone} {W0 : World} {N g : Nat} {L : Row} {cs' : List CC} {yo : List (Option Nat)} {zs zr0 : List Nat} {r : Row} (hA : ASG (ckz W0 N A B g) G σ a w) (ek : ∀ key, key ≠ .df → σ key = lk L key) (hv : lk L (.vt 0 0) = .av (.ptr 1 0)) (h0 : lk L (.zn 0) = .zn .live) (hE : KzE L 1 cs' yo zs r) (hok : oOk [0] yo (zs ++ zr0) = true) (hzr : ∀ z ∈ zr0, Lv σ z) :
    KzQ W0 g A B cs' w (fun b => b = G.ρ 1 ∨ ∃ y, some y ∈ yo ∧ G.ζ y b) (fun b => ∃ z ∈ zs ++ zr0, z ≠ 0 ∧ G.ζ z b) ∧ (∀ b, G.zu (zs ++ zr0) b → B b ∨ ∃ z ∈ zs ++ zr0, z ≠ 0 ∧ G.ζ z b) := by
  have hn : Nm σ 1 := by unfold Nm; rw [ek _ (by simp)]; exact hE.nm
  have hsz : σ (.sz 1) = .sz cs'.length := by rw [ek _ (by simp)]; exact hE.sz
  have hr : Rd σ r := fun kv hkv => by
    have := oRead_rd (y := (cs', yo, zs)) hE.rd kv hkv
    rw [ek kv.1 (fun e => ?_)]
    · exact this
    · exact absurd e (oRead_ndf hE.rd kv hkv)
  obtain ⟨q1, q2⟩ := oOk_ok hok
  obtain ⟨k1, k2, k3, k4, k5⟩ := oRead_ok hA hE.rd hr
  have ow := obj_ow hA hn hsz hE.rd hr q2
  have eg : g = G.ρ 1 := by
    have := (hA.vt 0 0 (.ptr 1 0) (by rw [ek _ (by simp)]; exact hv)).rep
    have : (Value.pointer (some ⟨g, 0, none⟩)) = .pointer (some ⟨G.ρ 1, 0, none⟩) := this
    simpa using this
  have l0 : Lv σ 0 := by unfold Lv; rw [ek _ (by simp)]; exact h0
  have lall : ∀ y ∈ zs ++ zr0, Lv σ y := fun y hy => by
    rcases List.mem_append.1 hy with h | h
    · exact k2 y h
    · exact hzr y h
  have toB : ∀ b, G.ζ 0 b → B b := fun b hb => ((hA.zz 0 (by simp [ckz]) l0 b).1 hb).1
  have lean : ∀ b, G.zu (zs ++ zr0) b → B b ∨ ∃ z ∈ zs ++ zr0, z ≠ 0 ∧ G.ζ z b := fun b ⟨z, hz, hb⟩ => by
    by_cases e : z = 0
    · subst e; exact .inl (toB b hb)
    · exact .inr ⟨z, hz, e, hb⟩
  have notB : ∀ b, ¬ (ckz W0 N A B g).B b → A b ∨ W0.heap.size ≤ b := fun b hb => by
    by_cases h1 : A b
    · exact .inl h1
    · exact .inr (Nat.le_of_not_lt fun h2 => hb ⟨h2, h1⟩)
  refine ⟨⟨fun b hb => ?_, fun b ⟨z, hz, hne, hb⟩ => ?_, ?_, ⟨hA.fr.os, hA.fr.tape, hA.fr.output, hA.fr.size, fun i hi hb => hA.fr.block i hi ⟨hi, hb⟩⟩⟩, lean⟩
  · rcases hb with rfl | ⟨y, hy, hb⟩
    · exact ⟨notB _ (hA.nm 1 hn).1, (hA.sf 1 hn).s⟩
    · have := hA.new y b (q1 y hy).1 (k3 y hy) hb
      exact ⟨notB _ this.1, this.2⟩
  · have hz1 : z ∉ (ckz W0 N A B g).pz := by simpa [ckz] using hne
    have := hA.new z b hz1 (lall z hz) hb
    refine ⟨notB _ this.1, this.2, ?_⟩
    rintro (rfl | ⟨y, hy, hb'⟩)
    · exact (hA.sep z _ (lall z hz) hb).2 1 hn rfl
    · exact hA.disj z y b (fun e => (q1 y hy).2 (e ▸ hz)) (lall z hz) (k3 y hy) hb hb'
  · rw [eg]
    exact ow.evo (fun b hb _ => ⟨hb, rfl⟩) fun b ⟨z, hz, hb⟩ _ => ⟨lean b ⟨z, List.mem_append_left _ hz, hb⟩, rfl⟩
theorem nx_kz {fn : Func} {res : Res} {e : Exit} {L : Row} {rs : List ResultVar} {zr0 : List Nat} {ds : List DV} {rr r : Row} {W0 : World} {A B : Zone} {N g : Nat} {cs' : List CC} {yo : List (Option Nat)} {zs : List Nat} (T : Tab P) (he : e = .normal ∨ e = .ret) (hrs : fn.results = rs.toArray) (hres : resL T (lk L) rs = some (zr0, ds)) (hzr : zr (lk L) zr0 = some rr) (hd : resMk ds = res)
    (hv : lk L (.vt 0 0) = .av (.ptr 1 0)) (h0 : lk L (.zn 0) = .zn .live) (hE : KzE L 1 cs' yo zs r) (hok : oOk [0] yo (zs ++ zr0) = true) : NX (ckz W0 N A B g) (bodyPostM Fence.wide 10 P fn (KzR cs' res A B W0 g)) e L := by
  intro a w ⟨G, hA⟩
  obtain ⟨k, d1, _⟩ := hA.df
  have : LeavesInM Fence.wide 10 P fn a.tmps (KzR cs' res A B W0 g) a.defers .returning w := by
    refine leave_ok rfl k G _ a w hA d1 fun σ' a' w' h' et ek => ?_
    have lz : ∀ z ∈ zr0, Lv σ' z := fun z hz => by
      have := zr_ok hzr (zr_rd hzr) z hz
      unfold Lv at this ⊢
      rw [ek _ (by simp)]; exact this
    obtain ⟨v, q1, q2⟩ := res_vals (T := T) (P := P) (fn := fn) hrs (by rw [resOf_ne ek]; exact hres) lz h'
    rw [et] at q1
    obtain ⟨m1, m2⟩ := kz_end h' ek hv h0 hE hok lz
    refine ⟨v, q1, v, _, _, rfl, m1, ?_⟩
    rw [← hd]
    exact q2.mono fun b ⟨y, hy, hb⟩ => m2 b ⟨y, List.mem_append_right _ hy, hb⟩
  rcases he with rfl | rfl <;> exact this
theorem nx_kzo {fn : Func} {e : Exit} {L : Row} {t h E sz y : Nat} {zq : List Nat} {rows : List (List D)} {rr r : Row} {W0 : World} {A B : Zone} {N g : Nat} {cs' : List CC} {yo : List (Option Nat)} {zs : List Nat} (he : e = .normal ∨ e = .ret) (hrs : fn.results = #[.tmp t]) (ht : lk L (.tmp t) = .av (.own h)) (hh : lk L (.hd h) = .hd (.own E sz y zq rows)) (hzr : zr (lk L) (y :: zq) = some rr)
    (hv : lk L (.vt 0 0) = .av (.ptr 1 0)) (h0 : lk L (.zn 0) = .zn .live) (hE : KzE L 1 cs' yo zs r) (hok : oOk [0] (some y :: yo) (zs ++ zq) = true) : NX (ckz W0 N A B g) (bodyPostM Fence.wide 10 P fn (KzoR cs' E sz rows A B W0 g)) e L := by
  intro a w ⟨G, hA⟩
  obtain ⟨k, d1, _⟩ := hA.df
  have : LeavesInM Fence.wide 10 P fn a.tmps (KzoR cs' E sz rows A B W0 g) a.defers .returning w := by
    refine leave_ok rfl k G _ a w hA d1 fun σ' a' w' h' et ek => ?_
    have lz : ∀ z ∈ y :: zq, Lv σ' z := fun z hz => by
      have := zr_ok hzr (zr_rd hzr) z hz
      unfold Lv at this ⊢
      rw [ek _ (by simp)]; exact this
    have hok' : oOk [0] yo (zs ++ zq) = true := by
      unfold oOk at hok ⊢
      simp only [List.all_cons, Bool.and_eq_true, List.filterMap_cons, id_eq] at hok ⊢
      exact ⟨hok.1.2, decide_eq_true (List.nodup_cons.1 (of_decide_eq_true hok.2)).2⟩
    obtain ⟨m1, m2⟩ := kz_end h' ek hv h0 hE hok' (fun z hz => lz z (List.mem_cons_of_mem _ hz))
    obtain ⟨o1, o2⟩ := oOk_ok hok
    have hn : Nm σ' 1 := by unfold Nm; rw [ek _ (by simp)]; exact hE.nm
    have hhd : σ' (.hd h) = .hd (.own E sz y zq rows) := by rw [ek _ (by simp)]; exact hh
    obtain ⟨u, t1, t2⟩ := h'.tmp t (.own h) (by rw [ek _ (by simp)]; exact ht)
    have t1' : a.tmps[t]? = some u := by rw [← et]; exact t1
    have w1 : (resRun a (.tmp t)).run P w' = .ok u w' := by simp [resRun, Array.getD_eq_getD_getElem?, t1']
    have q1 := results_run (P := P) (fn := fn) (a := a) (w := w') (vs := [u]) (by rw [hrs]; simp [w1])
    obtain ⟨v, hv'⟩ : ∃ v, v = u := ⟨u, rfl⟩
    subst hv'
    refine ⟨v, by simpa using q1, v, _, _, rfl, m1, ?_, fun b hb => ?_⟩
    all_goals
      have ev := t2.rep ⟨_, _, _, _, _, hhd⟩
      obtain ⟨k1, vals, p1, p2, p3, p4⟩ := (h'.hd h _ _ _ _ _ hhd).own (lz y List.mem_cons_self)
      rw [← show v = _ from ev] at k1 p1
    · exact ⟨vals, p1, p2, p3, fun _ i r j x hi hj => (p4 (fun z hz => lz z (List.mem_cons_of_mem _ hz)) i r j x hi hj).mono fun b ⟨z, hz, hb⟩ => m2 b ⟨z, List.mem_append_right _ hz, hb⟩⟩
    · have hby := (k1 b).2 hb
      have ly := lz y List.mem_cons_self
      have hyn := (o1 y List.mem_cons_self)
      have hnew := h'.new y b hyn.1 ly hby
      refine ⟨?_, ?_, ?_⟩
      · by_cases h1 : A b
        · exact .inl h1
        · exact .inr (Nat.le_of_not_lt fun h2 => hnew.1 ⟨h2, h1⟩)
      · rintro (rfl | ⟨y', hy', hb'⟩)
        · exact (h'.sep y _ ly hby).2 1 hn rfl
        · obtain ⟨i, hi⟩ := List.mem_iff_getElem?.1 hy'
          have ne : y' ≠ y := fun e => by subst e; exact o2 0 (i + 1) y' (by omega) rfl (by simpa using hi)
          have ly' : Lv σ' y' := by
            have hr : Rd σ' r := fun kv hkv => by
              have := oRead_rd (y := (cs', yo, zs)) hE.rd kv hkv
              rw [ek kv.1 (oRead_ndf hE.rd kv hkv)]
              exact this
            exact (oRead_ok h' hE.rd hr).2.2.1 y' hy'
          exact h'.disj y' y b ne ly' ly hb' hby
      · rintro ⟨z, hz, _, hb'⟩
        have ne : z ≠ y := fun e => by subst e; exact hyn.2 hz
        have lz' : Lv σ' z := by
          rcases List.mem_append.1 hz with h | h
          · have hr : Rd σ' r := fun kv hkv => by
              have := oRead_rd (y := (cs', yo, zs)) hE.rd kv hkv
              rw [ek kv.1 (oRead_ndf hE.rd kv hkv)]
              exact this
            exact (oRead_ok h' hE.rd hr).2.1 z h
          · exact lz z (List.mem_cons_of_mem _ h)
        exact h'.disj z y b ne lz' ly hb' hby
  rcases he with rfl | rfl <;> exact this
end
theorem run_func {P : Program} {f : FuncId} {args : List Value} (hf : callOk P f = true) (w : World) : (callFunc f args.toArray).run P w = .ok (.enter f args.toArray) w := by
  unfold callOk at hf
  split at hf
  · rename_i fn hfn
    simp only [Bool.and_eq_true, Bool.not_eq_true'] at hf
    have hb : fn.body.isNone = false := by cases h : fn.body <;> simp_all
    have hn := hf.1
    simp only [callFunc, Sem.run_bind, Sem.run_pure, Result.andThen_ok, run_program, hfn, hn, hb, Bool.false_eq_true, if_false]
  · cases hf
section
variable {P : Program} {C : Cx} {G : Gh} {σ : St} {a : Act} {w : World} {L : St} {T : Tab P}
theorem run_invoke {d : Option Tmp} {x : Operand} {m : String} {args : Array Operand} {ats : Array TypeId} {ty : TypeId} {st : String} {e : Array Edge} {gd : Option (Nat × Bool)} {t : TypeId} {v rv : Value} {f : FuncId} (hx : a.eval x = .iface t v) (hm : (method (P.types.size + Made.depth) t v m).run P w = .ok (f, rv) w) (hf : callOk P f = true) :
    (execOp a.eval ⟨d, .call ⟨.invoke x m, args, ats⟩, ty, st, e, gd⟩).run P w = .ok (.enter f (#[rv] ++ (args.toList.map a.eval).toArray)) w := by
  have h0 : ((#[a.eval x] ++ args.map a.eval)[0]? : Option Value) = some (.iface t v) := by rw [hx, Array.getElem?_append_left (by simp)]; rfl
  have h1 : (#[a.eval x] ++ args.map a.eval).extract 1 (#[a.eval x] ++ args.map a.eval).size = (args.toList.map a.eval).toArray := by
    apply Array.ext'
    simp only [Array.toList_extract, Array.toList_append, Array.toList_map]
    simp [List.take_of_length_le]
  have h2 := run_func (P := P) (f := f) (args := rv :: args.toList.map a.eval) hf w
  have e2 : (rv :: args.toList.map a.eval).toArray = #[rv] ++ (args.toList.map a.eval).toArray := by simp
  rw [e2] at h2
  simp only [execOp, resolve, invoke, Sem.run_bind, Sem.run_pure, Result.andThen_ok, h0, h1, callMethod, run_program, hm, h2]
theorem run_val {d : Option Tmp} {f : FuncId} {x : Operand} {args : Array Operand} {xs : List Operand} {ats : Array TypeId} {ty : TypeId} {st : String} {e : Array Edge} {gd : Option (Nat × Bool)} {v : Value} (hx : a.eval x = v) (hargs : args.toList = x :: xs) (hf : callOk P f = true) (w : World) :
    (execOp a.eval ⟨d, .call ⟨.value (.func f), args, ats⟩, ty, st, e, gd⟩).run P w = .ok (.enter f (#[v] ++ (xs.map a.eval).toArray)) w := by
  have := run_call (o := ⟨d, .call ⟨.value (.func f), args, ats⟩, ty, st, e, gd⟩) (P := P) (ρ := a.eval) (x := .func f) (caps := #[]) rfl rfl rfl hf w
  rw [this]
  congr 2
  apply Array.ext'
  simp [hargs, hx]
theorem run_bound {d : Option Tmp} {f : FuncId} {x : Operand} {args : Array Operand} {ats : Array TypeId} {ty : TypeId} {st : String} {e : Array Edge} {gd : Option (Nat × Bool)} {v : Value} (hx : a.eval x = .func (.func f) #[v] #[]) (hf : callOk P f = true) (w : World) :
    (execOp a.eval ⟨d, .call ⟨.value x, args, ats⟩, ty, st, e, gd⟩).run P w = .ok (.enter f (#[v] ++ (args.toList.map a.eval).toArray)) w := by
  have e3 : (args.toList.map a.eval).toArray = args.map a.eval := by apply Array.ext'; simp
  rw [e3]
  unfold callOk at hf
  split at hf
  · rename_i fn hfn
    simp only [Bool.and_eq_true, Bool.not_eq_true'] at hf
    have hb : fn.body.isNone = false := by cases h : fn.body <;> simp_all
    have hn := hf.1
    simp only [execOp, resolve, hx, Deferred.ofValue, invoke, callFunc, Sem.run_bind, Sem.run_pure, Result.andThen_ok, run_program, hfn, hn, hb, Bool.false_eq_true, if_false]
    simp
  · cases hf
theorem hatch_pure {d : Tmp} {op : Op} {ty : TypeId} {st : String} {e : Array Edge} {gd : Option (Nat × Bool)} {k : Trc → Prop} (reads : Row) (y : AV) (hnd : ∀ c, op ≠ .defer c) (hrd : Rd L reads)
    (h : ∀ (C : Cx) (G : Gh) (σ : St) (a : Act) (w : World), ASG C G σ a w → Rd σ reads → ∃ v, (execOp a.eval ⟨some d, op, ty, st, e, gd⟩).run P w = .ok (.value v) w ∧ Rep G σ w v y) (hk : k ⟨reads, wr (some d) y⟩) : stHatch P L ⟨some d, op, ty, st, e, gd⟩ k :=
  ⟨_, hk, hrd, fun C hd => OpOk.pure hnd (dok_ok hd) (h C)⟩
theorem hatch_z {pz : List Nat} {z : Nat} {o : Oper} {k : Trc → Prop} (h : stHatch P L o k) : stHatchZ P L pz z o k := by
  obtain ⟨tr, h1, h2, h3⟩ := h
  exact ⟨tr, h1, h2, fun C hd _ _ => h3 C hd⟩
section
variable {d t0 : Tmp} {ty : TypeId} {st : String} {e : Array Edge} {gd : Option (Nat × Bool)} {k : Trc → Prop} {n off : Nat} {t u : TypeId} {pz : List Nat} {z : Nat}
theorem hatch_mkifc (hm : ∀ (v : Value) (w : World), (Instr.makeInterface t v).run P w = .ok (.iface t v) w) (hx : L (.tmp t0) = .av (.ptr n 0)) (hk : k ⟨[(.tmp t0, .av (.ptr n 0))], wr (some d) (.wp (.ifc t) n)⟩) : stHatchZ P L pz z ⟨some d, .makeInterface t (.tmp t0), ty, st, e, gd⟩ k := by
  refine hatch_z (hatch_pure [(.tmp t0, .av (.ptr n 0))] _ (fun c => by simp) (Rd.cons hx Rd.nil) (fun C G σ a w hA hr => ?_) hk)
  obtain ⟨v, t1, t2⟩ := hA.tmp _ _ hr.head
  refine ⟨_, ?_, t2.ok, rfl⟩
  have ev : a.eval (.tmp t0) = .pointer (some ⟨G.ρ n, 0, none⟩) := by simp only [Act.eval, Array.getD_eq_getD_getElem?, t1]; exact t2.rep
  simp only [execOp]
  rw [ev]
  simp [hm, VK.val]
theorem hatch_nilp (hx : L (.tmp t0) = .av (.ptr n off)) (hk : k ⟨[(.tmp t0, .av (.ptr n off))], wr (some d) (.ptr n off)⟩) : stHatchZ P L pz z ⟨some d, .nilCheck (.tmp t0), ty, st, e, gd⟩ k := by
  refine hatch_z (hatch_pure [(.tmp t0, .av (.ptr n off))] _ (fun c => by simp) (Rd.cons hx Rd.nil) (fun C G σ a w hA hr => ?_) hk)
  obtain ⟨v, t1, t2⟩ := hA.tmp _ _ hr.head
  refine ⟨_, ?_, t2.ok, rfl⟩
  have ev : a.eval (.tmp t0) = .pointer (some ⟨G.ρ n, off, none⟩) := by simp only [Act.eval, Array.getD_eq_getD_getElem?, t1]; exact t2.rep
  simp only [execOp]
  rw [ev]
  simp [Instr.sureAddr]
theorem hatch_eqnil {b : Bool} {op : BinOp} (hm : ∀ (ad : Addr) (w : World), (do eqGuard op t (.tmp t0) (.const (.pointer none)) (.pointer (some ad)) (.pointer none); binOp op t (.pointer (some ad)) (.pointer none) : Sem Value).run P w = .ok (.bool b) w) (hx : L (.tmp t0) = .av (.ptr n off)) (hk : k ⟨[(.tmp t0, .av (.ptr n off))], wr (some d) (.c [] (.v (.bool b)))⟩) : stHatch P L ⟨some d, .binOp op t (.tmp t0) (.const (.pointer none)) u, ty, st, e, gd⟩ k := by
  refine hatch_pure [(.tmp t0, .av (.ptr n off))] _ (fun c => by simp) (Rd.cons hx Rd.nil) (fun C G σ a w hA hr => ?_) hk
  obtain ⟨v, t1, t2⟩ := hA.tmp _ _ hr.head
  refine ⟨_, ?_, rep_raw _⟩
  have ev : a.eval (.tmp t0) = .pointer (some ⟨G.ρ n, off, none⟩) := by simp only [Act.eval, Array.getD_eq_getD_getElem?, t1]; exact t2.rep
  have e2 : a.eval (.const (.pointer none)) = .pointer none := rfl
  have := hm ⟨G.ρ n, off, none⟩ w
  simp only [execOp, ev, e2]
  rw [Sem.run_bind, this]
  rfl
theorem hatch_bound {f : FuncId} (hx : L (.tmp t0) = .av (.ptr n 0)) (hk : k ⟨[(.tmp t0, .av (.ptr n 0))], wr (some d) (.wp (.fn f) n)⟩) : stHatchZ P L pz z ⟨some d, .makeFunc (.func f) #[.tmp t0] #[], ty, st, e, gd⟩ k := by
  refine hatch_z (hatch_pure [(.tmp t0, .av (.ptr n 0))] _ (fun c => by simp) (Rd.cons hx Rd.nil) (fun C G σ a w hA hr => ?_) hk)
  obtain ⟨v, t1, t2⟩ := hA.tmp _ _ hr.head
  refine ⟨_, ?_, t2.ok, rfl⟩
  have ev : a.eval (.tmp t0) = .pointer (some ⟨G.ρ n, 0, none⟩) := by simp only [Act.eval, Array.getD_eq_getD_getElem?, t1]; exact t2.rep
  simp [execOp, Instr.makeFunc, ev, VK.val]
theorem hatch_ex0 {us : List Value} (hx : L (.tmp t0) = .av (.wp (.tup us) n)) (hk : k ⟨[(.tmp t0, .av (.wp (.tup us) n))], wr (some d) (.ptr n 0)⟩) : stHatch P L ⟨some d, .extract (.tmp t0) 0, ty, st, e, gd⟩ k := by
  refine hatch_pure [(.tmp t0, .av (.wp (.tup us) n))] _ (fun c => by simp) (Rd.cons hx Rd.nil) (fun C G σ a w hA hr => ?_) hk
  obtain ⟨v, t1, t2⟩ := hA.tmp _ _ hr.head
  refine ⟨_, ?_, t2.ok, rfl⟩
  have ev : a.eval (.tmp t0) = (VK.tup us).val (G.ρ n) := by simp only [Act.eval, Array.getD_eq_getD_getElem?, t1]; exact t2.rep
  simp [execOp, Instr.extract, ev, VK.val]
theorem hatch_exs {us : List Value} {i : Nat} {u : Value} (hu : us[i]? = some u) (hx : L (.tmp t0) = .av (.wp (.tup us) n)) (hk : k ⟨[(.tmp t0, .av (.wp (.tup us) n))], wr (some d) (.c [] (.v u))⟩) : stHatch P L ⟨some d, .extract (.tmp t0) (i + 1), ty, st, e, gd⟩ k := by
  refine hatch_pure [(.tmp t0, .av (.wp (.tup us) n))] _ (fun c => by simp) (Rd.cons hx Rd.nil) (fun C G σ a w hA hr => ?_) hk
  obtain ⟨v, t1, t2⟩ := hA.tmp _ _ hr.head
  refine ⟨_, ?_, rep_raw _⟩
  have ev : a.eval (.tmp t0) = (VK.tup us).val (G.ρ n) := by simp only [Act.eval, Array.getD_eq_getD_getElem?, t1]; exact t2.rep
  simp [execOp, Instr.extract, ev, VK.val, hu]
end
end
section
variable {P : Program} {c : Code}
def cku (W0 : World) (N : Nat) (v : Value) (Z : Zone) : Cx := ⟨W0, fun k => k < W0.heap.size ∧ v.ownBlock ≠ some k, N, fun _ _ => v, fun _ b => Z b ∧ b < W0.heap.size, [0], [], fun _ h => h.1⟩
def kuRows (E sz : Nat) (rows : List (List D)) (args : List DV) : Row := (.tmp 0, .av (.own 1)) :: (argRows 1 args ++ [(.zn 0, .zn .live), (.zn 1, .zn .live), (.hd 1, .hd (.own E sz 1 [0] rows)), (.vt 0 0, .av (.own 1))])
def KuR (W0 : World) (v : Value) (Z : Zone) (E sz : Nat) (rows' : List (List D)) : Ending → World → Prop := fun e w' => e = .returned (.tuple #[]) ∧ Keeps (fun k => v.ownBlock ≠ some k) W0 w' ∧ RowAt Z w' v E sz rows' True
section
variable {Z : Zone} {w : World} {v : Value} {vs : Array Value} {args : List DV} {N E sz : Nat} {rows : List (List D)}
theorem lk_ku (k : Key) (h : ∀ t, k ≠ .tmp t) : lk (kuRows E sz rows args) k = lk [(.zn 0, .zn .live), (.zn 1, .zn .live), (.hd 1, .hd (.own E sz 1 [0] rows)), (.vt 0 0, .av (.own 1))] k := by
  unfold kuRows
  simp only [lk]
  rw [if_neg (fun e => h 0 e.symm), lk_args_ne _ _ _ h]
  rfl
theorem ku_start (h : Reps Z w vs args) (hrow : RowAt Z w v E sz rows True) (hZ : ∀ g, v.ownBlock = some g → ¬ Z g) (hargs : args.length + 1 ≤ N) :
    AS (cku w N v Z) (lk (kuRows E sz rows args)) { tmps := #[v] ++ vs ++ Array.replicate (N - (#[v] ++ vs).size) undef, defers := [] } w := by
  obtain ⟨hs, hv⟩ := h
  have hzn : ∀ z, Lv (lk (kuRows E sz rows args)) z → z = 0 ∨ z = 1 := fun z hz => by
    unfold Lv at hz
    rw [lk_ku _ (by simp)] at hz
    simp only [lk, Key.zn.injEq] at hz
    by_cases h0 : 0 = z
    · exact .inl h0.symm
    · rw [if_neg h0] at hz
      by_cases h1 : 1 = z
      · exact .inr h1.symm
      · rw [if_neg h1] at hz; simp [dflt] at hz
  have uz : ∀ z, z = 0 ∨ z = 1 → Uz (lk (kuRows E sz rows args)) z := fun z hz => by
    unfold Uz
    rw [lk_ku _ (by simp)]
    rcases hz with rfl | rfl <;> simp [lk]
  have uh : Uh (lk (kuRows E sz rows args)) 1 := by
    unfold Uh
    rw [lk_ku _ (by simp)]
    simp [lk]
  have nonm : ∀ n, ¬ Nm (lk (kuRows E sz rows args)) n := fun n e => by
    unfold Nm at e
    rw [lk_ku _ (by simp)] at e
    simp [lk, dflt] at e
  have hblk : ∀ g, v.ownBlock = some g → ∃ cur, w.heap[g]? = some (.cells cur E (0, 0)) := fun g hg => hrow.lt hg
  have hlt : ∀ g, v.ownBlock = some g → g < w.heap.size := fun g hg => by obtain ⟨cur, e⟩ := hblk g hg; exact (Array.getElem?_eq_some_iff.1 e).1
  have hZe : KeptZ Z (fun b => ∃ z ∈ [0], (if z = 0 then Z b ∧ b < w.heap.size else v.ownBlock = some b)) w w := fun b hb hlt => ⟨⟨0, by simp, by simpa using ⟨hb, hlt⟩⟩, rfl⟩
  refine ⟨⟨fun _ => 0, fun z b => if z = 0 then Z b ∧ b < w.heap.size else v.ownBlock = some b, fun _ => v, fun _ => 0⟩, Keeps.refl _ _, ⟨0, ?_, rfl, fun i hi => by omega, fun i j hi => by omega⟩, ?_, fun t x e => ?_, fun i t x e => ?_, fun n k x e => ?_, fun n e => absurd e (nonm n), fun n m e => absurd e (nonm n), fun z b hl hz => ?_, fun z b h0 hl hz => ?_, fun y z b hne hy hz h1 h2 => ?_, fun h E' sz' y zs rows' e => ?_, fun z hz _ b => ?_, fun p hp => by simp [cku] at hp, fun n e => absurd e (nonm n)⟩
  · rw [lk_ku _ (by simp)]; rfl
  · simp [cku]; omega
  · unfold kuRows at e
    simp only [lk] at e
    by_cases h0 : t = 0
    · subst h0
      rw [if_pos rfl] at e
      cases e
      exact ⟨v, by simp [Array.getElem?_append], ⟨uh, fun _ => rfl⟩⟩
    · rw [if_neg (fun q => h0 (by cases q; rfl)), lk_args] at e
      split at e
      · rename_i ht
        have hi : t - 1 < args.length := by omega
        rw [List.getElem?_eq_getElem hi] at e
        simp only [KV.av.injEq] at e
        subst e
        have hlt : t - 1 < vs.size := by omega
        refine ⟨vs.getD (t - 1) undef, ?_, atz_rep (fun z hz => ?_) ((hv (t - 1) _ (List.getElem?_eq_getElem hi)).evo hZe)⟩
        · obtain ⟨i, rfl⟩ : ∃ i, t = i + 1 := ⟨t - 1, by omega⟩
          simp only [Nat.add_sub_cancel] at hlt ⊢
          have h1 : i + 1 < (#[v] ++ vs).size := by simp; omega
          rw [Array.getElem?_append_left h1, Array.getElem?_append_right (by simp)]
          simp [Array.getD_eq_getD_getElem?, hlt]
        · simp at hz; subst hz
          exact uz 0 (.inl rfl)
      · simp [lk, dflt] at e
  · rw [lk_ku _ (by simp)] at e
    simp only [lk, reduceCtorEq, if_false, Key.vt.injEq] at e
    by_cases hi : 0 = i ∧ 0 = t
    · rw [if_pos hi] at e
      cases e
      exact ⟨uh, fun _ => rfl⟩
    · rw [if_neg hi] at e; simp [dflt] at e
  · rw [lk_ku _ (by simp)] at e; simp [lk, dflt] at e
  · rcases hzn z hl with rfl | rfl
    · exact ⟨by simp at hz; exact hz.2, fun n e => absurd e (nonm n)⟩
    · exact ⟨hlt b (by simpa using hz), fun n e => absurd e (nonm n)⟩
  · rcases hzn z hl with rfl | rfl
    · exact absurd (by simp [cku]) h0
    · have hz : v.ownBlock = some b := by simpa using hz
      obtain ⟨cur, e⟩ := hblk b hz
      exact ⟨fun h => h.2 hz, .mk e⟩
  · rcases hzn y hy with rfl | rfl <;> rcases hzn z hz with rfl | rfl
    · exact hne rfl
    · exact hZ b (by simpa using h2) (by simp at h1; exact h1.1)
    · exact hZ b (by simpa using h1) (by simp at h2; exact h2.1)
    · exact hne rfl
  · rw [lk_ku _ (by simp)] at e
    simp only [lk, reduceCtorEq, if_false, Key.hd.injEq] at e
    by_cases hi : 1 = h
    · rw [if_pos hi] at e
      cases e
      refine ⟨uz 1 (.inr rfl), fun z hz => by simp at hz; subst hz; exact uz 0 (.inl rfl), fun _ => ⟨fun g => by simp, ?_⟩⟩
      obtain ⟨vals, q1, q2, q3, q4⟩ := hrow
      exact ⟨vals, q1, q2, q3, fun _ i r j x hi hj => (q4 trivial i r j x hi hj).evo hZe⟩
    · rw [if_neg hi] at e; simp [dflt] at e
  · have : z = 0 := by simpa [cku] using hz
    subst this
    simp [cku]
end
theorem ku_intro {f : FuncId} {fn : Func} {args : List DV} {E sz : Nat} {rows rows' : List (List D)} (hf : P.funcs[f]? = some fn) (hb : fn.body = some c) {N : Nat} (hn : fn.ntmps = N) (hargs : args.length + 1 ≤ N)
    (h : ∀ W0 v Z, (cku W0 N v Z).N = N → (cku W0 N v Z).pz = [0] → AW P (cku W0 N v Z) none c (bodyPostM Fence.wide 10 P fn (KuR W0 v Z E sz rows')) (kuRows E sz rows args)) : Ku P f args E sz rows rows' := by
  intro Z w v vs hrow hZ hr
  refine calls_of_aw hf hb (h w v Z rfl rfl _ w ?_)
  rw [hn]
  exact ku_start hr hrow hZ hargs
theorem nx_ku {fn : Func} {e : Exit} {L : Row} {W0 : World} {v : Value} {Z : Zone} {N E sz y : Nat} {zs : List Nat} {rows' : List (List D)} (T : Tab P) (he : e = .normal ∨ e = .ret) (hrs : fn.results = #[]) (hv : lk L (.vt 0 0) = .av (.own 1)) (hh : lk L (.hd 1) = .hd (.own E sz y zs rows')) (hy : lk L (.zn y) = .zn .live) (h0 : lk L (.zn 0) = .zn .live) (hz : zs.all (fun z => z == 0) = true) : NX (cku W0 N v Z) (bodyPostM Fence.wide 10 P fn (KuR W0 v Z E sz rows')) e L := by
  intro a w ⟨G, hA⟩
  obtain ⟨k, d1, _⟩ := hA.df
  simp only [List.all_eq_true, beq_iff_eq] at hz
  have : LeavesInM Fence.wide 10 P fn a.tmps (KuR W0 v Z E sz rows') a.defers .returning w := by
    refine leave_ok rfl k G _ a w hA d1 fun σ' a' w' h' et ek => ?_
    obtain ⟨u, q1, q2⟩ := res_vals (T := T) (P := P) (fn := fn) (rs := []) (zs := []) (ds := []) hrs rfl (fun z hz => absurd hz (by simp)) h'
    rw [et] at q1
    obtain ⟨us, rfl, h2, -⟩ := q2
    have e2 : us = #[] := Array.eq_empty_of_size_eq_zero (by simpa using h2)
    have hh' : σ' (.hd 1) = .hd (.own E sz y zs rows') := by rw [ek _ (by simp)]; exact hh
    have hy' : Lv σ' y := by unfold Lv; rw [ek _ (by simp)]; exact hy
    have h0' : Lv σ' 0 := by unfold Lv; rw [ek _ (by simp)]; exact h0
    have hv0 : Rep G σ' w' v (.own 1) := h'.vt 0 0 (.own 1) (by rw [ek _ (by simp)]; exact hv)
    have hv' : v = G.τ 1 := hv0.rep ⟨_, _, _, _, _, hh'⟩
    obtain ⟨k1, vals, p1, p2, p3, p4⟩ := (h'.hd 1 _ _ _ _ _ hh').own hy'
    rw [← hv'] at p1
    refine ⟨_, q1, by rw [e2], ⟨h'.fr.os, h'.fr.tape, h'.fr.output, h'.fr.size, fun i hi hb => h'.fr.block i hi ⟨hi, hb⟩⟩, vals, p1, p2, p3, fun _ i r j x hi hj => ?_⟩
    refine (p4 (fun z hz' => by rw [hz z hz']; exact h0') i r j x hi hj).mono fun b ⟨z, hz', hb⟩ => ?_
    rw [hz z hz'] at hb
    exact ((h'.zz 0 (by simp [cku]) h0' b).1 hb).1
  rcases he with rfl | rfl <;> exact this
end
def hdD (h : Hd) : List D := [.v (.int .i64 h.1), .v (.bool h.2.1), RD h.2.2]
section
variable {P : Program} {C : Cx} {G : Gh} {σ : St} {a : Act} {w : World} {c : Code}
theorem kn_intro {f : FuncId} {fn : Func} {args : List DV} {κN : VK} {csN : List CC} (hf : P.funcs[f]? = some fn) (hb : fn.body = some c) {N : Nat} (hn : fn.ntmps = N) (hargs : args.length ≤ N)
    (h : ∀ W0 Z, AW P (cx W0 N Z) none c (bodyPostM Fence.wide 10 P fn (KnR κN csN W0)) (argRows 0 args ++ [(.zn 0, .zn .live)])) : Kn P f args κN csN := by
  intro Z w vs hr
  refine calls_of_aw hf hb (h w Z _ w ?_)
  rw [hn]
  exact start_ok hr hargs
theorem res_obj {fn : Func} {t s n : Nat} {u : Value} {L : Row} (hrs : fn.results = #[.tmp t, .tmp s]) (ht : lk L (.tmp t) = .av (.ptr n 0)) (hs : lk L (.tmp s) = .av (.c [] (.v u))) (hA : ASG C G σ a w) (ek : ∀ key, key ≠ .df → σ key = lk L key) :
    (results fn a.tmps).run P w = .ok ((VK.tup [u]).val (G.ρ n)) w := by
  obtain ⟨v1, t1, r1⟩ := hA.tmp t (.ptr n 0) (by rw [ek _ (by simp)]; exact ht)
  obtain ⟨v2, t2, r2⟩ := hA.tmp s (.c [] (.v u)) (by rw [ek _ (by simp)]; exact hs)
  have e1 : v1 = .pointer (some ⟨G.ρ n, 0, none⟩) := r1.rep
  have e2 : v2 = u := (r2.rep (by simp)).raw
  have := results_run (P := P) (fn := fn) (a := a) (w := w) (vs := [v1, v2]) (by rw [hrs]; simp [resRun, Array.getD_eq_getD_getElem?, t1, t2])
  rw [e1, e2] at this
  exact this
theorem res_ptr {fn : Func} {t n : Nat} {L : Row} (hrs : fn.results = #[.tmp t]) (ht : lk L (.tmp t) = .av (.ptr n 0)) (hA : ASG C G σ a w) (ek : ∀ key, key ≠ .df → σ key = lk L key) :
    (results fn a.tmps).run P w = .ok ((VK.ptr 0).val (G.ρ n)) w := by
  obtain ⟨v1, t1, r1⟩ := hA.tmp t (.ptr n 0) (by rw [ek _ (by simp)]; exact ht)
  have e1 : v1 = .pointer (some ⟨G.ρ n, 0, none⟩) := r1.rep
  have := results_run (P := P) (fn := fn) (a := a) (w := w) (vs := [v1]) (by rw [hrs]; simp [resRun, Array.getD_eq_getD_getElem?, t1])
  rw [e1] at this
  exact this
theorem nx_kn {fn : Func} {e : Exit} {L : Row} {t s n : Nat} {u : Value} {r : Row} {W0 : World} {Z : Zone} {N : Nat} {cs : List CC} {yo : List (Option Nat)} {zs : List Nat} (he : e = .normal ∨ e = .ret) (hrs : fn.results = #[.tmp t, .tmp s]) (ht : lk L (.tmp t) = .av (.ptr n 0)) (hs : lk L (.tmp s) = .av (.c [] (.v u)))
    (hE : KzE L n cs yo zs r) (hok : oOk [0] yo zs = true) (h0 : ∀ z ∈ zs, z ≠ 0) : NX (cx W0 N Z) (bodyPostM Fence.wide 10 P fn (KnR (.tup [u]) cs W0)) e L := by
  intro a w ⟨G, hA⟩
  obtain ⟨k, d1, _⟩ := hA.df
  have : LeavesInM Fence.wide 10 P fn a.tmps (KnR (.tup [u]) cs W0) a.defers .returning w := by
    refine leave_ok rfl k G _ a w hA d1 fun σ' a' w' h' et ek => ?_
    have hn : Nm σ' n := by unfold Nm; rw [ek _ (by simp)]; exact hE.nm
    have hsz : σ' (.sz n) = .sz cs.length := by rw [ek _ (by simp)]; exact hE.sz
    have hr : Rd σ' r := fun kv hkv => by
      have := oRead_rd (y := (cs, yo, zs)) hE.rd kv hkv
      rw [ek kv.1 (oRead_ndf hE.rd kv hkv)]
      exact this
    obtain ⟨q1, q2⟩ := oOk_ok hok
    obtain ⟨k1, k2, k3, k4, k5⟩ := oRead_ok h' hE.rd hr
    have ow := obj_ow h' hn hsz hE.rd hr q2
    have hres := res_obj (P := P) (fn := fn) hrs ht hs h' ek
    rw [et] at hres
    refine ⟨_, hres, G.ρ n, G.zu zs, _, rfl, ⟨h'.fr.os, h'.fr.tape, h'.fr.output, h'.fr.size, fun i hi => h'.fr.block i hi hi⟩, fun b ⟨z, hz, hb⟩ => ?_, ow, fun b hb => ?_⟩
    · obtain ⟨n1, n2⟩ := h'.new z b (by simpa [cx] using h0 z hz) (k2 z hz) hb
      refine ⟨Nat.le_of_not_lt n1, n2, ?_⟩
      rintro (rfl | ⟨y, hy, hb'⟩)
      · exact (h'.sep z _ (k2 z hz) hb).2 n hn rfl
      · exact h'.disj z y b (fun e => (q1 y hy).2 (e ▸ hz)) (k2 z hz) (k3 y hy) hb hb'
    · rcases hb with rfl | ⟨y, hy, hb⟩
      · exact ⟨Nat.le_of_not_lt (h'.nm n hn).1, (h'.sf n hn).s⟩
      · obtain ⟨n1, n2⟩ := h'.new y b (by simpa [cx] using (q1 y hy).1) (k3 y hy) hb
        exact ⟨Nat.le_of_not_lt n1, n2⟩
  rcases he with rfl | rfl <;> exact this
theorem nx_kzn {fn : Func} {e : Exit} {L : Row} {t n : Nat} {r r2 : Row} {W0 : World} {A B : Zone} {N g : Nat} {cs' cs : List CC} {yo yo2 : List (Option Nat)} {zs zs2 : List Nat} (he : e = .normal ∨ e = .ret) (hrs : fn.results = #[.tmp t]) (ht : lk L (.tmp t) = .av (.ptr n 0)) (h1n : n ≠ 1)
    (hv : lk L (.vt 0 0) = .av (.ptr 1 0)) (h0 : lk L (.zn 0) = .zn .live) (hE : KzE L 1 cs' yo zs r) (hE2 : KzE L n cs yo2 zs2 r2) (hok : oOk [0] yo (zs ++ zs2) = true) (hok2 : oOk [0] yo2 (zs ++ zs2) = true) (hdj : (yo.filterMap id).all (fun y => !yo2.contains (some y)) = true) :
    NX (ckz W0 N A B g) (bodyPostM Fence.wide 10 P fn (KznR cs' (.ptr 0) cs A B W0 g)) e L := by
  intro a w ⟨G, hA⟩
  obtain ⟨k, d1, _⟩ := hA.df
  have : LeavesInM Fence.wide 10 P fn a.tmps (KznR cs' (.ptr 0) cs A B W0 g) a.defers .returning w := by
    refine leave_ok rfl k G _ a w hA d1 fun σ' a' w' h' et ek => ?_
    have rd : ∀ {n : Nat} {cs : List CC} {yo : List (Option Nat)} {zs : List Nat} {r : Row}, KzE L n cs yo zs r → Rd σ' r := fun hE kv hkv => by
      have := oRead_rd (y := (_, _, _)) hE.rd kv hkv
      rw [ek kv.1 (oRead_ndf hE.rd kv hkv)]
      exact this
    have hn1 : Nm σ' 1 := by unfold Nm; rw [ek _ (by simp)]; exact hE.nm
    have hn : Nm σ' n := by unfold Nm; rw [ek _ (by simp)]; exact hE2.nm
    have hsz : σ' (.sz n) = .sz cs.length := by rw [ek _ (by simp)]; exact hE2.sz
    obtain ⟨q1, q2⟩ := oOk_ok hok2
    obtain ⟨_, j2, j3, _, _⟩ := oRead_ok h' hE.rd (rd hE)
    obtain ⟨k1, k2, k3, k4, k5⟩ := oRead_ok h' hE2.rd (rd hE2)
    have ow := obj_ow h' hn hsz hE2.rd (rd hE2) q2
    have hres := res_ptr (P := P) (fn := fn) hrs ht h' ek
    rw [et] at hres
    obtain ⟨m1, m2⟩ := kz_end h' ek hv h0 hE hok k2
    have dj : ∀ y y', some y ∈ yo → some y' ∈ yo2 → y ≠ y' := fun y y' hy hy' e => by
      subst e
      have := List.all_eq_true.1 hdj y (List.mem_filterMap.2 ⟨some y, hy, rfl⟩)
      simp at this
      exact this hy'
    have l1 : ∀ z ∈ zs ++ zs2, Lv σ' z := fun z hz => by
      rcases List.mem_append.1 hz with h | h
      · exact j2 z h
      · exact k2 z h
    refine ⟨_, hres, G.ρ n, _, _, _, rfl, m1, ow.evo (fun b hb _ => ⟨hb, rfl⟩) fun b ⟨z, hz, hb⟩ _ => ⟨m2 b ⟨z, List.mem_append_right _ hz, hb⟩, rfl⟩, fun b hb => ?_⟩
    have notB : ∀ b, ¬ (ckz W0 N A B g).B b → A b ∨ W0.heap.size ≤ b := fun b hb => by
      by_cases h1 : A b
      · exact .inl h1
      · exact .inr (Nat.le_of_not_lt fun h2 => hb ⟨h2, h1⟩)
    rcases hb with rfl | ⟨y, hy, hb⟩
    · refine ⟨notB _ (h'.nm n hn).1, (h'.sf n hn).s, ?_, ?_⟩
      · rintro (e | ⟨y, hy, hb⟩)
        · exact h1n (h'.inj n 1 hn hn1 e)
        · exact (h'.sep y _ (j3 y hy) hb).2 n hn rfl
      · rintro ⟨z, hz, _, hb⟩
        exact (h'.sep z _ (l1 z hz) hb).2 n hn rfl
    · have := h'.new y b (q1 y hy).1 (k3 y hy) hb
      refine ⟨notB _ this.1, this.2, ?_, ?_⟩
      · rintro (e | ⟨y', hy', hb'⟩)
        · exact (h'.sep y _ (k3 y hy) hb).2 1 hn1 e.symm
        · exact h'.disj y' y b (dj y' y hy' hy) (j3 y' hy') (k3 y hy) hb' hb
      · rintro ⟨z, hz, _, hb'⟩
        exact h'.disj z y b (fun e => (q1 y hy).2 (e ▸ hz)) (l1 z hz) (k3 y hy) hb' hb
  rcases he with rfl | rfl <;> exact this
end
section
variable {P : Program} {L : St}
variable {pz : List Nat} {c : Call} {ty : TypeId} {st : String} {e : Array Edge} {gd : Option (Nat × Bool)} {n z : Nat} {κ κ' : VK} {cs cs' : List CC} {f : FuncId} {x0 : Operand} {xs : List Operand} {ds : List DV} {r0 r1 r2 r3 : Row} {zs zs1 : List Nat} {yo : List (Option Nat)}
theorem hatch_kzn {k : Trc → Prop} {κN : VK} {csN : List CC} {r4 : Row} {d : Tmp} (hrun : ∀ (a : Act) (w : World) (g : Nat), a.eval x0 = κ.val g → (execOp a.eval ⟨some d, .call c, ty, st, e, gd⟩).run P w = .ok (.enter f (#[κ'.val g] ++ (xs.map a.eval).toArray)) w)
    (hf : Kzn P f κ' ds cs cs' κN csN) (hK : KzC L pz z n κ cs cs' x0 xs ds r0 r1 r2 r3 zs zs1 yo) (h1 : L (.nm z) = .nm false) (h2 : oFree L (50000 + z) 0 csN = some r4)
    (hk : k ⟨(.nm z, .nm false) :: (r4 ++ kzReads n z cs.length r0 r1 r2 r3), wr (some d) (κN.av z) ++ ((oWr z (50000 + z) ((zs ++ zs1) ++ [z]) 0 csN ++ [(.nm z, .nm true), (.sz z, .sz csN.length)]) ++ kzWrites n z zs zs1 yo cs')⟩) : stHatchZ P L pz z ⟨some d, .call c, ty, st, e, gd⟩ k := by
  refine ⟨_, hk, Rd.cons h1 (Rd.app (oFree_rd h2) hK.rds), fun C hd hpz hzb => ?_⟩
  subst hpz
  intro σ a w K ⟨G, hA⟩ hr hK'
  have f1 := hr.head
  have f2 := hr.tail.left
  have f3 := hr.tail.right
  obtain ⟨ev, A, B, hcall, hl, hB, hturn⟩ := kz_call hK hzb hA f3 hf
  refine ⟨fun c => by simp, .inr (.inr ⟨f, _, w, hrun a w _ ev, hcall.mono ?_⟩)⟩
  rintro ee w' ⟨gN, A', Zn, AN, rfl, hq, hO, hAN⟩
  obtain ⟨G', t1, t2, t3, t4, t5, _⟩ := hturn w' A' Zn hq
  refine ⟨_, rfl, hK' _ _ ?_⟩
  have ne : ∀ y ∈ (zs ++ zs1) ++ [z], Lv (ovr σ (kzWrites n z zs zs1 yo cs')) y := fun y hy => by
    rcases List.mem_append.1 hy with hy | hy
    · exact (t2 y hy).1
    · simp at hy; subst hy; exact t3
  have g0 : ovr σ (kzWrites n z zs zs1 yo cs') (.nm z) = .nm false := by
    rw [ovr_same]
    · exact f1
    · unfold kzWrites
      rw [fnd_app]
      cases hh : fnd (oWr n z (zs ++ zs1 ++ [z]) 0 cs') (.nm z) with
      | some q => rcases fnd_oWr cs' 0 hh with ⟨i, h1, _⟩ | ⟨i, _, h1⟩ | ⟨i, _, h1⟩ <;> cases h1
      | none =>
        simp only [Option.none_or, fnd]
        rw [if_neg (by simp), fnd_dead_ne _ (by simp)]
  have gz : ∀ j : Nat, σ (.zn ((j + 2) * 100000 + (50000 + z))) = .zn .free → ovr σ (kzWrites n z zs zs1 yo cs') (.zn ((j + 2) * 100000 + (50000 + z))) = .zn .free := fun j hj => by
    rw [ovr_same]
    · exact hj
    · unfold kzWrites
      rw [fnd_app]
      cases hh : fnd (oWr n z (zs ++ zs1 ++ [z]) 0 cs') (.zn ((j + 2) * 100000 + (50000 + z))) with
      | some q =>
        rcases fnd_oWr cs' 0 hh with ⟨i, h1, _⟩ | ⟨i, _, h1⟩ | ⟨i, _, h1⟩
        · cases h1
        · cases h1
        · simp only [Key.zn.injEq] at h1; omega
      | none =>
        simp only [Option.none_or, fnd]
        rw [if_neg (by simp only [Key.zn.injEq]; omega), fnd_dead, if_neg]
        intro hm
        have hy : some ((j + 2) * 100000 + (50000 + z)) ∈ yo := by simpa [List.mem_filterMap] using hm
        obtain ⟨_, _, k3, _⟩ := oRead_ok hA hK.rd f3.tail.tail.tail.right.right.left
        have := k3 _ hy
        unfold Lv at this; rw [hj] at this; cases this
  have gh : ∀ j : Nat, σ (.hd ((j + 2) * 100000 + (50000 + z))) = .hd .free → ovr σ (kzWrites n z zs zs1 yo cs') (.hd ((j + 2) * 100000 + (50000 + z))) = .hd .free := fun j hj => by
    rw [ovr_same]
    · exact hj
    · unfold kzWrites
      rw [fnd_app]
      cases hh : fnd (oWr n z (zs ++ zs1 ++ [z]) 0 cs') (.hd ((j + 2) * 100000 + (50000 + z))) with
      | some q =>
        rcases fnd_oWr cs' 0 hh with ⟨i, h1, _⟩ | ⟨i, _, h1⟩ | ⟨i, _, h1⟩
        · cases h1
        · simp only [Key.hd.injEq] at h1; omega
        · cases h1
      | none =>
        simp only [Option.none_or, fnd]
        rw [if_neg (by simp), fnd_dead_ne _ (by simp)]
  have hm : ∀ b, AN b → Mine C G' (ovr σ (kzWrites n z zs zs1 yo cs')) w' b := fun b hb => by
    obtain ⟨o1, o2, o3, o4⟩ := hAN b hb
    exact t5 b o1 o2.lt o3 o4
  obtain ⟨G2, u1, u2, u3⟩ := t1.newobj (n := z) (z := 50000 + z) (zs := (zs ++ zs1) ++ [z]) (cs := csN) (AN := AN) (g := gN) g0 ne (fun p hp => by have := hzb p hp; omega) (hO.evo (fun b hb _ => ⟨hb, rfl⟩) fun b hb _ => ⟨by
      rcases hb with hb | hb
      · obtain ⟨y, hy, hb⟩ := (hB b).1 hb
        exact ⟨y, List.mem_append_left _ hy, by rw [(t2 y hy).2]; exact hb⟩
      · exact ⟨z, by simp, (t4 b).2 hb⟩, rfl⟩) hm (fun i E sz rows hi => by
      obtain ⟨q1, q2⟩ := oFree_ok h2 f2 i E sz rows hi
      rw [Nat.zero_add] at q1 q2 ⊢
      exact ⟨gz i q1, gh i q2⟩)
  have hn : Nm (ovr (ovr σ (kzWrites n z zs zs1 yo cs')) (oWr z (50000 + z) ((zs ++ zs1) ++ [z]) 0 csN ++ [(.nm z, .nm true), (.sz z, .sz csN.length)])) z := by
    unfold Nm
    refine ovr_get ?_
    rw [fnd_app]
    cases hh : fnd (oWr z (50000 + z) ((zs ++ zs1) ++ [z]) 0 csN) (.nm z) with
    | some q => rcases fnd_oWr csN 0 hh with ⟨i, h1, _⟩ | ⟨i, _, h1⟩ | ⟨i, _, h1⟩ <;> cases h1
    | none => simp [fnd]
  have rp : Rep G2 (ovr (ovr σ (kzWrites n z zs zs1 yo cs')) (oWr z (50000 + z) ((zs ++ zs1) ++ [z]) 0 csN ++ [(.nm z, .nm true), (.sz z, .sz csN.length)])) w' (κN.val gN) (κN.av z) := by rw [← u3]; exact kav_rep hn
  have h3 := u1.put (dst := some d) (dok_ok hd) rp
  rw [ovr_ovr, ovr_ovr] at h3
  exact ⟨_, by simpa using h3⟩
end
def mkSP (E sz n : Nat) : SP where
  p := fun Z w v => ∃ b cur, v = .slice (some ⟨b, 0, none⟩) n n ∧ Z b ∧ w.heap[b]? = some (.cells cur E (0, 0)) ∧ cur.size = n * sz
  evo := fun Z Z' w w' v h hk => by
    obtain ⟨b, cur, e, hz, hb, hs⟩ := h
    obtain ⟨q1, q2⟩ := hk b hz (Array.getElem?_eq_some_iff.1 hb).1
    exact ⟨b, cur, e, q1, q2.trans hb, hs⟩
  one := fun Z w v h => by
    obtain ⟨b, cur, rfl, _⟩ := h
    rfl
def mkRows (vals : List Value) (n sz : Nat) : List (List D) := (List.range n).map fun i => (List.range sz).map fun j => .v (vals.getD (i * sz + j) undef)
theorem mkRows_len (vals : List Value) (n sz : Nat) : (mkRows vals n sz).length = n := by simp [mkRows]
theorem mkRows_at {vals : List Value} {n sz i j : Nat} {r : List D} {x : D} (h : (mkRows vals n sz)[i]? = some r) (hj : r[j]? = some x) : x = .v (vals.getD (i * sz + j) undef) := by
  unfold mkRows at h
  rw [List.getElem?_map] at h
  obtain ⟨q, h1, rfl⟩ := Option.map_eq_some_iff.1 h
  have := List.getElem?_eq_some_iff.1 h1
  obtain ⟨h2, h3⟩ := this
  simp at h2 h3
  subst h3
  rw [List.getElem?_map] at hj
  obtain ⟨q, h1, rfl⟩ := Option.map_eq_some_iff.1 hj
  obtain ⟨h4, h5⟩ := List.getElem?_eq_some_iff.1 h1
  simp at h4 h5
  subst h5
  rfl
theorem mkRows_row {vals : List Value} {n sz i : Nat} {r : List D} (h : (mkRows vals n sz)[i]? = some r) : r.length = sz := by
  unfold mkRows at h
  rw [List.getElem?_map] at h
  obtain ⟨q, h1, rfl⟩ := Option.map_eq_some_iff.1 h
  simp
section
variable {P : Program} {L : St} {C : Cx} {G : Gh} {σ : St} {a : Act} {w : World}
theorem hatch_mkslice {pz : List Nat} {z d x t ty : Nat} {st : String} {e : Array Edge} {gd : Option (Nat × Bool)} {k : Trc → Prop} {E sz n : Nat} {made : Array Value}
    (hrun : ∀ w : World, (Instr.makeSlice t (.int .i64 (n : Int)) (.int .i64 (n : Int))).run P w = .ok (.slice (some ⟨w.heap.size, 0, none⟩) n n) (w.alloc (.cells made E))) (hms : made.size = n * sz) (hm1 : ∀ u ∈ made.toList, u.oneCell' = true) (hn : n ≤ maxLen)
    (hx : L (.tmp x) = .av (.c [] (.v (.int .i64 (n : Int))))) (fz : L (.zn z) = .zn .free) (fh : L (.hd z) = .hd .free)
    (hk : k ⟨[(.zn z, .zn .free), (.hd z, .hd .free), (.tmp x, .av (.c [] (.v (.int .i64 (n : Int)))))], wr (some d) (.c [z] (.st (mkSP E sz n))) ++ [(.hd z, .hd (.own E sz z [] (mkRows made.toList n sz))), (.zn z, .zn .live)]⟩) :
    stHatchZ P L pz z ⟨some d, .makeSlice t (.tmp x) (.tmp x), ty, st, e, gd⟩ k := by
  refine ⟨_, hk, Rd.cons fz (Rd.cons fh (Rd.cons hx Rd.nil)), fun C hd hpz hzb => ?_⟩
  subst hpz
  intro σ a w K ⟨G, hA⟩ hr hK'
  have f1 := hr.head
  have f2 := hr.tail.head
  obtain ⟨v0, t0, r0⟩ := hA.tmp _ _ hr.tail.tail.head
  have e0 : v0 = .int .i64 (n : Int) := (r0.rep (by simp)).raw
  have ev : a.eval (.tmp x) = .int .i64 (n : Int) := by simp only [Act.eval, Array.getD_eq_getD_getElem?, t0]; exact e0
  obtain ⟨w', hw'⟩ : ∃ w', w' = w.alloc (.cells made E) := ⟨_, rfl⟩
  have hb : w'.heap[w.heap.size]? = some (.cells made E (0, 0)) := by rw [hw']; exact World.alloc_heap_new w _
  obtain ⟨h1, e1⟩ := hA.below (w' := w') (by rw [hw']; exact below_alloc w _)
  have own : w'.ownsRow 0 E sz (.slice (some ⟨w.heap.size, 0, none⟩) n n) (mkRows made.toList n sz).length made.toList := by
    rw [mkRows_len]
    exact ⟨by simpa using hms, .inr ⟨_, n, made, rfl, Nat.zero_le _, hb, Nat.le_refl _, hn, hms, by rw [List.take_of_length_le (by simp [hms])]⟩⟩
  obtain ⟨G', k1, k2, k3, k4, k5, k6, k7⟩ := h1.addrow (z := z) (E := E) (sz := sz) (zs := []) (rows := mkRows made.toList n sz) (v := .slice (some ⟨w.heap.size, 0, none⟩) n n) f1 f2 (fun h => Nat.lt_irrefl _ (hzb _ h)) (fun y hy => by cases hy) (fun g hg => by
      simp only [Value.ownBlock, Option.some.injEq] at hg
      subst hg
      exact hA.fresh (Nat.le_refl _) (Array.getElem?_eq_some_iff.1 hb).1) ⟨made.toList, own, hm1, fun i r h => mkRows_row h, fun _ i r j x hi hj => by rw [mkRows_at hi hj]; exact .v _⟩
  refine ⟨fun c => by simp, .inl ⟨.slice (some ⟨w.heap.size, 0, none⟩) n n, w', by simp [execOp, ev, hrun, hw'], ?_⟩⟩
  have h3 := k1.put (dst := some d) (v := .slice (some ⟨w.heap.size, 0, none⟩) n n) (x := .c [z] (.st (mkSP E sz n))) (dok_ok hd) ⟨fun y hy => by simp at hy; subst hy; unfold Uz; simp [ovr, fnd], fun _ => .st _ _ ⟨w.heap.size, made, rfl, ⟨z, by simp, (k7 _).2 rfl⟩, hb, hms⟩⟩
  rw [ovr_ovr] at h3
  exact hK' _ _ ⟨_, h3⟩
theorem ASG.over2 (hA : ASG C G σ a w) {n E sz yz z : Nat} {zs1 zs' : List Nat} {rows rows' : List (List D)} {w' : World} (hh : σ (.hd n) = .hd (.own E sz yz zs1 rows)) (hyl : Lv σ yz) (hp : yz ∉ C.pz) (z0 : z ∉ C.pz) (hz : σ (.zn z) = .zn .free) (hlv : ∀ z' ∈ zs', Lv σ z')
    (hk : Keeps (fun b => (G.τ n).ownBlock ≠ some b) w w') (hrow' : RowAt (G.zu zs') w' (G.τ n) E sz rows' True) : ∃ G2, ASG C G2 (ovr σ [(.hd n, .hd (.own E sz z zs' rows')), (.zn z, .zn .live), (.zn yz, .zn .dead)]) a w' ∧ G2.τ = G.τ ∧ G2.ρ = G.ρ := by
  have hzy : z ≠ yz := fun e => by subst e; unfold Lv at hyl; rw [hz] at hyl; cases hyl
  obtain ⟨k1, k2⟩ := (hA.hd n _ _ _ _ _ hh).own hyl
  have hL : Lesser σ (ovr σ [(.zn yz, .zn .dead)]) := lesser_dead (σ := σ) [yz]
  have g0 : ASG C G (ovr σ [(.zn yz, .zn .dead)]) a w := hA.less hL
  have gne : ∀ z', Lv (ovr σ [(.zn yz, .zn .dead)]) z' → z' ≠ yz ∧ Lv σ z' := fun z' h' => by
    refine ⟨?_, hL.lv h'⟩
    rintro rfl
    unfold Lv at h'; rw [ovr_one] at h'; cases h'
  have mine : ∀ g, (G.τ n).ownBlock = some g → Mine C G (ovr σ [(.zn yz, .zn .dead)]) w g := fun g hg => by
    have hg := (k1 g).2 hg
    refine ⟨(hA.sep yz g hyl hg).1, (hA.new yz g hp hyl hg).1, fun m hm => ?_, fun z hz hg' => ?_, fun c i e hi e' => ?_, fun p hpp e => (hA.ob p hpp).nz yz hyl (e ▸ hg)⟩
    · have hm' : Nm σ m := by unfold Nm at hm ⊢; rw [← hL.nm]; exact hm
      exact (hA.sep yz g hyl hg).2 m hm'
    · obtain ⟨a1, a2⟩ := gne z hz
      exact hA.disj z yz g a1 a2 hyl hg' hg
    · obtain ⟨k', d1, d2⟩ := hA.df
      rw [hL.df, d1] at e; cases e
      exact (d2.ok i hi).nz yz hyl (e' ▸ hg)
  obtain ⟨g1, e1⟩ := g0.step hk (fun k hb h => (mine k h).nb hb) (fun m hm h => (mine _ h).nn m hm rfl) (fun y' g hy' hg h => (mine g h).nz y' hy' hg) (fun k i e hi h => (mine _ h).nd k i e hi rfl) (fun p hp h => (mine _ h).no p hp rfl)
  have soft : ∀ g, (G.τ n).ownBlock = some g → Soft w' g := fun g hg => by
    obtain ⟨vals, q3, _⟩ := hrow'
    rcases q3.2 with ⟨h, _⟩ | ⟨g', cap, cur, h, _, e, _⟩
    · rw [h] at hg; cases hg
    · rw [h] at hg; simp only [Value.ownBlock, Option.some.injEq] at hg; subst hg; exact .mk e
  have zf : (ovr σ [(.zn yz, .zn .dead)]) (.zn z) = .zn .free := by rw [ovr_one_ne _ _ _ (by simpa using hzy)]; exact hz
  obtain ⟨g2, e2⟩ := g1.addzone z0 zf (fun g => (G.τ n).ownBlock = some g) fun g hg => ⟨⟨(soft g hg).lt, (mine g hg).nb, (mine g hg).nn, (mine g hg).nz, (mine g hg).nd, (mine g hg).no⟩, soft g hg⟩
  have hnz : ∀ z' ∈ zs', z' ≠ z := fun z' hz' e => by
    have := hlv z' hz'; rw [e] at this; unfold Lv at this; rw [hz] at this; cases this
  have g3 := g2.rehd (n := n) (E := E) (sz := sz) (y := z) (zs := zs') (rows := rows') ⟨E, sz, yz, zs1, rows, by rw [ovr_one_ne _ _ _ (by simp), ovr_one_ne _ _ _ (by simp)]; exact hh⟩ ?_
  · rw [ovr_ovr, ovr_ovr] at g3
    have g4 : ASG C { G with ζ := fun y => if y = z then fun g => (G.τ n).ownBlock = some g else G.ζ y } (ovr σ [(.hd n, .hd (.own E sz z zs' rows')), (.zn z, .zn .live), (.zn yz, .zn .dead)]) a w' := by simpa using g3
    exact ⟨_, g4, rfl, rfl⟩
  · refine ⟨by unfold Uz; rw [ovr_one]; simp, fun z' hz' => e2.uz z' (e1.uz z' ((hL.evo (G := G) (w := w)).uz z' (hlv z' hz').used)), fun _ => ⟨fun g => by simp, ?_⟩⟩
    obtain ⟨vals, p1, p2, p3, p4⟩ := hrow'
    refine ⟨vals, p1, p2, p3, fun hl' i r j x hi hj => ?_⟩
    exact (p4 trivial i r j x hi hj).mono fun g ⟨z', hz', hg⟩ => ⟨z', hz', by simpa [hnz z' hz'] using hg⟩
theorem run_copy_sz (w : World) (dT sT ty elem : TypeId) (g dLen dCap : Nat) (a : Addr) (sCap sz : Nat) (cur : Array Value) (t : TypeId) (cs : List Value)
    (hu : P.underlying dT = some (.slice elem)) (hs : (P.info? elem).map (·.size) = some sz)
    (hg : w.heap[g]? = some (.cells cur t (0, 0))) (hn : cs.length = dLen * sz)
    (hsrc : ∀ j v, cs[j]? = some v → w.cell? (a.add j) = some v) (hfit : cur.size = cs.length) (h1 : ∀ v ∈ cs, v.oneCell' = true) :
    (Builtin.copy_ #[dT, sT] ty #[.slice (some ⟨g, 0, none⟩) dLen dCap, .slice (some a) dLen sCap]).run P w = .ok (goInt dLen) (w.setRow g cs.toArray) := by
  have hl := run_loadCells_list (P := P) w a cs hsrc
  have hst := run_storeCells_at P g 0 t cs 0 cur w hg (by omega) h1
  have e : (cur.toList.take (0 + 0) ++ cs ++ cur.toList.drop (0 + 0 + cs.length)).toArray = cs.toArray := by
    simp [hfit]
  rw [e] at hst
  cases hq : P.info? elem with
  | none => simp [hq] at hs
  | some i =>
    have hi : i.size = sz := by simpa [hq] using hs
    rw [hn] at hl
    simp [Builtin.copy_, run_underlying hu, Builtin.lenOf, Builtin.firstCells, sizeOf, typeInfo, hq, hi, hl, hst]
theorem hatch_copy {pz : List Nat} {z d td ts m j z0 h E sz n y ty dT sT elem : Nat} {zs : List Nat} {R R0 : List (List D)} {r : Row} {st : String} {e : Array Edge} {gd : Option (Nat × Bool)} {k : Trc → Prop}
    (hu : P.underlying dT = some (.slice elem)) (hs : (P.info? elem).map (·.size) = some sz) (hsz : 0 < sz)
    (h1 : L (.tmp td) = .av (.c [z0] (.st (mkSP E sz n)))) (h2 : L (.cell m j) = .av (.c [z0] (.st (mkSP E sz n)))) (h3 : L (.nm m) = .nm true) (h4 : L (.hd z0) = .hd (.own E sz z0 [] R0)) (h5 : L (.zn z0) = .zn .live)
    (h6 : L (.tmp ts) = .av (.own h)) (h7 : L (.hd h) = .hd (.own E sz y zs R)) (h8 : zr L (y :: zs) = some r) (hn : R.length = n) (hR0 : R0.length = n) (hne : (y :: zs).contains z0 = false) (hpz0 : pz.contains z0 = false) (fz : L (.zn z) = .zn .free)
    (hk : k ⟨(.zn z, .zn .free) :: (.tmp td, .av (.c [z0] (.st (mkSP E sz n)))) :: (.cell m j, .av (.c [z0] (.st (mkSP E sz n)))) :: (.nm m, .nm true) :: (.hd z0, .hd (.own E sz z0 [] R0)) :: (.zn z0, .zn .live) :: (.tmp ts, .av (.own h)) :: (.hd h, .hd (.own E sz y zs R)) :: r,
      wr (some d) (.c [] (.v (.int .i64 (n : Int)))) ++ ((.cell m j, .av (.own z0)) :: [(.hd z0, .hd (.own E sz z zs R)), (.zn z, .zn .live), (.zn z0, .zn .dead)])⟩) :
    stHatchZ P L pz z ⟨some d, .call ⟨.builtin .copy, #[.tmp td, .tmp ts], #[dT, sT]⟩, ty, st, e, gd⟩ k := by
  refine ⟨_, hk, Rd.cons fz (Rd.cons h1 (Rd.cons h2 (Rd.cons h3 (Rd.cons h4 (Rd.cons h5 (Rd.cons h6 (Rd.cons h7 (zr_rd h8)))))))), fun C hd hpz hzb => ?_⟩
  subst hpz
  intro σ a w K ⟨G, hA⟩ hr hK'
  have f0 := hr.head
  have f1 := hr.tail.head
  have f2 := hr.tail.tail.head
  have f3 : Nm σ m := hr.tail.tail.tail.head
  have f4 := hr.tail.tail.tail.tail.head
  have f5 : Lv σ z0 := hr.tail.tail.tail.tail.tail.head
  have f6 := hr.tail.tail.tail.tail.tail.tail.head
  have f7 := hr.tail.tail.tail.tail.tail.tail.tail.head
  have lz := zr_ok h8 hr.tail.tail.tail.tail.tail.tail.tail.tail
  have ly := lz y List.mem_cons_self
  have lzs : ∀ z' ∈ zs, Lv σ z' := fun z' hz' => lz z' (List.mem_cons_of_mem _ hz')
  have p0 : z0 ∉ C.pz := fun q => by rw [Bool.eq_false_iff] at hpz0; exact hpz0 (by simpa using q)
  have ne0 : ∀ z' ∈ y :: zs, z' ≠ z0 := fun z' hz' q => by subst q; rw [Bool.eq_false_iff] at hne; exact hne (by simpa using hz')
  -- the made row
  obtain ⟨k1, vals0, k2, k3, k4, k5⟩ := (hA.hd z0 _ _ _ _ _ f4).own f5
  have pin : ∀ v, RepD (G.zu [z0]) w v (.st (mkSP E sz n)) → v = G.τ z0 ∧ ∃ b cur, v = .slice (some ⟨b, 0, none⟩) n n ∧ w.heap[b]? = some (.cells cur E (0, 0)) ∧ cur.size = n * sz := fun v hv => by
    cases hv with
    | st _ _ q =>
      obtain ⟨b, cur, e1, ⟨z', hz', hb'⟩, hb, hc⟩ := q
      simp at hz'
      subst hz'
      refine ⟨?_, b, cur, e1, hb, hc⟩
      have ob := (k1 b).1 hb'
      rcases k2.2 with ⟨q, _⟩ | ⟨g, cap, cur', q, _, q1, _, _, q2, _⟩
      · rw [q] at ob; cases ob
      · rw [q] at ob
        simp only [Value.ownBlock, Option.some.injEq] at ob
        subst ob
        rw [hb] at q1
        simp only [Option.some.injEq, Obj.cells.injEq] at q1
        obtain ⟨rfl, -⟩ := q1
        rw [hc] at q2
        have : n = cap := Nat.eq_of_mul_eq_mul_right hsz q2
        rw [e1, q, hR0, this]
  obtain ⟨v1, t1, r1⟩ := hA.tmp _ _ f1
  obtain ⟨c1, v2, c2, c3, c4⟩ := hA.cell m j _ f2
  obtain ⟨e1, b, cur, e1', hb, hc⟩ := pin v1 (r1.rep (fun z' hz' => by simp at hz'; subst hz'; exact f5))
  obtain ⟨e2, _⟩ := pin v2 (c4.rep (fun z' hz' => by simp at hz'; subst hz'; exact f5))
  have eb : (G.τ z0).ownBlock = some b := by rw [← e1, e1']; rfl
  -- the row that is copied
  obtain ⟨v3, t3, r3⟩ := hA.tmp _ _ f6
  have e3 : v3 = G.τ h := r3.rep ⟨_, _, _, _, _, f7⟩
  obtain ⟨j1, vals, j2, j3, j4, j5⟩ := (hA.hd h _ _ _ _ _ f7).own ly
  have ev1 : a.eval (.tmp td) = .slice (some ⟨b, 0, none⟩) n n := by simp only [Act.eval, Array.getD_eq_getD_getElem?, t1]; exact e1'
  have ev2 : a.eval (.tmp ts) = G.τ h := by simp only [Act.eval, Array.getD_eq_getD_getElem?, t3]; exact e3
  have hvl : vals.length = n * sz := by rw [j2.1, hn]
  have hrun : (Builtin.copy_ #[dT, sT] ty #[.slice (some ⟨b, 0, none⟩) n n, G.τ h]).run P w = .ok (goInt n) (w.setRow b vals.toArray) := by
    rcases j2.2 with ⟨q, q0⟩ | ⟨g, cap, cur', q, _, q1, _, _, q2, q3⟩
    · have n0 : n = 0 := by rw [← hn, q0]
      subst n0
      have v0 : vals = [] := List.length_eq_zero_iff.1 (by rw [hvl]; omega)
      have c0 : cur = #[] := by apply Array.eq_empty_of_size_eq_zero; rw [hc]; omega
      rw [q, run_copy_nil P w dT sT ty elem ⟨b, 0, none⟩ 0 0 hu (by cases hq : P.info? elem <;> simp [hq] at hs ⊢)]
      rw [v0, show (([] : List Value).toArray) = cur by rw [c0], setRow_self w b cur _ _ hb]
      rfl
    · rw [q, hn]
      refine run_copy_sz w dT sT ty elem b n n ⟨g, 0, none⟩ cap sz cur E vals hu hs hb hvl (fun i v hi => ?_) (by rw [hc, hvl]) j3
      have : cur'[i]? = some v := by
        rw [← Array.getElem?_toList]
        have h9 : (cur'.toList.take (R.length * sz))[i]? = some v := by rw [q3]; exact hi
        rw [List.getElem?_take] at h9
        split at h9
        · exact h9
        · cases h9
      have := cell_of q1 this
      rw [show (⟨g, 0, none⟩ : Addr).add i = ⟨g, i, none⟩ by by_cases h : i = 0 <;> simp [Addr.add, h]]
      exact this
  have gI : goInt (n : Int) = .int .i64 (n : Int) := rfl
  refine ⟨fun c => by simp, .inl ⟨goInt n, w.setRow b vals.toArray, by simp [execOp, resolve, invoke, builtin, ev1, ev2, hrun], ?_⟩⟩
  have hb2 : (w.setRow b vals.toArray).heap[b]? = some (.cells vals.toArray E (0, 0)) := setRow_heap w b cur _ _ _ hb
  obtain ⟨G2, g1, g2, g3⟩ := hA.over2 (n := z0) (z := z) (zs' := zs) (rows' := R) (w' := w.setRow b vals.toArray) f4 f5 p0 (fun q => Nat.lt_irrefl _ (hzb _ q)) f0 lzs ⟨rfl, rfl, rfl, by simp, fun i _ hi => setRow_other w b i _ (fun q => hi (by rw [eb, q]))⟩
    ⟨vals, ⟨by rw [hn]; exact hvl, .inr ⟨b, n, vals.toArray, by rw [← e1, e1', hn], Nat.zero_le _, hb2, by omega, by
      rcases k2.2 with ⟨q, q0⟩ | ⟨g, cap, cur', q, _, q1, ql, qm, _⟩ <;> omega, by simp [hvl], by rw [List.take_of_length_le (by rw [hn]; simp [hvl])]⟩⟩, j3, j4, fun _ i r jj x hi hj => (j5 lzs i r jj x hi hj).evo fun q ⟨z', hz', hq⟩ hl => ⟨⟨z', hz', hq⟩, setRow_other w b q _ (fun qe => by
        subst qe
        exact hA.disj z' z0 q (ne0 z' (List.mem_cons_of_mem _ hz')) (lzs z' hz') f5 hq ((k1 q).2 eb))⟩⟩
  have nm2 : Nm (ovr σ [(.hd z0, .hd (.own E sz z zs R)), (.zn z, .zn .live), (.zn z0, .zn .dead)]) m := by unfold Nm; rw [ovr_same (by simp [fnd])]; exact f3
  have hcell : (w.setRow b vals.toArray).cell? ⟨G2.ρ m, j, none⟩ = some (G.τ z0) := by
    rw [g3, ← e2, ← c2]
    unfold World.cell?
    simp only
    rw [setRow_other w b (G.ρ m) _ (fun q => (hA.sep z0 b f5 ((k1 b).2 eb)).2 m f3 q)]
  have g4 := (g1.know (n := m) (k := j) (y := .own z0) (v := G.τ z0) nm2 hcell ⟨by show Uh _ _; unfold Uh; simp [ovr, fnd], fun _ => by rw [g2]⟩).1
  have g5 := g4.put (dst := some d) (v := goInt n) (x := .c [] (.v (.int .i64 (n : Int)))) (dok_ok hd) ⟨fun y hy => by simp at hy, fun _ => by rw [gI]; exact .v _⟩
  rw [ovr_ovr, ovr_ovr] at g5
  exact hK' _ _ ⟨_, by simpa using g5⟩
end
def isVar : Key → Bool
  | .tmp _ => true
  | .cell _ _ => true
  | _ => false
def keptK (z : Nat) (l : List (Key × D)) : Row := l.map fun x => (x.1, .av (.c [z] x.2))
theorem fnd_keptK_ne (z : Nat) {k : Key} (h : isVar k = false) : ∀ l : List (Key × D), (∀ x ∈ l, isVar x.1 = true) → fnd (keptK z l) k = none
  | [], _ => rfl
  | x :: l, hl => by
    simp only [keptK, List.map_cons, fnd]
    rw [if_neg (fun e => by have := hl x List.mem_cons_self; rw [e, h] at this; cases this)]
    exact fnd_keptK_ne z h l fun y hy => hl y (List.mem_cons_of_mem _ hy)
theorem fnd_keptK (z : Nat) (k : Key) : ∀ (l : List (Key × D)) {y : KV}, fnd (keptK z l) k = some y → ∃ d, (k, d) ∈ l ∧ y = .av (.c [z] d)
  | [], y, h => by cases h
  | x :: l, y, h => by
    simp only [keptK, List.map_cons, fnd] at h
    by_cases e : x.1 = k
    · rw [if_pos e] at h
      subst e
      exact ⟨x.2, List.mem_cons_self, by cases h; rfl⟩
    · rw [if_neg e] at h
      obtain ⟨d, h1, h2⟩ := fnd_keptK z k l h
      exact ⟨d, List.mem_cons_of_mem _ h1, h2⟩
theorem keptK_rd {L : St} {z : Nat} : ∀ {l : List (Key × D)}, (∀ x ∈ l, L x.1 = .av (.c [z] x.2)) → Rd L (keptK z l)
  | [], _ => Rd.nil
  | x :: l, h => Rd.cons (h x List.mem_cons_self) (keptK_rd fun y hy => h y (List.mem_cons_of_mem _ hy))
theorem keptK_mem {z : Nat} {σ : St} {l : List (Key × D)} (h : Rd σ (keptK z l)) : ∀ x ∈ l, σ x.1 = .av (.c [z] x.2) := by
  induction l with
  | nil => intro x hx; cases hx
  | cons y l ih =>
    intro x hx
    have h' : Rd σ ((y.1, .av (.c [z] y.2)) :: keptK z l) := h
    rcases List.mem_cons.1 hx with rfl | hx
    · exact h'.head
    · exact ih h'.tail x hx
section
variable {P : Program} {L : St}
theorem hatch_stK {T : Tab P} {pz : List Nat} {t ty : TypeId} {ti : TI} {s : String} {e : Array Edge} {g : Option (Nat × Bool)} {x v : Operand} {r r' : Row} {z zn : Nat} {ds : List D} {k : Trc → Prop} (l : List (Key × D)) (ht : T.f t = some ti) (h1 : ti.size = 1)
    (hx : opd L x = some (r, .seg [z] (.st isU :: ds))) (hv : opd L v = some (r', .c [] (.st isU))) (hl : L (.zn z) = .zn .live) (hf : L (.zn zn) = .zn .free) (hp : pz.contains z = false) (hiv : ∀ y ∈ l, isVar y.1 = true) (hk0 : ∀ y ∈ l, L y.1 = .av (.c [z] y.2)) (hu : ∀ y ∈ l, Nums y.2)
    (hk : k ⟨(.zn z, .zn .live) :: (.zn zn, .zn .free) :: (r ++ (r' ++ keptK z l)), keptK zn l ++ [(.zn zn, .zn .live), (.zn z, .zn .dead)]⟩) : stHatchZ P L pz zn ⟨none, .store t x v, ty, s, e, g⟩ k := by
  refine ⟨_, hk, Rd.cons hl (Rd.cons hf (Rd.app (opd_rd hx) (Rd.app (opd_rd hv) (keptK_rd hk0)))), fun C hd hpz hzb => ?_⟩
  subst hpz
  intro σ a w K ⟨G, hA⟩ hr hK
  have z0 : z ∉ C.pz := fun h => by simp [h] at hp
  have zn0 : zn ∉ C.pz := fun h => Nat.lt_irrefl _ (hzb _ h)
  have lz : Lv σ z := hr.head
  have fz : σ (.zn zn) = .zn .free := hr.tail.head
  have hrr := hr.tail.tail
  have ne : z ≠ zn := fun e => by subst e; unfold Lv at lz; rw [fz] at lz; cases lz
  obtain ⟨g0, o0, ex, kx⟩ := (opd_ok hx hA hrr.left).rep (fun y hy => by simp at hy; subst hy; exact lz)
  obtain ⟨⟨y, hy, hg0⟩, u, hc, hru⟩ := kx 0 _ rfl
  simp at hy; subst hy
  have ev := (opd_ok hv hA hrr.right.left).rep (fun y hy => absurd hy (by simp))
  have hkp := keptK_mem hrr.right.right
  have hu1 : ∃ n : Int, u = .int .u64 n := by cases hru with | st _ _ h => exact h
  obtain ⟨n, rfl⟩ := hu1
  have hu2 : ∃ n' : Int, a.eval v = .int .u64 n' := by
    generalize a.eval v = q at ev
    cases ev with | st _ _ h => exact h
  obtain ⟨n', ev⟩ := hu2
  have hsf := (hA.new y g0 z0 lz hg0).2
  have hc' : w.cell? ⟨g0, o0, none⟩ = some (.int .u64 n) := hc
  have hfz : w.frozen? ⟨g0, o0, none⟩ = false := by
    obtain ⟨cur, tt, hh⟩ := hsf.cells hc
    simp [World.frozen?, hh]
  have er : (execOp a.eval ⟨none, .store t x v, ty, s, e, g⟩).run P w = .ok .skip (w.setCell ⟨g0, o0, none⟩ (.int .u64 n')) := by
    have hsz := (T.ok t ti ht).run_size w
    simp only [execOp]
    rw [ex, ev]
    have hst : (store ((⟨g0, o0, none⟩ : Addr).add 0) (.int .u64 n')).run P w = .ok () (w.setCell ⟨g0, o0, none⟩ (.int .u64 n')) := by
      rw [add_none, Nat.add_zero, run_store P w _ _ _ rfl, hc']
      simp [hfz]
    simp [Instr.storeAt, Instr.sureAddr, storeVar, hsz, h1, storeCells, Value.cells, hst]
  refine ⟨fun c => by simp, .inr (.inl ⟨_, er, ?_⟩)⟩
  obtain ⟨w', hw⟩ : ∃ w', w' = w.setCell ⟨g0, o0, none⟩ (.int .u64 n') := ⟨_, rfl⟩
  have blk : ∀ i, i ≠ g0 → w'.heap[i]? = w.heap[i]? := fun i hi => by rw [hw]; exact Below.heap_setCell _ _ _ _ hi
  have hsz' : w'.heap.size = w.heap.size := by rw [hw]; simp [World.setCell]
  have hA1 : ASG C G (ovr σ (deadZ [y])) a w' := by
    refine hA.kill (fun q hq => by simp at hq; subst hq; exact lz) (fun q hq => by simp at hq; subst hq; exact z0) ?_
    rw [hw]
    exact ⟨rfl, rfl, rfl, by simp [World.setCell], fun i hi hb => Below.heap_setCell _ _ _ _ (fun e => hb (e ▸ ⟨y, by simp, hg0⟩))⟩
  have dz : ∀ q, Lv (ovr σ (deadZ [y])) q → q ≠ y ∧ Lv σ q := fun q hq => by
    have := (lesser_dead (σ := σ) [y]).lv hq
    refine ⟨?_, this⟩
    rintro rfl
    unfold Lv at hq
    simp [ovr, fnd_dead] at hq
  obtain ⟨hA2, _⟩ := hA1.addzone (z := zn) zn0 (by simp only [ovr, fnd_dead]; rw [if_neg (by simp; exact fun e => ne e.symm)]; exact fz) (G.ζ y) (fun q hq => by
    refine ⟨⟨by rw [hsz']; exact (hA.sep y q lz hq).1, (hA.new y q z0 lz hq).1, fun m hm => (hA.sep y q lz hq).2 m ?_, fun b hb hg' => ?_, fun c i e hi e' => ?_, fun p hpp e => (hA.ob p hpp).nz y lz (e ▸ hq)⟩, ?_⟩
    · unfold Nm at hm ⊢; rw [← (lesser_dead (σ := σ) [y]).nm]; exact hm
    · obtain ⟨a1, a2⟩ := dz b hb
      exact hA.disj b y q a1 a2 lz hg' hq
    · obtain ⟨k', d1, d2⟩ := hA.df
      rw [(lesser_dead (σ := σ) [y]).df, d1] at e; cases e
      exact (d2.ok i hi).nz y lz (e' ▸ hq)
    · by_cases e : q = g0
      · subst e
        obtain ⟨cur, tt, hs⟩ := hsf.cells hc'
        rw [hw]
        exact .mk (set_heap_same hs)
      · exact (hA.new y q z0 lz hq).2.of_eq (blk q e))
  have told : ∀ {vv : Value} {d : D}, Rep G σ w vv (.c [y] d) → Nums d → RepD (fun g => G.ζ y g) w' vv d := fun {vv d} t2 hn => by
    have := Nums.set (n' := n') (t2.rep (fun b hb => by simp at hb; subst hb; exact lz)) hn hc'
    rw [← hw] at this
    refine this.mono fun b ⟨c, hcm, hb⟩ => ?_
    simp at hcm; subst hcm
    exact hb
  have hfin : AS C (ovr σ (keptK zn l ++ [(.zn zn, .zn .live), (.zn y, .zn .dead)])) a w' := by
    have um : Uz (ovr (ovr σ (deadZ [y])) [(.zn zn, .zn .live)]) zn := by unfold Uz; rw [ovr_one]; simp
    refine ⟨_, hA2.retell (fun key hk1 hk2 => ?_) (fun q x hx => ?_) (fun m j x hx => ?_)⟩
    · have hkey : isVar key = false := by
        cases key with
        | tmp t => exact absurd rfl (hk1 t)
        | cell n k => exact absurd rfl (hk2 n k)
        | _ => rfl
      simp only [ovr, fnd_app, fnd_keptK_ne _ hkey l hiv, deadZ, List.map_cons, List.map_nil, fnd, Option.none_or]
      by_cases e1 : Key.zn zn = key
      · simp [e1]
      · rw [if_neg e1, if_neg e1]
        by_cases e2 : Key.zn y = key
        · simp [e2]
        · simp [e2]
    · simp only [ovr, fnd_app] at hx
      cases hq : fnd (keptK zn l) (.tmp q) with
      | some yy =>
        rw [hq] at hx
        obtain ⟨d, hd1, rfl⟩ := fnd_keptK zn _ l hq
        simp only [Option.some_or, Option.getD_some, KV.av.injEq] at hx
        subst hx
        obtain ⟨vv, t1, t2⟩ := hA.tmp q _ (hkp _ hd1)
        refine ⟨vv, t1, ⟨fun b hb => ?_, fun _ => ?_⟩⟩
        · simp at hb; subst hb
          exact um
        · refine (told t2 (hu _ hd1)).mono fun b hb => ⟨zn, by simp, ?_⟩
          simpa using hb
      | none =>
        rw [hq] at hx
        refine hA2.tmp q x ?_
        simpa [ovr, deadZ, fnd] using hx
    · simp only [ovr, fnd_app] at hx
      cases hq : fnd (keptK zn l) (.cell m j) with
      | some yy =>
        rw [hq] at hx
        obtain ⟨d, hd1, rfl⟩ := fnd_keptK zn _ l hq
        simp only [Option.some_or, Option.getD_some, KV.av.injEq] at hx
        subst hx
        have hs : σ (.cell m j) = .av (.c [y] d) := hkp _ hd1
        obtain ⟨n1, vv, t1, f1, t2⟩ := hA.cell m j _ hs
        have hne := (hA.sep y g0 lz hg0).2 m n1
        obtain ⟨n2, vv', t1', f1', -⟩ := hA2.cell m j (.c [y] d) (by simpa [ovr, deadZ, fnd] using hs)
        have e0 : w'.cell? ⟨G.ρ m, j, none⟩ = w.cell? ⟨G.ρ m, j, none⟩ := World.cell?_of_block (a := ⟨G.ρ m, j, none⟩) (blk _ hne)
        refine ⟨n2, vv, e0.trans t1, f1', ⟨fun b hb => ?_, fun _ => ?_⟩⟩
        · simp at hb; subst hb
          exact um
        · refine (told t2 (hu _ hd1)).mono fun b hb => ⟨zn, by simp, ?_⟩
          simpa using hb
      | none =>
        rw [hq] at hx
        refine hA2.cell m j x ?_
        simpa [ovr, deadZ, fnd] using hx
  rw [← hw]
  exact hK _ _ hfin
end
section
variable {P : Program} {c : Code}
def ck (W0 : World) (N : Nat) (Z : Zone) : Cx := ⟨W0, fun k => k < W0.heap.size ∧ ¬ Z k, N, fun _ _ => undef, fun _ _ => False, [], [], fun _ h => h.1⟩
end
def uT (ns : List (Nat × Nat)) : List (List D) := ns.map fun x => [.s 2 (uR x.1), .s 2 (uR x.2)]
theorem nums_uT (ns : List (Nat × Nat)) : Nums (.s 2 (uT ns)) := .s _ _ fun i r j x hi hj => by
  unfold uT at hi
  rw [List.getElem?_map, Option.map_eq_some_iff] at hi
  obtain ⟨y, -, rfl⟩ := hi
  rcases j with _ | _ | j
  · cases hj; exact ud_uR _
  · cases hj; exact ud_uR _
  · simp at hj
def lensT (l : List Tr) : List (Nat × Nat) := l.map fun t => (t.1.length, t.2.length)
theorem ud_TsD {Z : Zone} {w : World} {v : Value} (l : List Tr) (h : RepD Z w v (TsD l)) : RepD Z w v (.s 2 (uT (lensT l))) := by
  refine RepD.conv h (by simp [uT, lensT]) fun i r' hi => ?_
  unfold uT lensT at hi
  rw [List.map_map, List.getElem?_map, Option.map_eq_some_iff] at hi
  obtain ⟨t, ht, rfl⟩ := hi
  refine ⟨[RD t.1, RD t.2], by rw [List.getElem?_map, ht]; rfl, rfl, fun j x' hj => ?_⟩
  rcases j with _ | _ | j
  · cases hj; exact ⟨_, rfl, fun u hu => ud_RD t.1 hu⟩
  · cases hj; exact ⟨_, rfl, fun u hu => ud_RD t.2 hu⟩
  · simp at hj
end Go.Proofs.Ytlkdkhmdmgchbaa
namespace Go.Proofs.Ytlkdkhmdmgchbaa
set_option linter.unusedSimpArgs false
set_option linter.unusedVariables false
open Go.ChangeShapes Go.WideShapes Go.ChangeAt Go.RowKit Go.Joins Go.Deep
set_option maxRecDepth 100000
section
variable {H : Type} {enc : TypeId × Value → H} {W : World} {base n : Nat} {held : Bool} {y : DataW H × List MemPlace}
end
theorem Ct.lawN {P : Program} {f : FuncId} {args : List DV} {vs : Array Value} {w : World} (h : Ct P f args none (.one (dB true))) (hr : Reps (fun _ => True) w vs args) : Calls P f vs w fun e w' => e = .returned (.bool true) ∧ Below w.heap.size w w' := by
  refine (h (fun _ => True) w vs hr).mono ?_
  rintro e w' ⟨v, Zn, rfl, B, -, r⟩
  have r : RepD Zn w' v (.v (.bool true)) := r
  obtain rfl := r.raw
  exact ⟨rfl, B⟩
theorem reps2 {Z : Zone} {w : World} {a b : Value} {x y : DV} (h0 : RepDV Z w a x) (h1 : RepDV Z w b y) : Reps Z w #[a, b] [x, y] := ⟨rfl, fun i d hd => by
  match i, hd with
  | 0, hd => cases hd; exact h0
  | 1, hd => cases hd; exact h1⟩
end Go.Proofs.Ytlkdkhmdmgchbaa
namespace Go.Proofs
set_option linter.unusedSimpArgs false
set_option linter.unusedVariables false
open Go.Shelf
end Go.Proofs
namespace Go.Proofs
set_option linter.unusedSimpArgs false
set_option linter.unusedVariables false
open Go.Shelf
end Go.Proofs
namespace Go.Proofs.Ytlkdkhmdmgchbaa
set_option linter.unusedSimpArgs false
set_option linter.unusedVariables false
open Go.RowKit
attribute [local simp ↓] raw_wp hdd_wp dst0_wp slc_wp gav_bool gav_undef avpo_ptr avpo_seg avpo_wp avpo_optr avtupw_tup avtupw_wp raw_optr hdd_optr arun_nil ob_some kva_av kfree_free khfree_free khown_own klive_live knm_false chk_true ya_true gsel_tt gsel_ff gsel_tf gsel_ft vb_bool vi_int vstr_string avps_ptr avps_seg avp_ptr avagg_agg avtup_tup avb_bool avown_own shs_struct shsa_struct shsa_arr sharr_arr shl_slice shla_slice shla_arr shls_slice shls_str shi_int bc_true bc_false hd1_cons opc_some opc_none opn_some opn_none unc_not unc_neg gd_none gd_some as_move as_assign as_pick as_bin as_un as_conv as_load as_faddr as_field as_extract as_iaddr as_slice as_alloc as_box as_store as_build as_rows as_call as_append as_invoke as_copy as_nilCheck as_makeIface as_assert as_makeSlice as_lookup as_mapUpdate as_makeMap as_range as_next as_entry as_index as_fn as_len as_min as_max stMove stPick stBin stUn stConv stLoad stFaddr stField stExtract stIaddr stSlice stAlloc stBox stStore stBuild stIndex stRows stCall stAppend stFn stLen stMin stMax opd_tmp opd_const opd_func rawL_nil rawL_cons raw_c raw_st raw_a opr_e zr_nil zr_cons lvd_live hod_own obd_some obd_none kvd_av chd_true vid_int lk_cons lk_nil ins_nil ins_cons cells_zero cells_succ spread1_c spread1_own spread1_ptr spread1_fn spread1_seg spreadL_nil spreadL_cons spread_agg spread_c spread_own spread_seg spread_ptr spread_fn ex_zero ex_succ ops_e opb_none opb_int spreadD_agg spreadD_c spreadD_own spreadD_seg fillO_nil fillO_cons argsOf_nil argsOf_cons dvOf_c dvOf_seg dvOf_own dvOf_agg zrL_nil zrL_cons hdd_c hdd_seg hdd_own clz_e clv_raw clv_f callD_e dst0_n dst0_nil dst0_own goneH_e capc_ptr capc_seg capc_c capN_nil capN_cons capD_nil capD_cons deadZ_nil deadZ_cons
attribute [local simp] dok_some dok_none dflt_tmp dflt_vt dflt_cell dflt_zn dflt_nm dflt_hd dflt_sz dflt_df puts_nil puts_cons wr_some wr_none cst_agg cst_int cst_bool cst_string cst_slice cst_tuple cst_nilFunc cst_pointer cst_func bin_add bin_sub bin_mul bin_quo bin_rem bin_eql bin_neq bin_lss bin_leq bin_gtr bin_geq bin_bool bin_aggs binT_bool binT_aggs shbd_bool eqb_eql eqb_neq bin_slice bin_str_eql bin_str_neq bin_str_lss bin_str_add nz_v nz_n nz_s nz_p nz_f nz_st atz_v atz_n atz_s atz_p atz_f atz_st atz_agg atR_one atR_tup crow_nil crow_cons slc_c slc_n slc_own slc_nil raws setR placesT_nil placesT_cons zc chunk zsAll setD ocD_v ocD_n ocD_s ocD_p ocD_f ocD_st nrm_v nrm_n nrm_s nrm_p nrm_f nrm_st isV_one isV_tup isV_c isV_agg isV_v isV_n isV_s isV_p isV_f isV_st argRows Sh.agg zds_nil zds_e zds_v zds_s vcells_agg vcells_int vcells_bool vcells_string vcells_slice vcells_pointer toList_lit map_nilL map_consL nzr_e rowsOc_nil rowsOc_cons rowsOc_RD nzr_RD foks_nil foks_cons fok_tmp fok_vt fok_cell fok_nm fok_zn fok_hd fok_sz fok_df Fv_c Fv_seg Fv_tup Fv_agg Fv_ptr Fv_ptrs Fv_wp Fv_fn Fv_fnd Fv_own Fv_ownd Fv_nown Fv_vown FvL_nil FvL_cons kvp_av hdp_some subz frz Uz Nm Uh vw_nb vw_zo vw_zf vw_hb tb_nil tb_cons fzc_nil fzc_cons fzcaps_nil fzcaps_cons ty2 ty3 ty4 ty5 ty6 ty7 ty8 ty9 ty10 ty11 ty12 ty13 ty14 ty15 ty16 ty17 ty18 ty19 ty20 ty21 ty22 ty23 ty24 ty25 ty26 ty27 ty30 ty40 ty48 ty50 ty51 ty52 ty55 ty57 ty62 ty63 ty85 ty94 ty101 ty121 ty122 ty123 ty124 ty125 ty126 ty128 ty148 ty149 ty151 ty164 ty165 ty179 ty182 ty196 ty203 ty205 ty209 ty211 ty215 ty216 ty217 ty218 ty219 ty220 ty221 ty223 ty224 ty225 ty226 ty227 Value.oneCell'
set_option maxRecDepth 100000
theorem told1_len {l : List Pr} : ∀ x ∈ told1 l, x.length = 1 := by
  intro x hx
  obtain ⟨p, _, rfl⟩ := List.mem_map.1 hx
  rfl
abbrev HsD (hs : List Hd) : D := .s 3 (hs.map hdD)
set_option maxHeartbeats 4000000 in
theorem hlen_ct (hs : List Hd) : Ct Try.prog 207 [.c (HsD hs)] none (.one (dI hs.length)) := by
  refine ct_intro Try.func207 rfl Try.ntmps207 (by simp) (fun W0 Z => ?_)
  with_reducible repeat first | refine Jt.i ?_ | refine .g (by decide) ?_
  refine AW.at_ (fun L hL => ?_)
  simp at hL
  subst hL
  refine AW.rc 1 fun K hK => ?_
  repeat (with_reducible refine .s fun X Y Z W => ?_; simp; (first | refine Z.out _ _ ?_ | refine W.out _ ?_ | refine ⟨by kernel_rfl, W.out _ ?_⟩); clear Z W X Y; simp); (try refine .n ?_)
  refine Jt.f hK ?_
  clear hK K
  with_reducible repeat first | refine Jt.i ?_ | refine .g (by decide) ?_
  refine AW.rc 10 fun K hK => ?_
  repeat (with_reducible refine .s fun X Y Z W => ?_; simp; (first | refine Z.out _ _ ?_ | refine W.out _ ?_ | refine ⟨by kernel_rfl, W.out _ ?_⟩); clear Z W X Y; simp); (try refine .n ?_)
  refine Jt.f hK ?_
  clear hK K
  with_reducible repeat first | refine Jt.i ?_ | refine .g (by decide) ?_
  refine nx_ret (T := ty) (rs := [.tmp 2]) (zs := []) (ds := [dI hs.length]) (rr := []) (.inr rfl) rfl (by kernel_rfl) (by kernel_rfl) (by simp) rfl
theorem hs_at {hs : List Hd} {i : Nat} {h : Hd} (hi : hs[i]? = some h) : (hs.map hdD)[i]? = some [.v (.int .i64 h.1), .v (.bool h.2.1), RD h.2.2] := by
  rw [List.getElem?_map, hi]
  rfl
theorem rd_at0 {h : Hd} (hn : h.2.2 ≠ []) : (h.2.2.map PD)[0]? = some (PD (fstH h)) := by
  rw [fst_mem hn]
  rfl
set_option maxHeartbeats 8000000 in
theorem hless_ct (hs : List Hd) (i k : Nat) (a b : Hd) (hi : hs[i]? = some a) (hk : hs[k]? = some b) (ha : a.2.2 ≠ []) (hb : b.2.2 ≠ []) : Ct Try.prog 208 [.c (HsD hs), dI i, dI k] none (.one (dB (ltH a b))) := by
  have cc := compare_ct (fstH a) (fstH b)
  have ri := hs_at hi
  have rk := hs_at hk
  have r0 := rd_at0 ha
  have r1 := rd_at0 hb
  have li := lt_of_some hi
  have lk := lt_of_some hk
  refine ct_intro Try.func208 rfl Try.ntmps208 (by simp) (fun W0 Z => ?_)
  with_reducible repeat first | refine Jt.i ?_ | refine .g (by decide) ?_
  refine AW.at_ (fun L hL => ?_)
  simp at hL
  subst hL
  refine AW.rc 1 fun K hK => ?_
  repeat (with_reducible refine .s fun X Y Z W => ?_; simp; (first | refine Z.out _ _ ?_ | refine W.out _ ?_ | refine ⟨by kernel_rfl, W.out _ ?_⟩); clear Z W X Y; simp); (try refine .n ?_)
  refine Jt.f hK ?_
  clear hK K
  with_reducible repeat first | refine Jt.i ?_ | refine .g (by decide) ?_
  refine AW.rc 10 fun K hK => ?_
  repeat (with_reducible refine .s fun X Y Z W => ?_; simp; (first | refine Z.out _ _ ?_ | refine W.out _ ?_ | refine ⟨by kernel_rfl, W.out _ ?_⟩); clear Z W X Y; simp); (try refine .n ?_)
  refine .s fun K1 K2 hK1 hK2 => ?_
  simp
  first | refine ⟨i, _, rfl, ri, ?_⟩ | refine orr_l ⟨i, _, rfl, ri, ?_⟩
  refine hK1.out _ _ ?_
  clear hK1 hK2 K1 K2
  (try simp)
  repeat (with_reducible refine .s fun X Y Z W => ?_; simp; (first | refine Z.out _ _ ?_ | refine W.out _ ?_ | refine ⟨by kernel_rfl, W.out _ ?_⟩); clear Z W X Y; simp); (try refine .n ?_)
  refine .s fun K1 K2 hK1 hK2 => ?_
  simp
  first | refine ⟨0, _, rfl, r0, ?_⟩ | refine orr_l ⟨0, _, rfl, r0, ?_⟩
  refine hK1.out _ _ ?_
  clear hK1 hK2 K1 K2
  (try simp)
  repeat (with_reducible refine .s fun X Y Z W => ?_; simp; (first | refine Z.out _ _ ?_ | refine W.out _ ?_ | refine ⟨by kernel_rfl, W.out _ ?_⟩); clear Z W X Y; simp); (try refine .n ?_)
  refine .s fun K1 K2 hK1 hK2 => ?_
  simp
  first | refine ⟨k, _, rfl, rk, ?_⟩ | refine orr_l ⟨k, _, rfl, rk, ?_⟩
  refine hK1.out _ _ ?_
  clear hK1 hK2 K1 K2
  (try simp)
  repeat (with_reducible refine .s fun X Y Z W => ?_; simp; (first | refine Z.out _ _ ?_ | refine W.out _ ?_ | refine ⟨by kernel_rfl, W.out _ ?_⟩); clear Z W X Y; simp); (try refine .n ?_)
  refine .s fun K1 K2 hK1 hK2 => ?_
  simp
  first | refine ⟨0, _, rfl, r1, ?_⟩ | refine orr_l ⟨0, _, rfl, r1, ?_⟩
  refine hK1.out _ _ ?_
  clear hK1 hK2 K1 K2
  (try simp)
  repeat (with_reducible refine .s fun X Y Z W => ?_; simp; (first | refine Z.out _ _ ?_ | refine W.out _ ?_ | refine ⟨by kernel_rfl, W.out _ ?_⟩); clear Z W X Y; simp); (try refine .n ?_)
  refine .s fun K1 K2 hK1 hK2 => ?_
  simp
  refine orr_l ⟨by kernel_rfl, .inl ⟨_, cc, ?_⟩⟩
  (try simp)
  refine hK1.out _ _ ?_
  clear hK1 hK2 K1 K2
  (try simp)
  repeat (with_reducible refine .s fun X Y Z W => ?_; simp; (first | refine Z.out _ _ ?_ | refine W.out _ ?_ | refine ⟨by kernel_rfl, W.out _ ?_⟩); clear Z W X Y; simp); (try refine .n ?_)
  refine ⟨chk_drawn (by kernel_rfl) (by kernel_rfl), hK.out _ ?_⟩
  clear hK K
  with_reducible repeat first | refine Jt.i ?_ | refine .g (by decide) ?_
  rcases lt_total (fstH a) (fstH b) with h | h | h
  · have e := (pcmp_lt _ _).2 h
    have el : ltH a b = true := by unfold ltH; simp [h]
    rw [el]
    refine AW.rc 50 fun K hK => ?_
    repeat (with_reducible refine .s fun X Y Z W => ?_; simp [e]; (first | refine Z.out _ _ ?_ | refine W.out _ ?_ | refine ⟨by kernel_rfl, W.out _ ?_⟩); clear Z W X Y; simp [e]); (try refine .n ?_)
    refine ⟨chk_drawn (by kernel_rfl) (by kernel_rfl), hK.out _ ?_⟩
    clear hK K
    with_reducible repeat first | refine Jt.i ?_ | refine .g (by decide) ?_
    refine nx_ret (T := ty) (rs := [.tmp 6]) (zs := []) (ds := [dB true]) (rr := []) (.inr rfl) rfl (by kernel_rfl) (by kernel_rfl) (by simp) rfl
  · have e : pcmp (fstH a) (fstH b) = 0 := (pcmp_eq _ _).2 h
    have el : ltH a b = decide (b.1 < a.1) := by unfold ltH; simp [h, lt_irrefl]
    rw [el]
    refine AW.rc 50 fun K hK => ?_
    repeat (with_reducible refine .s fun X Y Z W => ?_; simp [e]; (first | refine Z.out _ _ ?_ | refine W.out _ ?_ | refine ⟨by kernel_rfl, W.out _ ?_⟩); clear Z W X Y; simp [e]); (try refine .n ?_)
    refine .s fun K1 K2 hK1 hK2 => ?_
    simp [e]
    first | refine ⟨i, _, rfl, ri, ?_⟩ | refine orr_l ⟨i, _, rfl, ri, ?_⟩
    refine hK1.out _ _ ?_
    clear hK1 hK2 K1 K2
    (try simp [e])
    repeat (with_reducible refine .s fun X Y Z W => ?_; simp [e]; (first | refine Z.out _ _ ?_ | refine W.out _ ?_ | refine ⟨by kernel_rfl, W.out _ ?_⟩); clear Z W X Y; simp [e]); (try refine .n ?_)
    refine .s fun K1 K2 hK1 hK2 => ?_
    simp [e]
    first | refine ⟨k, _, rfl, rk, ?_⟩ | refine orr_l ⟨k, _, rfl, rk, ?_⟩
    refine hK1.out _ _ ?_
    clear hK1 hK2 K1 K2
    (try simp [e])
    repeat (with_reducible refine .s fun X Y Z W => ?_; simp [e]; (first | refine Z.out _ _ ?_ | refine W.out _ ?_ | refine ⟨by kernel_rfl, W.out _ ?_⟩); clear Z W X Y; simp [e]); (try refine .n ?_)
    refine ⟨chk_drawn (by kernel_rfl) (by kernel_rfl), hK.out _ ?_⟩
    clear hK K
    with_reducible repeat first | refine Jt.i ?_ | refine .g (by decide) ?_
    refine nx_ret (T := ty) (rs := [.tmp 6]) (zs := []) (ds := [dB (decide (b.1 < a.1))]) (rr := []) (.inr rfl) rfl (by kernel_rfl) (by kernel_rfl) (by simp) rfl
  · have e := (pcmp_gt _ _).2 h
    have e1 : ¬ pcmp (fstH a) (fstH b) < 0 := by omega
    have e2 : ¬ pcmp (fstH a) (fstH b) = 0 := by omega
    have el : ltH a b = false := by
      unfold ltH
      have h2 : fstH a ≠ fstH b := fun q => by rw [q] at h; exact lt_irrefl _ h
      simp [lt_asymm h, h2]
    rw [el]
    refine AW.rc 50 fun K hK => ?_
    repeat (with_reducible refine .s fun X Y Z W => ?_; simp [e1, e2]; (first | refine Z.out _ _ ?_ | refine W.out _ ?_ | refine ⟨by kernel_rfl, W.out _ ?_⟩); clear Z W X Y; simp [e1, e2]); (try refine .n ?_)
    refine ⟨chk_drawn (by kernel_rfl) (by kernel_rfl), hK.out _ ?_⟩
    clear hK K
    with_reducible repeat first | refine Jt.i ?_ | refine .g (by decide) ?_
    refine nx_ret (T := ty) (rs := [.tmp 6]) (zs := []) (ds := [dB false]) (rr := []) (.inr rfl) rfl (by kernel_rfl) (by kernel_rfl) (by simp) rfl
theorem swap_rows {hs : List Hd} {i k : Nat} {a b : Hd} (hi : hs[i]? = some a) (hk : hs[k]? = some b) : ((hs.map hdD).set i (hdD b)).set k (hdD a) = (swapL hs i k).map hdD := by
  unfold swapL
  rw [hi, hk]
  simp only [List.map_set]
set_option maxHeartbeats 8000000 in
theorem hswap_ku (hs : List Hd) (i k : Nat) (a b : Hd) (hi : hs[i]? = some a) (hk : hs[k]? = some b) : Ku Try.prog 211 [dI i, dI k] 126 3 (hs.map hdD) ((swapL hs i k).map hdD) := by
  have ri := hs_at hi
  have rk := hs_at hk
  have li := lt_of_some hi
  have lk := lt_of_some hk
  have sr := swap_rows hi hk
  have rk2 : ((hs.map hdD).set i [.v (.int .i64 b.1), .v (.bool b.2.1), RD b.2.2])[k]? = some [.v (.int .i64 b.1), .v (.bool b.2.1), RD b.2.2] := by
    by_cases e : i = k
    · subst e
      rw [List.getElem?_set_self (by simpa using li)]
    · rw [List.getElem?_set_ne e]
      exact rk
  have sr : ((hs.map hdD).set i [.v (.int .i64 b.1), .v (.bool b.2.1), RD b.2.2]).set k [.v (.int .i64 a.1), .v (.bool a.2.1), RD a.2.2] = (swapL hs i k).map hdD := sr
  rw [← sr]
  clear sr
  refine ku_intro Try.func211 rfl Try.ntmps211 (by simp) (fun W0 v Z hN hP => ?_)
  refine AW.at_ (fun L hL => ?_)
  simp [kuRows] at hL
  subst hL
  with_reducible repeat first | refine Jt.i ?_ | refine .g (by decide) ?_
  refine AW.rc 10 fun K hK => ?_
  repeat (with_reducible refine .s fun X Y Z W => ?_; simp; (first | refine Z.out _ _ ?_ | refine W.out _ ?_ | refine ⟨by kernel_rfl, W.out _ ?_⟩); clear Z W X Y; simp); (try refine .n ?_)
  refine .s fun K1 K2 hK1 hK2 => ?_
  simp
  refine orr_r ?_
  simp [ownI]
  refine ⟨k, rfl, by simpa using lk, ?_⟩
  refine hK1.out _ _ ?_
  clear hK1 hK2 K1 K2
  (try simp)
  repeat (with_reducible refine .s fun X Y Z W => ?_; simp; (first | refine Z.out _ _ ?_ | refine W.out _ ?_ | refine ⟨by kernel_rfl, W.out _ ?_⟩); clear Z W X Y; simp); (try refine .n ?_)
  refine .s fun K1 K2 hK1 hK2 => ?_
  simp
  refine ⟨_, rk, ?_⟩
  simp
  refine hK1.out _ _ ?_
  clear hK1 hK2 K1 K2
  (try simp)
  repeat (with_reducible refine .s fun X Y Z W => ?_; simp; (first | refine Z.out _ _ ?_ | refine W.out _ ?_ | refine ⟨by kernel_rfl, W.out _ ?_⟩); clear Z W X Y; simp); (try refine .n ?_)
  refine .s fun K1 K2 hK1 hK2 => ?_
  simp
  refine orr_r ?_
  simp [ownI]
  refine ⟨i, rfl, by simpa using li, ?_⟩
  refine hK1.out _ _ ?_
  clear hK1 hK2 K1 K2
  (try simp)
  repeat (with_reducible refine .s fun X Y Z W => ?_; simp; (first | refine Z.out _ _ ?_ | refine W.out _ ?_ | refine ⟨by kernel_rfl, W.out _ ?_⟩); clear Z W X Y; simp); (try refine .n ?_)
  refine .s fun K1 K2 hK1 hK2 => ?_
  simp
  refine ⟨_, ri, ?_⟩
  simp
  refine hK1.out _ _ ?_
  clear hK1 hK2 K1 K2
  (try simp)
  repeat (with_reducible refine .s fun X Y Z W => ?_; simp; (first | refine Z.out _ _ ?_ | refine W.out _ ?_ | refine ⟨by kernel_rfl, W.out _ ?_⟩); clear Z W X Y; simp); (try refine .n ?_)
  refine .s fun K1 K2 hK1 hK2 => ?_
  simp
  refine orr_r ?_
  simp [ownI]
  refine ⟨i, rfl, by simpa using li, ?_⟩
  refine hK1.out _ _ ?_
  clear hK1 hK2 K1 K2
  (try simp)
  repeat (with_reducible refine .s fun X Y Z W => ?_; simp; (first | refine Z.out _ _ ?_ | refine W.out _ ?_ | refine ⟨by kernel_rfl, W.out _ ?_⟩); clear Z W X Y; simp); (try refine .n ?_)
  refine .s fun K1 K2 hK1 hK2 => ?_
  simp
  refine ⟨_, ri, ?_⟩
  simp
  refine hK1.out _ _ ?_
  clear hK1 hK2 K1 K2
  (try simp)
  repeat (with_reducible refine .s fun X Y Z W => ?_; simp; (first | refine Z.out _ _ ?_ | refine W.out _ ?_ | refine ⟨by kernel_rfl, W.out _ ?_⟩); clear Z W X Y; simp); (try refine .n ?_)
  refine .s fun K1 K2 hK1 hK2 => ?_
  simp
  refine orr_r ?_
  simp [ownI]
  refine ⟨k, rfl, by simpa using lk, ?_⟩
  refine hK1.out _ _ ?_
  clear hK1 hK2 K1 K2
  (try simp)
  repeat (with_reducible refine .s fun X Y Z W => ?_; simp; (first | refine Z.out _ _ ?_ | refine W.out _ ?_ | refine ⟨by kernel_rfl, W.out _ ?_⟩); clear Z W X Y; simp); (try refine .n ?_)
  refine .s fun K1 K2 hK1 hK2 => ?_
  simp
  refine ⟨_, rk2, ?_⟩
  simp
  refine hK1.out _ _ ?_
  clear hK1 hK2 K1 K2
  (try simp)
  repeat (with_reducible refine .s fun X Y Z W => ?_; simp; (first | refine Z.out _ _ ?_ | refine W.out _ ?_ | refine ⟨by kernel_rfl, W.out _ ?_⟩); clear Z W X Y; simp); (try refine .n ?_)
  refine ⟨chk_drawn (by kernel_rfl) (by kernel_rfl), hK.out _ ?_⟩
  clear hK K
  with_reducible repeat first | refine Jt.i ?_ | refine .g (by decide) ?_
  exact nx_ku (y := 25) (zs := [0, 0, 0]) ty (.inl rfl) rfl rfl rfl rfl rfl rfl
end Go.Proofs.Ytlkdkhmdmgchbaa
