/- a place in a row in order: slices.BinarySearchFunc. -/
import Derived.Test.YtlkdkhmdmgchbaaH9
namespace Go.Proofs.Ytlkdkhmdmgchbaa
set_option linter.unusedSimpArgs false
set_option linter.unusedVariables false
open Go.RowKit

/-- where a pair stands in a row in order, or would. -/
def placeL (l : List Pr) (p : Pr) : Nat := (l.filter (fun x => decide (lt x p))).length
theorem placeL_is {l : List Pr} {p : Pr} {i : Nat} (h1 : i ≤ l.length) (ha : ∀ x ∈ l.take i, lt x p) (hb : ∀ x ∈ l.drop i, ¬ lt x p) : placeL l p = i := by
  unfold placeL
  have e : l.filter (fun x => decide (lt x p)) = (l.take i ++ l.drop i).filter (fun x => decide (lt x p)) := by rw [List.take_append_drop]
  rw [e, List.filter_append, List.filter_eq_self.2 (by simpa using ha), List.filter_eq_nil_iff.2 (by simpa using hb), List.append_nil, List.length_take]
  omega
theorem mem_at {l : List Pr} (hr : Rises l) {p : Pr} {i : Nat} (hi : i < l.length) (ha : ∀ x ∈ l.take i, lt x p) (hb : ∀ x ∈ l.drop i, ¬ lt x p) : p ∈ l ↔ l[i] = p := by
  constructor
  · intro hm
    rw [← List.take_append_drop i l, List.mem_append] at hm
    rcases hm with hm | hm
    · exact absurd (ha _ hm) (lt_irrefl _)
    · rw [List.drop_eq_getElem_cons hi, List.mem_cons] at hm
      rcases hm with hm | hm
      · exact hm.symm
      · exfalso
        have hd : Rises (l.drop i) := hr.sub (List.drop_sublist i l)
        rw [List.drop_eq_getElem_cons hi] at hd
        have hq : l[i] ∈ l.drop i := by
          rw [List.drop_eq_getElem_cons hi]
          exact List.mem_cons_self
        exact hb l[i] hq ((rises_cons.1 hd).1 _ hm)
  · rintro rfl
    exact List.getElem_mem hi
theorem Rises.below {l : List Pr} (hr : Rises l) {p : Pr} {h : Nat} (hh : h < l.length) (hp : lt l[h] p) : ∀ x ∈ l.take (h + 1), lt x p := by
  intro x hx
  rw [List.take_succ_eq_append_getElem hh, List.mem_append, List.mem_singleton] at hx
  rcases hx with hx | rfl
  · have hd : Rises (l.take (h + 1)) := hr.take _
    rw [List.take_succ_eq_append_getElem hh, Rises, List.pairwise_append] at hd
    exact lt_trans (hd.2.2 _ hx _ (by simp)) hp
  · exact hp
theorem Rises.above {l : List Pr} (hr : Rises l) {p : Pr} {h : Nat} (hh : h < l.length) (hp : ¬ lt l[h] p) : ∀ x ∈ l.drop h, ¬ lt x p := by
  intro x hx hl
  have hd : Rises (l.drop h) := hr.sub (List.drop_sublist h l)
  rw [List.drop_eq_getElem_cons hh] at hx hd
  rw [List.mem_cons] at hx
  rcases hx with rfl | hx
  · exact hp hl
  · exact hp (lt_trans ((rises_cons.1 hd).1 _ hx) hl)

set_option maxRecDepth 100000 in
set_option maxHeartbeats 4000000 in
theorem search_any (v : Value) (l : List Pr) (p0 p1 : Int) (w : World) (h : PRow w v l) (hr : Rises l) (hn : l.length ≤ 100000000) :
    Calls Try.prog 152 #[v, .agg #[(.int .u64 (p0)), (.int .u64 (p1))], .func (.func 56) #[] #[]] w fun e w' =>
      e = .returned (.tuple #[(.int .i64 ((placeL l (p0, p1) : Int))), .bool (decide ((p0, p1) ∈ l))]) ∧ Below w.heap.size w w' := by
  obtain ⟨p, cap, rfl⟩ := h.form
  have H := hid h; have HR := hid hr; have HN := hid hn
  have bT : Hid (Bx w.heap.size p0 p1 (w.alloc (.cells #[(.int .u64 (p0)), (.int .u64 (p1))] 52))) := Bx.new w p0 p1 _
  clear h hr hn
  go_enter Try.func152, Try.ntmps152
  go_wp2_with fail
  go_loopw [9, 10] (fun v9 v10 wr => ∃ i j : Nat, v9 = (.int .i64 (i)) ∧ v10 = (.int .i64 (j)) ∧ i ≤ j ∧ j ≤ l.length ∧ Hid (∀ x ∈ l.take i, lt x (p0, p1)) ∧ Hid (∀ x ∈ l.drop j, ¬ lt x (p0, p1)) ∧ Hid (Below w.heap.size w wr) ∧ Hid (Bx w.heap.size p0 p1 wr)) (fun v9 v10 _ => (intOf v10).toNat - (intOf v9).toNat)
  case atStart => exact ⟨0, l.length, rfl, rfl, Nat.zero_le _, Nat.le_refl _, by simp [Hid], by simp [Hid], below_alloc _ _, bT⟩
  case round =>
    clear bT
    obtain ⟨i, j, rfl, rfl, hij, hj, LO, HI, BEL, BT⟩ := hrel
    by_cases hgo : i < j
    · have hgo' : (i : Int) < (j : Int) := by omega
      obtain ⟨m, hm⟩ : ∃ m, (i + j) / 2 = m := ⟨_, rfl⟩
      have hl := HN.out
      have hm1 : i ≤ m ∧ m < j := by omega
      have hw1 : IntKind.i64.wrap ((i : Int) + (j : Int)) = ((i + j : Nat) : Int) := by rw [i64_ok _ (by omega) (by omega)]; omega
      have hw2 : IntKind.u64.wrap ((i + j : Nat) : Int) = ((i + j : Nat) : Int) := IntWalk.u64_in _ ⟨by omega, by omega⟩
      have hmI : (0 : Int) ≤ (m : Int) := by omega
      have hml : (m : Int) < (l.length : Int) := by omega
      obtain ⟨g, o, cap', hv, hcell⟩ := (H.out.below BEL.out).cell (by omega)
      simp only [Value.slice.injEq] at hv
      obtain ⟨hv, -, -⟩ := hv
      subst hv
      have hmn : m < l.length := by omega
      obtain ⟨d0, d1⟩ := hcell m hmn
      have UP := hid (fun hp => HR.out.below hmn (p := (p0, p1)) hp)
      have DN := hid (fun hp => HR.out.above hmn (p := (p0, p1)) hp)
      obtain ⟨x, hx⟩ : ∃ x, l[m] = x := ⟨_, rfl⟩
      rw [hx] at d0 d1 UP DN
      clear hx hcell
      obtain ⟨x0, x1⟩ := x
      simp only at d0 d1
      obtain ⟨e0, e1, e2⟩ := BT.out
      have A := hid (fun W => compare_any x0 x1 p0 p1 W)
      have hlt0 := hid (pcmp_lt (x0, x1) (p0, p1))
      obtain ⟨z, hz⟩ : ∃ z, pcmp (x0, x1) (p0, p1) = z := ⟨_, rfl⟩
      have zs := pcmp_small (x0, x1) (p0, p1)
      rw [hz] at A hlt0 zs
      clear hz
      have hq : ((i : Int) + (j : Int)) / 2 = (m : Int) := by omega
      have HM := hid hm1; have HQ := hid hq
      have hwm : IntKind.i64.wrap ((m : Int) + 1) = ((m + 1 : Nat) : Int) := by rw [i64_ok _ (by omega) (by omega)]; omega
      clear hm hq hm1
      rcases (show z = -1 ∨ z = 0 ∨ z = 1 by omega) with rfl | rfl | rfl <;> clear zs
      · have LO2 := hid (UP.out (hlt0.out.1 (by omega)))
        clear UP DN hlt0
        go_wp2_with fail
        rw [HQ.out]
        have st : Four wr g (o + m * 2) w.heap.size 0 x0 x1 p0 p1 wr.drew := ⟨below_drew _, d0, d1, e0, e1⟩
        go_region_held3 (fun W => Below wr.heap.size wr W ∧ W.cell? ⟨g, o + m * 2, none⟩ = some (.int .u64 (x0)) ∧ W.cell? ⟨g, o + m * 2 + 1, none⟩ = some (.int .u64 (x1)) ∧ W.cell? ⟨w.heap.size, 0, none⟩ = some (.int .u64 (p0)) ∧ W.cell? ⟨w.heap.size, 0 + 1, none⟩ = some (.int .u64 (p1))) (first | assumption | go_keep)
          (first | (go_at_call 56; refine (A.out _).mono ?_; rintro e w5 ⟨rfl, B⟩; have hx := fourB st B; clear B))
        all_goals
          have ST : Hid (Four wr g (o + m * 2) w.heap.size 0 x0 x1 p0 p1 w5) := (by assumption : Four wr g (o + m * 2) w.heap.size 0 x0 x1 p0 p1 w5)
          clear st
        all_goals
          clear d0 d1 e0 e1
          go_wp2_with fail
          refine ⟨⟨m + 1, j, by simp, rfl, by have := HM.out; omega, hj, LO2, HI, hid (bel_step BEL.out ST.out.1), hid ⟨ST.out.2.2.2.1, ST.out.2.2.2.2, World.lt_of_cell ST.out.2.2.2.1⟩⟩, ?_⟩
          have := HM.out
          simp [intOf]; omega
      · have HI2 := hid (DN.out (fun h => by have := hlt0.out.2 h; omega))
        clear UP DN hlt0
        go_wp2_with fail
        rw [HQ.out]
        have st : Four wr g (o + m * 2) w.heap.size 0 x0 x1 p0 p1 wr.drew := ⟨below_drew _, d0, d1, e0, e1⟩
        go_region_held3 (fun W => Below wr.heap.size wr W ∧ W.cell? ⟨g, o + m * 2, none⟩ = some (.int .u64 (x0)) ∧ W.cell? ⟨g, o + m * 2 + 1, none⟩ = some (.int .u64 (x1)) ∧ W.cell? ⟨w.heap.size, 0, none⟩ = some (.int .u64 (p0)) ∧ W.cell? ⟨w.heap.size, 0 + 1, none⟩ = some (.int .u64 (p1))) (first | assumption | go_keep)
          (first | (go_at_call 56; refine (A.out _).mono ?_; rintro e w5 ⟨rfl, B⟩; have hx := fourB st B; clear B))
        all_goals
          have ST : Hid (Four wr g (o + m * 2) w.heap.size 0 x0 x1 p0 p1 w5) := (by assumption : Four wr g (o + m * 2) w.heap.size 0 x0 x1 p0 p1 w5)
          clear st
        all_goals
          clear d0 d1 e0 e1
          go_wp2_with fail
          refine ⟨⟨i, m, rfl, rfl, by have := HM.out; omega, by have := HM.out; omega, LO, HI2, hid (bel_step BEL.out ST.out.1), hid ⟨ST.out.2.2.2.1, ST.out.2.2.2.2, World.lt_of_cell ST.out.2.2.2.1⟩⟩, ?_⟩
          have := HM.out
          simp [intOf]; omega
      · have HI2 := hid (DN.out (fun h => by have := hlt0.out.2 h; omega))
        clear UP DN hlt0
        go_wp2_with fail
        rw [HQ.out]
        have st : Four wr g (o + m * 2) w.heap.size 0 x0 x1 p0 p1 wr.drew := ⟨below_drew _, d0, d1, e0, e1⟩
        go_region_held3 (fun W => Below wr.heap.size wr W ∧ W.cell? ⟨g, o + m * 2, none⟩ = some (.int .u64 (x0)) ∧ W.cell? ⟨g, o + m * 2 + 1, none⟩ = some (.int .u64 (x1)) ∧ W.cell? ⟨w.heap.size, 0, none⟩ = some (.int .u64 (p0)) ∧ W.cell? ⟨w.heap.size, 0 + 1, none⟩ = some (.int .u64 (p1))) (first | assumption | go_keep)
          (first | (go_at_call 56; refine (A.out _).mono ?_; rintro e w5 ⟨rfl, B⟩; have hx := fourB st B; clear B))
        all_goals
          have ST : Hid (Four wr g (o + m * 2) w.heap.size 0 x0 x1 p0 p1 w5) := (by assumption : Four wr g (o + m * 2) w.heap.size 0 x0 x1 p0 p1 w5)
          clear st
        all_goals
          clear d0 d1 e0 e1
          go_wp2_with fail
          refine ⟨⟨i, m, rfl, rfl, by have := HM.out; omega, by have := HM.out; omega, LO, HI2, hid (bel_step BEL.out ST.out.1), hid ⟨ST.out.2.2.2.1, ST.out.2.2.2.2, World.lt_of_cell ST.out.2.2.2.1⟩⟩, ?_⟩
          have := HM.out
          simp [intOf]; omega
    · obtain rfl : i = j := by omega
      have EP := hid (placeL_is hj LO.out HI.out)
      have h0 : ¬ (i : Int) < (i : Int) := by omega
      obtain ⟨e0, e1, e2⟩ := BT.out
      by_cases hend : i < l.length
      · have h1 : (i : Int) < (l.length : Int) := by omega
        have MA := hid (mem_at HR.out hend LO.out HI.out)
        obtain ⟨g, o, cap', hv, hcell⟩ := (H.out.below BEL.out).cell (by omega)
        simp only [Value.slice.injEq] at hv
        obtain ⟨hv, -, -⟩ := hv
        subst hv
        obtain ⟨d0, d1⟩ := hcell i hend
        obtain ⟨x, hx⟩ : ∃ x, l[i] = x := ⟨_, rfl⟩
        rw [hx] at d0 d1 MA
        clear hx hcell
        obtain ⟨x0, x1⟩ := x
        simp only at d0 d1
        have A := hid (fun W => compare_any x0 x1 p0 p1 W)
        have heq := hid (pcmp_eq (x0, x1) (p0, p1))
        obtain ⟨z, hz⟩ : ∃ z, pcmp (x0, x1) (p0, p1) = z := ⟨_, rfl⟩
        rw [hz] at A heq
        clear hz hend
        by_cases hz0 : z = 0
        · subst hz0
          have E : Hid (decide ((p0, p1) ∈ l) = true) := by
            show _ = _
            rw [decide_eq_true_iff]
            exact MA.out.2 (heq.out.1 rfl)
          clear MA heq
          go_wp2_with fail
          have st : Four wr g (o + i * 2) w.heap.size 0 x0 x1 p0 p1 wr.drew := ⟨below_drew _, d0, d1, e0, e1⟩
          go_region_held3 (fun W => Below wr.heap.size wr W ∧ W.cell? ⟨g, o + i * 2, none⟩ = some (.int .u64 (x0)) ∧ W.cell? ⟨g, o + i * 2 + 1, none⟩ = some (.int .u64 (x1)) ∧ W.cell? ⟨w.heap.size, 0, none⟩ = some (.int .u64 (p0)) ∧ W.cell? ⟨w.heap.size, 0 + 1, none⟩ = some (.int .u64 (p1))) (first | assumption | go_keep)
            (first | (go_at_call 56; refine (A.out _).mono ?_; rintro e w5 ⟨rfl, B⟩; have hx := fourB st B; clear B))
          all_goals
            have ST : Hid (Four wr g (o + i * 2) w.heap.size 0 x0 x1 p0 p1 w5) := (by assumption : Four wr g (o + i * 2) w.heap.size 0 x0 x1 p0 p1 w5)
            clear st
          all_goals
            go_wp2_with fail
            go_ret2
            exact ⟨by rw [EP.out, E.out]; rfl, bel_step BEL.out ST.out.1⟩
        · have b0 : (z == 0) = false := by simpa using hz0
          have E : Hid (decide ((p0, p1) ∈ l) = false) := by
            show _ = _
            rw [decide_eq_false_iff_not]
            exact fun h => hz0 (heq.out.2 (MA.out.1 h))
          clear MA heq hz0
          go_wp2_with fail
          have st : Four wr g (o + i * 2) w.heap.size 0 x0 x1 p0 p1 wr.drew := ⟨below_drew _, d0, d1, e0, e1⟩
          go_region_held3 (fun W => Below wr.heap.size wr W ∧ W.cell? ⟨g, o + i * 2, none⟩ = some (.int .u64 (x0)) ∧ W.cell? ⟨g, o + i * 2 + 1, none⟩ = some (.int .u64 (x1)) ∧ W.cell? ⟨w.heap.size, 0, none⟩ = some (.int .u64 (p0)) ∧ W.cell? ⟨w.heap.size, 0 + 1, none⟩ = some (.int .u64 (p1))) (first | assumption | go_keep)
            (first | (go_at_call 56; refine (A.out _).mono ?_; rintro e w5 ⟨rfl, B⟩; have hx := fourB st B; clear B))
          all_goals
            have ST : Hid (Four wr g (o + i * 2) w.heap.size 0 x0 x1 p0 p1 w5) := (by assumption : Four wr g (o + i * 2) w.heap.size 0 x0 x1 p0 p1 w5)
            clear st
          all_goals
            go_wp2_with fail
            go_ret2
            exact ⟨by rw [EP.out, E.out]; rfl, bel_step BEL.out ST.out.1⟩
      · obtain rfl : i = l.length := by omega
        have E : Hid (decide ((p0, p1) ∈ l) = false) := by
          show _ = _
          rw [decide_eq_false_iff_not]
          intro h
          have := LO.out
          rw [List.take_of_length_le (by omega)] at this
          exact lt_irrefl _ (this _ h)
        clear hend
        go_wp2_with fail
        go_big_region
        all_goals
          go_wp2_with fail
          go_ret2
          exact ⟨by rw [EP.out, E.out]; rfl, BEL.out.drew⟩
end Go.Proofs.Ytlkdkhmdmgchbaa
