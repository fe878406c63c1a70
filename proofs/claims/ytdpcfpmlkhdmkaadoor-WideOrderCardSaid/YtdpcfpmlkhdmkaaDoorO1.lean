/- slices.SortFunc at twelve elements at most: insertion sort. -/
import Derived.Test.YtdpcfpmlkhdmkaaDoorL2
namespace Go.Proofs.YtdpcfpmlkhdmkaaDoor
open Go.RowKit

/-- block g holds these wide numbers. -/
def SW (w : World) (g : Nat) (l : List (Int × Int)) : Prop :=
  ∀ k (h : k < l.length), w.cell? ⟨g, k * 2, none⟩ = some (.int .u64 (l[k].1)) ∧ w.cell? ⟨g, k * 2 + 1, none⟩ = some (.int .u64 (l[k].2)) ∧ w.frozen? ⟨g, k * 2, none⟩ = false ∧ w.frozen? ⟨g, k * 2 + 1, none⟩ = false
theorem SW.below {w w' : World} {g : Nat} {l : List (Int × Int)} (h : SW w g l) (hb : Below w.heap.size w w') : SW w' g l := fun k hk => by
  obtain ⟨h1, h2, h3, h4⟩ := h k hk
  have hg := World.block_lt_of_cell? _ _ h1
  exact ⟨cellB hb h1, cellB hb h2, (hb.frozen (p := ⟨g, k * 2, none⟩) hg).trans h3, (hb.frozen (p := ⟨g, k * 2 + 1, none⟩) hg).trans h4⟩
theorem WU.perm {l m : List (Int × Int)} (h : WU l) (p : m.Perm l) : WU m := fun x hx => h x (p.mem_iff.1 hx)
theorem SW.swap {w : World} {g j : Nat} {l : List (Int × Int)} (h : SW w g l) (hj : j + 1 < l.length) :
    SW ((((w.setCell ⟨g, (j + 1) * 2, none⟩ (.int .u64 (l[j].1))).setCell ⟨g, (j + 1) * 2 + 1, none⟩ (.int .u64 (l[j].2))).setCell ⟨g, j * 2, none⟩ (.int .u64 (l[j + 1].1))).setCell ⟨g, j * 2 + 1, none⟩ (.int .u64 (l[j + 1].2))) g ((l.set j l[j + 1]).set (j + 1) l[j]) := by
  have ne : ∀ {W : World} {o o' : Nat} (v : Value), o ≠ o' → (W.setCell ⟨g, o, none⟩ v).cell? ⟨g, o', none⟩ = W.cell? ⟨g, o', none⟩ := fun v h => World.cell?_setCell_other _ _ _ _ (by simp [h])
  have eq : ∀ {W : World} {o : Nat} {u : Value} (v : Value), W.cell? ⟨g, o, none⟩ = some u → (W.setCell ⟨g, o, none⟩ v).cell? ⟨g, o, none⟩ = some v := fun v h => World.cell?_setCell_same _ _ _ h
  obtain ⟨a1, a2, a3, a4⟩ := h j (by omega)
  obtain ⟨b1, b2, b3, b4⟩ := h (j + 1) hj
  intro k hk
  simp only [List.length_set] at hk
  obtain ⟨h1, h2, h3, h4⟩ := h k hk
  simp only [World.frozen?_setCell, h3, h4, and_self, and_true]
  by_cases e1 : k = j
  · subst e1
    rw [List.getElem_set_ne (by omega), List.getElem_set_self]
    refine ⟨?_, ?_⟩
    · rw [ne _ (by omega)]
      exact eq (u := .int .u64 (l[k].1)) _ (by rw [ne _ (by omega), ne _ (by omega)]; exact a1)
    · exact eq (u := .int .u64 (l[k].2)) _ (by rw [ne _ (by omega), ne _ (by omega), ne _ (by omega)]; exact a2)
  · by_cases e2 : k = j + 1
    · subst e2
      rw [List.getElem_set_self]
      refine ⟨?_, ?_⟩
      · rw [ne _ (by omega), ne _ (by omega), ne _ (by omega)]
        exact eq _ b1
      · rw [ne _ (by omega), ne _ (by omega)]
        exact eq (u := .int .u64 (l[j + 1].2)) _ (by rw [ne _ (by omega)]; exact b2)
    · rw [List.getElem_set_ne (by omega), List.getElem_set_ne (by omega)]
      exact ⟨by rw [ne _ (by omega), ne _ (by omega), ne _ (by omega), ne _ (by omega)]; exact h1, by rw [ne _ (by omega), ne _ (by omega), ne _ (by omega), ne _ (by omega)]; exact h2⟩
theorem swap_perm (l : List (Int × Int)) (j : Nat) (hj : j + 1 < l.length) : ((l.set j l[j + 1]).set (j + 1) l[j]).Perm l := List.set_set_perm (by omega) hj

/-- what a sort keeps: all blocks but the row's. -/
def Sorted (g : Nat) (l : List (Int × Int)) (w w' : World) : Prop := ∃ l', l'.Perm l ∧ SW w' g l' ∧ Keeps (fun k => k ≠ g) w w'

structure InsI (w : World) (g : Nat) (l l' : List (Int × Int)) (wr : World) : Prop where
  perm : l'.Perm l
  sw : SW wr g l'
  keeps : Keeps (fun k => k ≠ g) w wr

set_option maxRecDepth 100000 in
set_option maxHeartbeats 2000000 in
theorem insertion_any (g cap : Nat) (l : List (Int × Int)) (w : World) (h : SW w g l) (hu : WU l) (hn : l.length ≤ 12) (hpos : 1 ≤ l.length) :
    Calls Tryd.prog 58 #[.slice (some ⟨g, 0, none⟩) l.length cap, (.int .i64 (0)), (.int .i64 (l.length)), .func (.func 23) #[] #[]] w fun e w' => e = .returned (.tuple #[]) ∧ Sorted g l w w' := by
  have HU := hid hu; have IN := hid (show InsI w g l l w from ⟨List.Perm.refl _, h, Keeps.refl _ _⟩)
  clear h hu
  go_enter Tryd.func58, Tryd.ntmps58
  go_wp2_with fail
  go_loopw [8] (fun v8 wr => ∃ (i : Nat) (l' : List (Int × Int)), v8 = (.int .i64 (i)) ∧ 1 ≤ i ∧ i ≤ l.length ∧ Hid (InsI w g l l' wr)) (fun v8 _ => l.length - (intOf v8).toNat)
  case atStart => exact ⟨1, l, rfl, Nat.le_refl _, hpos, IN⟩
  case round =>
    clear IN
    obtain ⟨i, l', rfl, hi1, hi2, I⟩ := hrel
    by_cases hgo : i < l.length
    · have hgo' : (i : Int) < (l.length : Int) := by omega
      go_wp2_with fail
      go_loopw [9] (fun v9 wr => ∃ (j : Nat) (l' : List (Int × Int)), v9 = (.int .i64 (j)) ∧ j ≤ i ∧ Hid (InsI w g l l' wr)) (fun v9 _ => (intOf v9).toNat)
      case atStart => exact ⟨i, l', rfl, Nat.le_refl _, I⟩
      case round =>
        clear I
        obtain ⟨j, l', rfl, hj, I⟩ := hrel
        have hlen := I.out.perm.length_eq
        have hwi : IntKind.i64.wrap ((i : Int) + 1) = ((i + 1 : Nat) : Int) := by rw [IntWalk.i64_in _ ⟨by omega, by omega⟩]; omega
        by_cases hj0 : j = 0
        · subst hj0
          have q : ¬ (0 : Int) < ((0 : Nat) : Int) := by omega
          go_wp2_with fail
          go_big_region
          all_goals
            go_wp2_with fail
            exact ⟨⟨i + 1, l', by simp, by omega, hgo, I.out.perm, I.out.sw, I.out.keeps.trans (.of_below (below_drew _))⟩, by simp [intOf]; omega⟩
        · obtain ⟨p, hp⟩ : ∃ p, j = p + 1 := ⟨j - 1, by omega⟩
          have HP := hid hp
          have q : (0 : Int) < (j : Int) := by omega
          have q' : 0 < j := by omega
          have hjn : j < l.length := by omega
          have hpn : p < l.length := by omega
          have hjl : j < l'.length := by omega
          have hpl : p < l'.length := by omega
          have hb1 : (j : Int) < (l.length : Int) := by omega
          have hb2 : (p : Int) < (l.length : Int) := by omega
          have hb3 : (0 : Int) ≤ (j : Int) := by omega
          have hb4 : (0 : Int) ≤ (p : Int) := by omega
          obtain ⟨c0, c1, -, -⟩ := I.out.sw j hjl
          obtain ⟨d0, d1, -, -⟩ := I.out.sw p hpl
          obtain ⟨u0, u1⟩ := (HU.out.perm I.out.perm) l'[j] (List.getElem_mem hjl)
          obtain ⟨u2, u3⟩ := (HU.out.perm I.out.perm) l'[p] (List.getElem_mem hpl)
          have IS : Hid (∀ (W : World) (B : Below wr.heap.size wr W), SW ((((W.setCell ⟨g, j * 2, none⟩ (.int .u64 (l'[p].1))).setCell ⟨g, j * 2 + 1, none⟩ (.int .u64 (l'[p].2))).setCell ⟨g, p * 2, none⟩ (.int .u64 (l'[j].1))).setCell ⟨g, p * 2 + 1, none⟩ (.int .u64 (l'[j].2))) g ((l'.set p l'[j]).set j l'[p])) := fun W B => by
            subst hp
            exact (I.out.sw.below B).swap hjl
          have IP : Hid (((l'.set p l'[j]).set j l'[p]).Perm l) := by
            subst hp
            exact (swap_perm l' p hjl).trans I.out.perm
          have ISW := hid I.out.sw
          have IK := hid I.out.keeps
          have IPP := hid I.out.perm
          have FR : Hid (∀ (W : World), Below wr.heap.size wr W → W.frozen? ⟨g, j * 2, none⟩ = false ∧ W.frozen? ⟨g, j * 2 + 1, none⟩ = false ∧ W.frozen? ⟨g, p * 2, none⟩ = false ∧ W.frozen? ⟨g, p * 2 + 1, none⟩ = false) := fun W B =>
            ⟨((I.out.sw.below B) j hjl).2.2.1, ((I.out.sw.below B) j hjl).2.2.2, ((I.out.sw.below B) p hpl).2.2.1, ((I.out.sw.below B) p hpl).2.2.2⟩
          clear I
          generalize hx : l'[j] = x at *
          generalize hy : l'[p] = y at *
          clear hx hy hp
          obtain ⟨x0, x1⟩ := x
          obtain ⟨y0, y1⟩ := y
          simp only at c0 c1 d0 d1 u0 u1 u2 u3
          have CM := hid (fun W => compare_any x0 x1 y0 y1 W u0 u1 u2 u3)
          generalize cmpI (W128 x0 x1) (W128 y0 y1) = c at *
          go_wp2_with fail
          have hw1 : (j : Int) - 1 = (p : Int) := by have := HP.out; omega
          have hw2 : IntKind.i64.wrap (p : Int) = (p : Int) := IntWalk.i64_in _ ⟨by omega, by omega⟩
          have st : Below wr.heap.size wr wr.drew ∧ wr.drew.cell? ⟨g, j * 2, none⟩ = some (.int .u64 (x0)) ∧ wr.drew.cell? ⟨g, j * 2 + 1, none⟩ = some (.int .u64 (x1)) ∧ wr.drew.cell? ⟨g, p * 2, none⟩ = some (.int .u64 (y0)) ∧ wr.drew.cell? ⟨g, p * 2 + 1, none⟩ = some (.int .u64 (y1)) := ⟨below_drew _, c0, c1, d0, d1⟩
          go_region_held3 (fun W => Below wr.heap.size wr W ∧ W.cell? ⟨g, j * 2, none⟩ = some (.int .u64 (x0)) ∧ W.cell? ⟨g, j * 2 + 1, none⟩ = some (.int .u64 (x1)) ∧ W.cell? ⟨g, p * 2, none⟩ = some (.int .u64 (y0)) ∧ W.cell? ⟨g, p * 2 + 1, none⟩ = some (.int .u64 (y1))) (first | assumption | go_keep)
            (first | (go_at_call 23; refine (CM.out _).mono ?_; rintro e wa ⟨rfl, B⟩; have hx := (show Below wr.heap.size wr wa ∧ wa.cell? ⟨g, j * 2, none⟩ = some (.int .u64 (x0)) ∧ wa.cell? ⟨g, j * 2 + 1, none⟩ = some (.int .u64 (x1)) ∧ wa.cell? ⟨g, p * 2, none⟩ = some (.int .u64 (y0)) ∧ wa.cell? ⟨g, p * 2 + 1, none⟩ = some (.int .u64 (y1)) from ⟨(below_drew wr).trans (B.mono (by simp)), cellB B st.2.1, cellB B st.2.2.1, cellB B st.2.2.2.1, cellB B st.2.2.2.2⟩); clear B))
          have hz := (by assumption : Below wr.heap.size wr wa ∧ wa.cell? ⟨g, j * 2, none⟩ = some (.int .u64 (x0)) ∧ wa.cell? ⟨g, j * 2 + 1, none⟩ = some (.int .u64 (x1)) ∧ wa.cell? ⟨g, p * 2, none⟩ = some (.int .u64 (y0)) ∧ wa.cell? ⟨g, p * 2 + 1, none⟩ = some (.int .u64 (y1)))
          have BZ := hid hz.1
          obtain ⟨-, e0, e1, e2, e3⟩ := hz
          obtain ⟨f0, f1, f2, f3⟩ := FR.out wa BZ.out
          by_cases hc : c < 0
          · go_wp2_with fail
            go_region
            all_goals
              go_wp2_with fail
              refine ⟨⟨p, _, rfl, by have := HP.out; omega, IP.out, (IS.out wa BZ.out).below (below_drew _), ?_⟩, by have := HP.out; simp [intOf]; omega⟩
              refine Keeps.trans ?_ (.of_below (below_drew _))
              exact ((((IK.out.trans (.of_below BZ.out)).setCell (Or.inr (by simp)) _).setCell (Or.inr (by simp)) _).setCell (Or.inr (by simp)) _).setCell (Or.inr (by simp)) _
          · have hc' : ¬ c < 0 := hc
            go_wp2_with fail
            exact ⟨⟨i + 1, l', by simp, by omega, hgo, IPP.out, ISW.out.below BZ.out, IK.out.trans (.of_below BZ.out)⟩, by simp [intOf]; omega⟩
    · have h1 : ¬ (i : Int) < (l.length : Int) := by omega
      clear hgo
      go_wp2_with fail
      go_end0
      exact ⟨rfl, l', I.out.perm, I.out.sw, I.out.keeps⟩

/-- a slice in memory of its own reads as these numbers. -/
def SV (w : World) (v : Value) (l : List (Int × Int)) : Prop := ∃ p cap, v = .slice p l.length cap ∧ l.length ≤ cap ∧ (p = none → cap = 0) ∧ (0 < l.length → ∃ g, p = some ⟨g, 0, none⟩ ∧ SW w g l)
theorem SV.wrow {w : World} {v : Value} {l : List (Int × Int)} (h : SV w v l) : WRow w v l := by
  obtain ⟨p, cap, e, h1, h2, h3⟩ := h
  refine ⟨p, cap, e, h1, h2, fun hl => ?_⟩
  obtain ⟨g, e, hs⟩ := h3 hl
  refine ⟨g, 0, e, fun j x hj => ?_⟩
  obtain ⟨hj', rfl⟩ := List.getElem?_eq_some_iff.1 hj
  obtain ⟨a, b, -, -⟩ := hs j hj'
  simp only [Nat.zero_add]
  exact ⟨a, b⟩
theorem SV.below {w w' : World} {v : Value} {l : List (Int × Int)} (h : SV w v l) (hb : Below w.heap.size w w') : SV w' v l := by
  obtain ⟨p, cap, e, h1, h2, h3⟩ := h
  refine ⟨p, cap, e, h1, h2, fun hl => ?_⟩
  obtain ⟨g, e, hs⟩ := h3 hl
  exact ⟨g, e, hs.below hb⟩

def SortPost (v : Value) (l : List (Int × Int)) (w : World) (e : Ending) (w' : World) : Prop := e = .returned (.tuple #[]) ∧ ∃ l', l'.Perm l ∧ SV w' v l' ∧ Keeps (fun k => some k ≠ v.ownBlock) w w'

set_option maxRecDepth 100000 in
set_option maxHeartbeats 2000000 in
theorem insertion_sv (v : Value) (l : List (Int × Int)) (w : World) (h : SV w v l) (hu : WU l) (hn : l.length ≤ 12) :
    Calls Tryd.prog 58 #[v, (.int .i64 (0)), (.int .i64 (l.length)), .func (.func 23) #[] #[]] w (SortPost v l w) := by
  obtain ⟨p, cap, rfl, h1, h2, h3⟩ := id h
  by_cases h0 : l.length = 0
  · have H := hid h
    have hl := hid h0
    rw [h0]
    clear h h1 h2 h3 h0
    go_enter Tryd.func58, Tryd.ntmps58
    go_wp2_with fail
    refine wp_loop_rounds 1 ?_
    rw [rounds_succ]
    go_wp2_with fail
    go_end0
    refine ⟨rfl, l, List.Perm.refl _, ?_, Keeps.refl _ _⟩
    have := H.out; rw [hl.out] at this; exact this
  · obtain ⟨g, rfl, hs⟩ := h3 (by omega)
    refine (insertion_any g cap l w hs hu hn (by omega)).mono fun e w' ⟨he, l', q1, q2, q3⟩ => ⟨he, l', q1, ⟨some ⟨g, 0, none⟩, cap, by rw [q1.length_eq], by rw [q1.length_eq]; exact h1, fun h => (by cases h), fun _ => ⟨g, rfl, q2⟩⟩, ?_⟩
    refine ⟨q3.os, q3.tape, q3.output, q3.size, fun k hk hkk => q3.block k hk ?_⟩
    intro e
    exact hkk (by simp [Value.ownBlock, e])

set_option maxRecDepth 100000 in
set_option maxHeartbeats 2000000 in
theorem pdq_any (v : Value) (l : List (Int × Int)) (lim : Int) (w : World) (h : SV w v l) (hu : WU l) (hn : l.length ≤ 12) :
    Calls Tryd.prog 51 #[v, (.int .i64 (0)), (.int .i64 (l.length)), (.int .i64 (lim)), .func (.func 23) #[] #[]] w (SortPost v l w) := by
  have C := hid (insertion_sv v l w h hu hn)
  have hn' : (l.length : Int) ≤ 12 := by omega
  clear h hu
  go_enter Tryd.func51, Tryd.ntmps51
  go_wp2_with fail
  refine wp_loop_rounds 1 ?_
  rw [rounds_succ]
  go_wp2_with fail
  ((with_reducible refine (C.out).mono ?_); rintro e w1 ⟨rfl, hp⟩)
  have HP := hid hp; clear hp
  go_wp2_with fail
  go_end0
  exact ⟨rfl, HP.out⟩

set_option maxRecDepth 100000 in
set_option maxHeartbeats 2000000 in
theorem sortfunc_any (v : Value) (l : List (Int × Int)) (w : World) (h : SV w v l) (hu : WU l) (hn : l.length ≤ 12) :
    Calls Tryd.prog 31 #[v, .func (.func 23) #[] #[]] w (SortPost v l w) := by
  have C := hid (fun lim => pdq_any v l lim w h hu hn)
  obtain ⟨p, cap, rfl, h1, h2, h3⟩ := id h
  have hw : IntKind.u64.wrap (l.length : Int) = l.length := wrap_small _ (by omega) (by omega)
  clear h hu h1 h2 h3
  go_enter Tryd.func31, Tryd.ntmps31
  go_wp2_with fail
  refine (Tryd.bits_Len (l.length : Int) _ (by omega) (by omega)).mono ?_
  rintro e w1 ⟨rfl, rfl⟩
  go_wp2_with fail
  ((with_reducible refine (C.out _).mono ?_); rintro e w1 ⟨rfl, hp⟩)
  have HP := hid hp; clear hp
  go_wp2_with fail
  go_end0
  exact ⟨rfl, HP.out⟩
end Go.Proofs.YtdpcfpmlkhdmkaaDoor
