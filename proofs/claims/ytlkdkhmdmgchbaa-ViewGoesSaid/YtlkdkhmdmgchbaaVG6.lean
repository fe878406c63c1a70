/- texts on which the statement stands, part 6. -/
import Derived.Test.YtlkdkhmdmgchbaaVG5
import Derived.Deep.RegionLaw
namespace Go.Proofs.Ytlkdkhmdmgchbaa
set_option linter.unusedSimpArgs false
set_option linter.unusedVariables false
open Go.RowKit
set_option maxRecDepth 100000

theorem uniF_more : ∀ (f g : Nat) (a b : List Pr), a.length + b.length < f → a.length + b.length < g → uniF f a b = uniF g a b
  | 0, g, a, b, h, k => by omega
  | f, 0, a, b, h, k => by omega
  | f + 1, g + 1, [], b, h, k => rfl
  | f + 1, g + 1, x :: a, [], h, k => by
    simp only [uniF]
    rw [uniF_more f g a [] (by simp at h ⊢; omega) (by simp at k ⊢; omega)]
  | f + 1, g + 1, x :: a, y :: b, h, k => by
    simp only [List.length_cons] at h k
    simp only [uniF]
    rw [uniF_more f g a (y :: b) (by simp; omega) (by simp; omega), uniF_more f g (x :: a) b (by simp; omega) (by simp; omega)]
theorem uniL_nil (b : List Pr) : uniL [] b = b := rfl
theorem uniL_both (x y : Pr) (a b : List Pr) : uniL (x :: a) (y :: b) = if lt x y then x :: uniL a (y :: b) else if lt y x then y :: uniL (x :: a) b else uniL a (y :: b) := by
  unfold uniL
  simp only [List.length_cons]
  rw [show a.length + 1 + (b.length + 1) + 1 = (a.length + 1 + b.length + 1) + 1 by omega]
  simp only [uniF]
  rw [uniF_more (a.length + 1 + b.length + 1) (a.length + (b.length + 1) + 1) a (y :: b) (by simp; omega) (by simp)]

theorem step_app1 {ops : Array Oper} {o : Oper} {a : Act} {w : World} {K : Act → World → Prop} {Q : Exit → Act → World → Prop} {E : Prop}
    (hgd : o.guard = none) (s x : Operand) (ho : o.op = .call { callee := .builtin .append, args := #[s, x], argTypes := #[22, 22] }) (B : Nat) (v : Value) (l : List Pr) (c d : Int) (W : World)
    (hs : a.eval s = v) (hx : a.eval x = .slice (some ⟨W.heap.size, 0, none⟩) 1 1) (hw : w = W.alloc (.cells #[.int .u64 c, .int .u64 d] 52)) (own : POwn B W v l) (hB : B ≤ W.heap.size) (hlen : l.length ≤ 100000000)
    (h : ∀ v' w1, POwn B w1 v' (l ++ [(c, d)]) → Below B W w1 → K (a.put o.dst v') w1) : if Region.wanted o (yielded ops a.tmps) = true then Oper.wp Try.prog o a w K Q else E := by
  have hw' : Region.wanted o (yielded ops a.tmps) = true := by simp [Region.wanted, hgd]
  rw [if_pos hw']
  obtain ⟨i, hi, hz0, hz1, hz2⟩ := infoP'
  subst hw
  obtain ⟨v', w', hrun, h1, h2, _⟩ := run_append_own (P := Try.prog) (W.alloc (.cells #[.int .u64 c, .int .u64 d] 52)) B 22 o.type 52 i (.agg #[.int .u64 0, .int .u64 0]) 2 16 Try.underlying22 hi hz0 hz1 hz2 rfl (by decide) v l.length _ (World.ownsRow.alloc own _) ⟨W.heap.size, 0, none⟩ 1 1 [.int .u64 c, .int .u64 d] rfl
    (by
      intro j u hj
      match j, hj with
      | 0, hj => simp at hj; subst hj; simp [Addr.add]
      | 1, hj => simp at hj; subst hj; simp [Addr.add]
      | j + 2, hj => simp at hj)
    (by intro u hu; simp at hu; rcases hu with rfl | rfl <;> rfl) (by unfold maxLen; omega) (by omega) (by simp; omega)
  unfold Oper.wp
  simp [execOp, ho, resolve, invoke, builtin, hs, hx, hrun, Result.andThen]
  refine h v' w' ?_ (Below.of_grown own h2 hB)
  unfold POwn
  rw [flat_append, List.length_append]
  exact h1

def rLen (v : Value) : Nat := match v with | .slice _ n _ => n | _ => 0
structure UniAt (w : World) (all : List Pr) (va vb vo : Value) (la lb lo : List Pr) (W : World) : Prop where
  below : Below w.heap.size w W
  ra : PRow w va la
  rb : PRow w vb lb
  own : POwn w.heap.size W vo lo
  all_ : lo ++ uniL la lb = all
  len : lo.length + la.length + lb.length ≤ 1000000

theorem UniAt.keep {w : World} {all : List Pr} {va vb vo : Value} {la lb lo : List Pr} {W W' : World} (h : UniAt w all va vb vo la lb lo W) (B : Below W.heap.size W W') : UniAt w all va vb vo la lb lo W' :=
  ⟨bel_step h.below B, h.ra, h.rb, h.own.below B, h.all_, h.len⟩
theorem drewBelow {n : Nat} {W W' : World} (h : Below n W.drew W') : Below n W W' := ⟨h.os, h.tape, h.output, h.size, h.block⟩
theorem UniAt.goA {w : World} {all : List Pr} {g o n c : Nat} {vb vo v' : Value} {x : Pr} {la lb lo : List Pr} {W W' : World} (h : UniAt w all (.slice (some ⟨g, o, none⟩) n c) vb vo (x :: la) lb lo W) (h1 : POwn w.heap.size W' v' (lo ++ [x])) (h2 : Below w.heap.size W.drew W')
    (e : lo ++ x :: uniL la lb = all) : UniAt w all (.slice (if c = 1 then some ⟨g, o, none⟩ else some ⟨g, o + 2, none⟩) (n - 1) (c - 1)) vb v' la lb (lo ++ [x]) W' :=
  ⟨h.below.trans (drewBelow h2), h.ra.tail, h.rb, h1, by rw [List.append_assoc]; exact e, by have := h.len; simp only [List.length_cons, List.length_append, List.length_nil] at *; omega⟩
theorem UniAt.goB {w : World} {all : List Pr} {g o n c : Nat} {va vo v' : Value} {x : Pr} {la lb lo : List Pr} {W W' : World} (h : UniAt w all va (.slice (some ⟨g, o, none⟩) n c) vo la (x :: lb) lo W) (h1 : POwn w.heap.size W' v' (lo ++ [x])) (h2 : Below w.heap.size W.drew W')
    (e : lo ++ x :: uniL la lb = all) : UniAt w all va (.slice (if c = 1 then some ⟨g, o, none⟩ else some ⟨g, o + 2, none⟩) (n - 1) (c - 1)) v' la lb (lo ++ [x]) W' :=
  ⟨h.below.trans (drewBelow h2), h.ra, h.rb.tail, h1, by rw [List.append_assoc]; exact e, by have := h.len; simp only [List.length_cons, List.length_append, List.length_nil] at *; omega⟩
theorem UniAt.skip {w : World} {all : List Pr} {g o n c : Nat} {vb vo : Value} {x : Pr} {la lb lo : List Pr} {W : World} (h : UniAt w all (.slice (some ⟨g, o, none⟩) n c) vb vo (x :: la) lb lo W)
    (e : lo ++ uniL la lb = all) : UniAt w all (.slice (if c = 1 then some ⟨g, o, none⟩ else some ⟨g, o + 2, none⟩) (n - 1) (c - 1)) vb vo la lb lo W :=
  ⟨h.below, h.ra.tail, h.rb, h.own, e, by have := h.len; simp only [List.length_cons] at *; omega⟩
abbrev Four (w : World) (g1 o1 g2 o2 : Nat) (x0 x1 y0 y1 : Int) (W : World) : Prop := Below w.heap.size w W ∧ W.cell? ⟨g1, o1, none⟩ = some (.int .u64 (x0)) ∧ W.cell? ⟨g1, o1 + 1, none⟩ = some (.int .u64 (x1)) ∧ W.cell? ⟨g2, o2, none⟩ = some (.int .u64 (y0)) ∧ W.cell? ⟨g2, o2 + 1, none⟩ = some (.int .u64 (y1))
theorem fourB {w : World} {g1 o1 g2 o2 : Nat} {x0 x1 y0 y1 : Int} {W W' : World} (h : Four w g1 o1 g2 o2 x0 x1 y0 y1 W) (B : Below W.heap.size W W') : Four w g1 o1 g2 o2 x0 x1 y0 y1 W' :=
  ⟨bel_step h.1 B, cellB B h.2.1, cellB B h.2.2.1, cellB B h.2.2.2.1, cellB B h.2.2.2.2⟩
set_option maxRecDepth 100000 in
set_option maxHeartbeats 4000000 in
theorem punion_any (w : World) (va vb : Value) (la lb : List Pr) (ra : PRow w va la) (rb : PRow w vb lb) (hlen : la.length + lb.length ≤ 1000000) :
    Calls Try.prog 166 #[va, vb, .func (.func 56) #[] #[]] w fun e w' => (∃ v, e = .returned v ∧ POwn w.heap.size w' v (uniL la lb)) ∧ Below w.heap.size w w' := by
  obtain ⟨all, hall⟩ : ∃ all, uniL la lb = all := ⟨_, rfl⟩
  rw [hall]
  have I0 : Hid (UniAt w all va vb (.slice none 0 0) la lb [] w) := ⟨Below.refl _ _, ra, rb, POwn.nil _ _, hall, by simpa using hlen⟩
  obtain ⟨pa, ka, rfl⟩ := ra.form
  obtain ⟨pb, kb, rfl⟩ := rb.form
  clear hall ra rb hlen
  go_enter Try.func166, Try.ntmps166
  go_wp2_with fail
  go_step3
  go_wp2_with fail
  go_step3
  go_wp2_with fail
  go_loopw [0, 1, 7] (fun v0 v1 v7 wr => ∃ la lb lo, Hid (UniAt w all v0 v1 v7 la lb lo wr)) (fun v0 v1 _ _ => rLen v0 + rLen v1)
  case atStart => exact ⟨la, lb, [], I0⟩
  case round =>
    clear I0
    obtain ⟨la, lb, lo, I⟩ := hrel
    obtain ⟨p0, k0, e0⟩ := I.out.ra.form
    obtain ⟨p1, k1, e1⟩ := I.out.rb.form
    obtain ⟨p7, k7, e7⟩ := I.out.own.row.form
    subst e0 e1 e7
    cases la with
    | nil =>
      simp only [List.length_nil] at I
      go_wp2_with (first | (at_builtin; refine app_row rfl _ _ rfl w.heap.size (.slice p7 lo.length k7) (.slice p1 lb.length k1) lo lb rfl rfl I.out.own (I.out.rb.below I.out.below) I.out.rb.forms I.out.below.size (by have := I.out.len; simp at this ⊢; omega) ?_))
      intro v' w1 h1 h2
      have O1 := hid h1
      have B1 := hid (I.out.below.trans h2)
      obtain ⟨pv, kv, rfl⟩ := h1.row.form
      clear h1 h2
      go_wp2_with fail
      (try rw [Exit.noGoto_ret]); go_ret
      refine ⟨⟨_, rfl, ?_⟩, B1.out⟩
      have := I.out.all_
      rw [uniL_nil] at this
      rw [← this]
      exact O1.out
    | cons x a =>
      obtain ⟨g1, o1, cap1, hv1, hcell1⟩ := (I.out.ra.below I.out.below).cell (by simp)
      simp only [Value.slice.injEq] at hv1
      obtain ⟨rfl, -, rfl⟩ := hv1
      obtain ⟨d0, d1⟩ := hcell1 0 (by simp)
      simp only [Nat.zero_mul, Nat.add_zero, List.getElem_cons_zero] at d0 d1
      clear hcell1
      obtain ⟨n1, hn1⟩ : ∃ n, n = (x :: a).length := ⟨_, rfl⟩
      have ha0 : (0 : Int) < (n1 : Int) := by rw [hn1]; simp
      have ha1 : (1 : Int) ≤ (n1 : Int) := by omega
      have ha2 : 1 ≤ n1 := by omega
      have ha3 : 0 < n1 := by omega
      have ha4 : ((n1 : Int) == 0) = false := by simp; omega
      simp only [← hn1] at I ⊢
      have HN1 := hid hn1; clear hn1
      obtain ⟨x0, x1⟩ := x
      simp only at d0 d1
      have OD := hid (I.out.own.below (below_drew wr))
      have LN : Hid (lo.length ≤ 100000000 ∧ w.heap.size ≤ wr.heap.size) := by
        have := I.out.len
        have := I.out.below.size
        simp only [List.length_cons] at *
        exact ⟨by omega, by omega⟩
      cases lb with
      | nil =>
        simp only [List.length_nil] at I ⊢
        go_wp2_with fail
        go_big_region
        go_wp2_with fail
        have I5 : Hid (UniAt w all (.slice (some ⟨g1, o1, none⟩) n1 k0) (.slice p1 0 k1) (.slice p7 lo.length k7) ((x0, x1) :: a) [] lo wr.drew) := I.out.keep (below_drew wr)
        replace d0 := cellB (below_drew wr) d0
        replace d1 := cellB (below_drew wr) d1
        have EQ : Hid (lo ++ (x0, x1) :: uniL a [] = all) := I.out.all_
        clear I
        generalize wr.drew = w5 at I5 d0 d1 ⊢
        have OD := hid (I5.out.own.below (below_drew w5))
        have LN2 : Hid (w.heap.size ≤ w5.heap.size) := I5.out.below.size
        go_region_law (refine step_app1 rfl (.tmp 32) (.tmp 36) rfl w.heap.size (.slice p7 lo.length k7) lo x0 x1 w5.drew (by simp [Act.eval, Act.put]) (by simp [Act.eval, Act.put]) rfl OD.out LN2.out LN.out.1 ?_; intro v' w1 h1 h2)
        all_goals
          have I6 := hid (I5.out.goA h1 h2 EQ.out)
          clear h1 h2
          generalize (if k0 = 1 then _ else _ : Option Addr) = pp at I6 ⊢
          simp only [List.getElem_toArray, List.getElem_cons_succ, List.getElem_cons_zero, Act.put, List.setIfInBounds_toArray, List.set_cons_zero, List.set_cons_succ]
          go_wp2_with fail
          exact ⟨⟨_, _, _, I6⟩, by simp only [rLen]; omega⟩
      | cons y b =>
        obtain ⟨g, o, cap, hv, hcell⟩ := (I.out.rb.below I.out.below).cell (by simp)
        simp only [Value.slice.injEq] at hv
        obtain ⟨rfl, -, rfl⟩ := hv
        obtain ⟨e0, e1⟩ := hcell 0 (by simp)
        simp only [Nat.zero_mul, Nat.add_zero, List.getElem_cons_zero] at e0 e1
        clear hcell
        obtain ⟨n2, hn2⟩ : ∃ n, n = (y :: b).length := ⟨_, rfl⟩
        have hb0 : (0 : Int) < (n2 : Int) := by rw [hn2]; simp
        have hb1 : (1 : Int) ≤ (n2 : Int) := by omega
        have hb2 : 1 ≤ n2 := by omega
        have hb3 : 0 < n2 := by omega
        have hb4 : ((n2 : Int) == 0) = false := by simp; omega
        simp only [← hn2] at I ⊢
        have HN2 := hid hn2; clear hn2
        obtain ⟨y0, y1⟩ := y
        simp only at e0 e1
        have A := hid (fun W => compare_any x0 x1 y0 y1 W)
        have hlt := hid (pcmp_lt (x0, x1) (y0, y1))
        have hgt := hid (pcmp_gt (x0, x1) (y0, y1))
        obtain ⟨z, hz⟩ : ∃ z, pcmp (x0, x1) (y0, y1) = z := ⟨_, rfl⟩
        have zs := pcmp_small (x0, x1) (y0, y1)
        rw [hz] at A hlt hgt zs
        clear hz
        rcases (show z = -1 ∨ z = 0 ∨ z = 1 by omega) with rfl | rfl | rfl <;> clear zs
        · have EQ : Hid (lo ++ (x0, x1) :: uniL a ((y0, y1) :: b) = all) := by
            have := I.out.all_
            rw [uniL_both, if_pos (hlt.out.1 (by omega))] at this
            exact this
          clear hlt hgt
          go_wp2_with fail
          have st : Four wr g1 o1 g o x0 x1 y0 y1 (wr).drew := ⟨below_drew _, d0, d1, e0, e1⟩
          go_region_held3 (fun W => Below (wr).heap.size wr W ∧ W.cell? ⟨g1, o1, none⟩ = some (.int .u64 (x0)) ∧ W.cell? ⟨g1, o1 + 1, none⟩ = some (.int .u64 (x1)) ∧ W.cell? ⟨g, o, none⟩ = some (.int .u64 (y0)) ∧ W.cell? ⟨g, o + 1, none⟩ = some (.int .u64 (y1))) (first | assumption | go_keep)
            (first | (go_at_call 56; refine (A.out _).mono ?_; rintro e w5 ⟨rfl, B⟩; have hx := fourB st B; clear B))
          all_goals
            have ST : Hid (Four wr g1 o1 g o x0 x1 y0 y1 w5) := (by assumption : Four wr g1 o1 g o x0 x1 y0 y1 w5)
            clear st
          have I5 := hid (I.out.keep ST.out.1)
          clear I d0 d1 e0 e1
          obtain ⟨-, d0, d1, e0, e1⟩ := ST.out
          go_wp2_with fail
          have OD := hid (I5.out.own.below (below_drew w5))
          have LN2 : Hid (w.heap.size ≤ w5.heap.size) := I5.out.below.size
          go_region_law (refine step_app1 rfl (.tmp 32) (.tmp 36) rfl w.heap.size (.slice p7 lo.length k7) lo x0 x1 w5.drew (by simp [Act.eval, Act.put]) (by simp [Act.eval, Act.put]) rfl OD.out LN2.out LN.out.1 ?_; intro v' w1 h1 h2)
          all_goals
            have I6 := hid (I5.out.goA h1 h2 EQ.out)
            clear h1 h2
            generalize (if k0 = 1 then _ else _ : Option Addr) = pp at I6 ⊢
            simp only [List.getElem_toArray, List.getElem_cons_succ, List.getElem_cons_zero, Act.put, List.setIfInBounds_toArray, List.set_cons_zero, List.set_cons_succ]
            go_wp2_with fail
            exact ⟨⟨_, _, _, I6⟩, by simp only [rLen]; omega⟩
        · have EQ : Hid (lo ++ uniL a ((y0, y1) :: b) = all) := by
            have := I.out.all_
            rw [uniL_both, if_neg (fun h => by have := hlt.out.2 h; omega), if_neg (fun h => by have := hgt.out.2 h; omega)] at this
            exact this
          clear hlt hgt
          go_wp2_with fail
          have st : Four wr g1 o1 g o x0 x1 y0 y1 (wr).drew := ⟨below_drew _, d0, d1, e0, e1⟩
          go_region_held3 (fun W => Below (wr).heap.size wr W ∧ W.cell? ⟨g1, o1, none⟩ = some (.int .u64 (x0)) ∧ W.cell? ⟨g1, o1 + 1, none⟩ = some (.int .u64 (x1)) ∧ W.cell? ⟨g, o, none⟩ = some (.int .u64 (y0)) ∧ W.cell? ⟨g, o + 1, none⟩ = some (.int .u64 (y1))) (first | assumption | go_keep)
            (first | (go_at_call 56; refine (A.out _).mono ?_; rintro e w4 ⟨rfl, B⟩; have hx := fourB st B; clear B))
          all_goals
            have ST : Hid (Four wr g1 o1 g o x0 x1 y0 y1 w4) := (by assumption : Four wr g1 o1 g o x0 x1 y0 y1 w4)
            clear st
          have I4 := hid (I.out.keep ST.out.1)
          clear I d0 d1 e0 e1
          obtain ⟨-, d0, d1, e0, e1⟩ := ST.out
          go_wp2_with fail
          have st : Four w4 g1 o1 g o x0 x1 y0 y1 (w4).drew := ⟨below_drew _, d0, d1, e0, e1⟩
          go_region_held3 (fun W => Below (w4).heap.size w4 W ∧ W.cell? ⟨g1, o1, none⟩ = some (.int .u64 (x0)) ∧ W.cell? ⟨g1, o1 + 1, none⟩ = some (.int .u64 (x1)) ∧ W.cell? ⟨g, o, none⟩ = some (.int .u64 (y0)) ∧ W.cell? ⟨g, o + 1, none⟩ = some (.int .u64 (y1))) (first | assumption | go_keep)
            (first | (go_at_call 56; refine (A.out _).mono ?_; rintro e w5 ⟨rfl, B⟩; have hx := fourB st B; clear B))
          all_goals
            have ST : Hid (Four w4 g1 o1 g o x0 x1 y0 y1 w5) := (by assumption : Four w4 g1 o1 g o x0 x1 y0 y1 w5)
            clear st
          have I5 := hid (I4.out.keep ST.out.1)
          clear I4 d0 d1 e0 e1
          obtain ⟨-, d0, d1, e0, e1⟩ := ST.out
          have I6 := hid (I5.out.skip EQ.out)
          generalize hpp : (if k0 = 1 then _ else _ : Option Addr) = pp at I6
          go_wp2_with fail
          (try rw [hpp])
          exact ⟨⟨_, _, _, I6⟩, by simp only [rLen]; omega⟩
        · have EQ : Hid (lo ++ (y0, y1) :: uniL ((x0, x1) :: a) b = all) := by
            have := I.out.all_
            rw [uniL_both, if_neg (fun h => by have := hlt.out.2 h; omega), if_pos (hgt.out.1 (by omega))] at this
            exact this
          clear hlt hgt
          go_wp2_with fail
          have st : Four wr g1 o1 g o x0 x1 y0 y1 (wr).drew := ⟨below_drew _, d0, d1, e0, e1⟩
          go_region_held3 (fun W => Below (wr).heap.size wr W ∧ W.cell? ⟨g1, o1, none⟩ = some (.int .u64 (x0)) ∧ W.cell? ⟨g1, o1 + 1, none⟩ = some (.int .u64 (x1)) ∧ W.cell? ⟨g, o, none⟩ = some (.int .u64 (y0)) ∧ W.cell? ⟨g, o + 1, none⟩ = some (.int .u64 (y1))) (first | assumption | go_keep)
            (first | (go_at_call 56; refine (A.out _).mono ?_; rintro e w4 ⟨rfl, B⟩; have hx := fourB st B; clear B))
          all_goals
            have ST : Hid (Four wr g1 o1 g o x0 x1 y0 y1 w4) := (by assumption : Four wr g1 o1 g o x0 x1 y0 y1 w4)
            clear st
          have I4 := hid (I.out.keep ST.out.1)
          clear I d0 d1 e0 e1
          obtain ⟨-, d0, d1, e0, e1⟩ := ST.out
          go_wp2_with fail
          have st : Four w4 g1 o1 g o x0 x1 y0 y1 (w4).drew := ⟨below_drew _, d0, d1, e0, e1⟩
          go_region_held3 (fun W => Below (w4).heap.size w4 W ∧ W.cell? ⟨g1, o1, none⟩ = some (.int .u64 (x0)) ∧ W.cell? ⟨g1, o1 + 1, none⟩ = some (.int .u64 (x1)) ∧ W.cell? ⟨g, o, none⟩ = some (.int .u64 (y0)) ∧ W.cell? ⟨g, o + 1, none⟩ = some (.int .u64 (y1))) (first | assumption | go_keep)
            (first | (go_at_call 56; refine (A.out _).mono ?_; rintro e w5 ⟨rfl, B⟩; have hx := fourB st B; clear B))
          all_goals
            have ST : Hid (Four w4 g1 o1 g o x0 x1 y0 y1 w5) := (by assumption : Four w4 g1 o1 g o x0 x1 y0 y1 w5)
            clear st
          have I5 := hid (I4.out.keep ST.out.1)
          clear I4 d0 d1 e0 e1
          obtain ⟨-, d0, d1, e0, e1⟩ := ST.out
          go_wp2_with fail
          have OD := hid (I5.out.own.below (below_drew w5))
          have LN2 : Hid (w.heap.size ≤ w5.heap.size) := I5.out.below.size
          go_region_law (refine step_app1 rfl (.tmp 50) (.tmp 54) rfl w.heap.size (.slice p7 lo.length k7) lo y0 y1 w5.drew (by simp [Act.eval, Act.put]) (by simp [Act.eval, Act.put]) rfl OD.out LN2.out LN.out.1 ?_; intro v' w1 h1 h2)
          all_goals
            have I6 := hid (I5.out.goB h1 h2 EQ.out)
            clear h1 h2
            generalize (if k1 = 1 then _ else _ : Option Addr) = pp at I6 ⊢
            simp only [List.getElem_toArray, List.getElem_cons_succ, List.getElem_cons_zero, Act.put, List.setIfInBounds_toArray, List.set_cons_zero, List.set_cons_succ]
            go_wp2_with fail
            exact ⟨⟨_, _, _, I6⟩, by simp only [rLen]; omega⟩
end Go.Proofs.Ytlkdkhmdmgchbaa
