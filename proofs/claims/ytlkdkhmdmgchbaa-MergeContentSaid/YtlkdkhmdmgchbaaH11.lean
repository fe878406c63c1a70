/- the program's merges: says. -/
import Derived.Test.YtlkdkhmdmgchbaaH10
import Derived.WalkMore
import Derived.Laws.EntriesVeiled
namespace Go.Proofs.Ytlkdkhmdmgchbaa
set_option linter.unusedSimpArgs false
set_option linter.unusedVariables false
open Go.RowKit Go.Shelf
attribute [local go_sem] Oper.semAt_some

set_option maxRecDepth 100000 in
theorem in_any (v : Value) (l : List Pr) (p0 p1 : Int) (w : World) (h : PRow w v l) (hr : Rises l) (hn : l.length ≤ 100000000) :
    Calls Try.prog 167 #[v, .agg #[(.int .u64 (p0)), (.int .u64 (p1))]] w fun e w' => e = .returned (.bool (decide ((p0, p1) ∈ l))) ∧ Below w.heap.size w w' := by
  have SE := hid (fun W (B : Below w.heap.size w W) => search_any v l p0 p1 W (h.below B) hr hn)
  obtain ⟨p, cap, rfl⟩ := h.form
  clear h hr hn
  go_enter Try.func167, Try.ntmps167
  go_wp2_with fail
  refine (SE.out _ (below_alloc _ _)).mono ?_
  rintro e w1 ⟨rfl, B⟩
  have B1 := hid (blift B)
  clear B SE
  go_wp2_with fail
  go_ret
  exact ⟨rfl, B1.out⟩
theorem says_makes (oA oD nA nD uA uD : Value) (ob : Bool) (n : Int) (p : Option Addr) (k c : Nat) (w : World) : Calls Try.prog 149 #[mval oA oD nA nD uA uD ob n, .slice p k c] w fun e w' =>
    e = .returned (.func (.func 168) #[] #[.pointer (some ⟨(w.heap.size + 1), 0, none⟩), .pointer (some ⟨(w.heap.size + 1 + 1), 0, none⟩), .pointer (some ⟨w.heap.size, 0, none⟩)]) ∧
      ((w.alloc (.cells #[oA, oD, nA, nD, .bool ob, .int .i64 n, uA, uD] 26)).alloc (.cells #[.slice p k c] 22)).alloc (.cells #[.func (.func 167) #[] #[]] 84) = w' := by
  have hmf := @hmf
  unfold mval
  go_enter Try.func149, Try.ntmps149
  go_wp2_with fail
  go_ret
  exact ⟨rfl, rfl⟩

/-- what says tells. -/
abbrev Said := Pr × Bool
def encS (q : Said) : Array Value := #[.agg #[(.int .u64 (q.1.1)), (.int .u64 (q.1.2))], .bool q.2]
def saidL (t u : Tr) (l : List Pr) : List Said := l.map (fun p => (p, addsL t u p))
theorem saidL_take (t u : Tr) {l : List Pr} {k : Nat} {x : Pr} (h : l.take (k + 1) = l.take k ++ [x]) : saidL t u (l.take (k + 1)) = saidL t u (l.take k) ++ [(x, addsL t u x)] := by unfold saidL; rw [h, List.map_append]; rfl
/-- the iterator's three boxes: the merge's rows, the row, the test. The rows lie among the first blocks. -/
structure SAt (w0 : World) (bl bi bm : Nat) (vl oA nA nD : Value) (l : List Pr) (t u : Tr) (W : World) : Prop where
  base : Base w0 W
  lt : w0.heap.size ≤ W.heap.size
  cl : W.cell? ⟨bl, 0, none⟩ = some vl
  ci : W.cell? ⟨bi, 0, none⟩ = some (.func (.func 167) #[] #[])
  c0 : W.cell? ⟨bm, 0, none⟩ = some oA
  c2 : W.cell? ⟨bm, 2, none⟩ = some nA
  c3 : W.cell? ⟨bm, 3, none⟩ = some nD
  rl : PRow w0 vl l
  rA : PRow w0 oA t.1
  rB : PRow w0 nA u.1
  rD : PRow w0 nD u.2
def sKp (w0 : World) (bl bi bm : Nat) (W W' : World) : Prop := W.heap.size ≤ W'.heap.size ∧ ∀ k, (k < w0.heap.size ∨ k = bl ∨ k = bi ∨ k = bm) → W'.heap[k]? = W.heap[k]?
theorem SAt.kp {w0 : World} {bl bi bm : Nat} {vl oA nA nD : Value} {l : List Pr} {t u : Tr} {W W' : World} (h : SAt w0 bl bi bm vl oA nA nD l t u W) (k : sKp w0 bl bi bm W W') : SAt w0 bl bi bm vl oA nA nD l t u W' :=
  ⟨fun i hi => (k.2 i (.inl hi)).trans (h.base i hi), Nat.le_trans h.lt k.1, (World.cell?_of_block (a := ⟨bl, 0, none⟩) (k.2 bl (by simp))).trans h.cl, (World.cell?_of_block (a := ⟨bi, 0, none⟩) (k.2 bi (by simp))).trans h.ci,
    (World.cell?_of_block (a := ⟨bm, 0, none⟩) (k.2 bm (by simp))).trans h.c0, (World.cell?_of_block (a := ⟨bm, 2, none⟩) (k.2 bm (by simp))).trans h.c2, (World.cell?_of_block (a := ⟨bm, 3, none⟩) (k.2 bm (by simp))).trans h.c3, h.rl, h.rA, h.rB, h.rD⟩
theorem SAt.below {w0 : World} {bl bi bm : Nat} {vl oA nA nD : Value} {l : List Pr} {t u : Tr} {W W' : World} (h : SAt w0 bl bi bm vl oA nA nD l t u W) (B : Below W.heap.size W W') : SAt w0 bl bi bm vl oA nA nD l t u W' := by
  refine h.kp ⟨B.size, ?_⟩
  have h1 := World.lt_of_cell h.cl
  have h2 := World.lt_of_cell h.ci
  have h3 := World.lt_of_cell h.c0
  have := h.lt
  rintro k (h | rfl | rfl | rfl) <;> exact B.block _ (by omega)

set_option maxRecDepth 100000 in
set_option maxHeartbeats 4000000 in
theorem says_iter (w0 : World) (bl bi bm : Nat) (vl oA nA nD : Value) (l : List Pr) (t u : Tr) (all : List Said) (hall : saidL t u l = all) (r1 : Rises t.1) (r2 : Rises u.1) (r3 : Rises u.2)
    (l1 : t.1.length ≤ 100000000) (l2 : u.1.length ≤ 100000000) (l3 : u.2.length ≤ 100000000) :
    Iter Try.prog 168 #[.pointer (some ⟨bl, 0, none⟩), .pointer (some ⟨bi, 0, none⟩), .pointer (some ⟨bm, 0, none⟩)] encS (fun _ => True) (SAt w0 bl bi bm vl oA nA nD l t u) (sKp w0 bl bi bm)
      (fun pre x => pre ++ [x] <+: all) (fun xs => xs = all) (fun pre => pre <+: all) := by
  intro y J Jx W hW hJ hJx hY h0
  have HJ := hid hJ
  have HJx := hid hJx
  have HY := hid hY
  clear hJ hJx hY
  obtain ⟨p, cap, rfl⟩ := hW.rl.form
  obtain ⟨pA, cA, rfl⟩ := hW.rA.form
  obtain ⟨pB, cB, rfl⟩ := hW.rB.form
  obtain ⟨pD, cD, rfl⟩ := hW.rD.form
  have HLN := hid hW.rl.len
  have QA := hid (fun W (b : Base w0 W) a c => in_any _ _ a c W (hW.rA.base b) r1 l1)
  have QB := hid (fun W (b : Base w0 W) a c => in_any _ _ a c W (hW.rB.base b) r2 l2)
  have QD := hid (fun W (b : Base w0 W) a c => in_any _ _ a c W (hW.rD.base b) r3 l3)
  refine callsIn_of_wp Try.func168 rfl trivial ?_ rfl
  simp only [Try.ntmps168, List.size_toArray, List.length_cons, List.length_nil, Nat.reduceAdd, Nat.reduceSub, Array.replicate_succ, Array.replicate_zero, List.push_toArray, List.append_toArray, List.nil_append, List.cons_append]
  have HA := hid hall; clear hall
  have cl := hW.cl
  have HW := hid hW; clear hW
  have H0 := hid h0; clear h0
  refine wpIn_wide.2 ?_
  go_wp2_with fail
  clear cl
  go_loopw [10] (fun v10 wr => ∃ k : Nat, v10 = (.int .i64 (k)) ∧ k ≤ l.length ∧ Hid (SAt w0 bl bi bm (.slice p l.length cap) (.slice pA t.1.length cA) (.slice pB u.1.length cB) (.slice pD u.2.length cD) l t u wr) ∧ Hid (J (saidL t u (l.take k)) wr)) (fun v10 _ => l.length - (intOf v10).toNat)
  case atStart => exact ⟨0, rfl, Nat.zero_le _, HW, H0⟩
  case round =>
    clear HW H0
    obtain ⟨k, rfl, hk, H, HP⟩ := hrel
    by_cases hgo : k < l.length
    · have hgo' : (k : Int) < (l.length : Int) := by omega
      have hwk : IntKind.i64.wrap ((k : Int) + 1) = ((k + 1 : Nat) : Int) := by have := HLN.out; rw [i64_ok _ (by omega) (by omega)]; omega
      obtain ⟨g, o, cap', hv, hcell⟩ := (H.out.rl.base H.out.base).cell (by omega)
      simp only [Value.slice.injEq] at hv
      obtain ⟨hv, -, -⟩ := hv
      subst hv
      obtain ⟨d0, d1⟩ := hcell k hgo
      have ts := List.take_succ_eq_append_getElem hgo
      obtain ⟨x, hx⟩ : ∃ x, l[k] = x := ⟨_, rfl⟩
      rw [hx] at d0 d1 ts
      have TS := hid (saidL_take t u ts)
      clear hx hcell ts
      obtain ⟨x0, x1⟩ := x
      simp only at d0 d1
      have s3 := World.lt_of_cell d0
      have ci := H.out.ci
      have c0 := H.out.c0
      have c2 := H.out.c2
      have c3 := H.out.c3
      have s1 := World.lt_of_cell ci
      have s2 := World.lt_of_cell c0
      have HP' := hid (HJ.out _ _ _ HP.out (Keeps.of_below (below_alloc wr (.cells #[(.int .u64 (x0)), (.int .u64 (x1))] 52))))
      have H' := hid (H.out.below (below_alloc wr (.cells #[(.int .u64 (x0)), (.int .u64 (x1))] 52)))
      have bE := hid (Bx.new wr x0 x1 52)
      have AD : Hid (addsL t u (x0, x1) = (decide ((x0, x1) ∈ u.1) || (decide ((x0, x1) ∈ t.1) && !decide ((x0, x1) ∈ u.2)))) := rfl
      rw [AD.out] at TS
      clear AD
      replace QA := hid (fun W (b : Base w0 W) => QA.out W b x0 x1)
      replace QB := hid (fun W (b : Base w0 W) => QB.out W b x0 x1)
      replace QD := hid (fun W (b : Base w0 W) => QD.out W b x0 x1)
      generalize decide ((x0, x1) ∈ u.1) = b1 at *
      generalize decide ((x0, x1) ∈ t.1) = b2 at *
      generalize decide ((x0, x1) ∈ u.2) = b3 at *
      go_wp2_with fail
      refine (QB.out _ H'.out.base).mono ?_
      rintro e w1 ⟨rfl, B⟩
      replace bE := hid (bE.out.keep B)
      replace H' := hid (H'.out.below B)
      replace HP' := hid (HJ.out _ _ _ HP'.out (Keeps.of_below B))
      clear B
      have ci := H'.out.ci
      have c0 := H'.out.c0
      have c2 := H'.out.c2
      have c3 := H'.out.c3
      have s1 := World.lt_of_cell ci
      have s2 := World.lt_of_cell c0
      obtain ⟨e0, e1, e2⟩ := bE.out
      cases b1
      · go_wp2_with fail
        refine (QA.out _ H'.out.base).mono ?_
        rintro e w2 ⟨rfl, B⟩
        replace bE := hid (bE.out.keep B)
        clear ci c0 c2 c3 s1 s2 d0 d1 s3 e0 e1 e2
        replace H' := hid (H'.out.below B)
        replace HP' := hid (HJ.out _ _ _ HP'.out (Keeps.of_below B))
        clear B
        have ci := H'.out.ci
        have c0 := H'.out.c0
        have c2 := H'.out.c2
        have c3 := H'.out.c3
        have s1 := World.lt_of_cell ci
        have s2 := World.lt_of_cell c0
        obtain ⟨e0, e1, e2⟩ := bE.out
        cases b2
        · have hT : saidL t u (l.take (k + 1)) = saidL t u (l.take k) ++ [((x0, x1), false)] := TS.out
          have PF : saidL t u (l.take k) ++ [((x0, x1), false)] <+: all := by
            rw [← hT, ← HA.out]
            exact List.IsPrefix.map _ (List.take_prefix _ _)
          have HT := hid hT
          have HPF := hid PF
          clear hT PF
          obtain ⟨fn, tmps, assign, body, hy, hR⟩ := HY.out _ ((x0, x1), false) _ HP'.out HPF.out
          have HR := hid hR; clear hR
          unfold encS at hy
          simp only at hy
          go_upto_region 4 with fail
          refine (wpIn_wide (n := 9)).1 ?_
          gi_wp2_with fail
          refine HR.out.mono ?_
          rintro e w8 (⟨rfl, hj4, hk8⟩ | ⟨rfl, hj4⟩)
          · have H8 := hid (H'.out.kp hk8)
            rw [← HT.out] at hj4
            have HJ8 := hid hj4
            clear ci c0 c2 c3 s1 s2 e0 e1 e2 hy hk8
            gi_wp2_with fail
            (try go_wp2_with fail)
            exact ⟨⟨k + 1, by simp, hgo, H8, HJ8⟩, by simp [intOf]; omega⟩
          · gi_wp2_with fail
            (try go_wp2_with fail)
            (try rw [Exit.noGoto_ret]); (try rw [Exit.noGoto_normal])
            refine bodyPost_ret (results_none rfl _ _ _) rfl ?_
            exact ⟨⟨_, rfl⟩, .inr ⟨_, HPF.out, hj4⟩⟩
        · go_wp2_with fail
          refine (QD.out _ H'.out.base).mono ?_
          rintro e w3 ⟨rfl, B⟩
          replace bE := hid (bE.out.keep B)
          clear ci c0 c2 c3 s1 s2 e0 e1 e2
          replace H' := hid (H'.out.below B)
          replace HP' := hid (HJ.out _ _ _ HP'.out (Keeps.of_below B))
          clear B
          have ci := H'.out.ci
          have c0 := H'.out.c0
          have c2 := H'.out.c2
          have c3 := H'.out.c3
          have s1 := World.lt_of_cell ci
          have s2 := World.lt_of_cell c0
          obtain ⟨e0, e1, e2⟩ := bE.out
          cases b3
          · have hT : saidL t u (l.take (k + 1)) = saidL t u (l.take k) ++ [((x0, x1), true)] := TS.out
            have PF : saidL t u (l.take k) ++ [((x0, x1), true)] <+: all := by
              rw [← hT, ← HA.out]
              exact List.IsPrefix.map _ (List.take_prefix _ _)
            have HT := hid hT
            have HPF := hid PF
            clear hT PF
            obtain ⟨fn, tmps, assign, body, hy, hR⟩ := HY.out _ ((x0, x1), true) _ HP'.out HPF.out
            have HR := hid hR; clear hR
            unfold encS at hy
            simp only at hy
            go_upto_region 4 with fail
            refine (wpIn_wide (n := 9)).1 ?_
            gi_wp2_with fail
            refine HR.out.mono ?_
            rintro e w8 (⟨rfl, hj4, hk8⟩ | ⟨rfl, hj4⟩)
            · have H8 := hid (H'.out.kp hk8)
              rw [← HT.out] at hj4
              have HJ8 := hid hj4
              clear ci c0 c2 c3 s1 s2 e0 e1 e2 hy hk8
              gi_wp2_with fail
              (try go_wp2_with fail)
              exact ⟨⟨k + 1, by simp, hgo, H8, HJ8⟩, by simp [intOf]; omega⟩
            · gi_wp2_with fail
              (try go_wp2_with fail)
              (try rw [Exit.noGoto_ret]); (try rw [Exit.noGoto_normal])
              refine bodyPost_ret (results_none rfl _ _ _) rfl ?_
              exact ⟨⟨_, rfl⟩, .inr ⟨_, HPF.out, hj4⟩⟩
          · have hT : saidL t u (l.take (k + 1)) = saidL t u (l.take k) ++ [((x0, x1), false)] := TS.out
            have PF : saidL t u (l.take k) ++ [((x0, x1), false)] <+: all := by
              rw [← hT, ← HA.out]
              exact List.IsPrefix.map _ (List.take_prefix _ _)
            have HT := hid hT
            have HPF := hid PF
            clear hT PF
            obtain ⟨fn, tmps, assign, body, hy, hR⟩ := HY.out _ ((x0, x1), false) _ HP'.out HPF.out
            have HR := hid hR; clear hR
            unfold encS at hy
            simp only at hy
            go_upto_region 4 with fail
            refine (wpIn_wide (n := 9)).1 ?_
            gi_wp2_with fail
            refine HR.out.mono ?_
            rintro e w8 (⟨rfl, hj4, hk8⟩ | ⟨rfl, hj4⟩)
            · have H8 := hid (H'.out.kp hk8)
              rw [← HT.out] at hj4
              have HJ8 := hid hj4
              clear ci c0 c2 c3 s1 s2 e0 e1 e2 hy hk8
              gi_wp2_with fail
              (try go_wp2_with fail)
              exact ⟨⟨k + 1, by simp, hgo, H8, HJ8⟩, by simp [intOf]; omega⟩
            · gi_wp2_with fail
              (try go_wp2_with fail)
              (try rw [Exit.noGoto_ret]); (try rw [Exit.noGoto_normal])
              refine bodyPost_ret (results_none rfl _ _ _) rfl ?_
              exact ⟨⟨_, rfl⟩, .inr ⟨_, HPF.out, hj4⟩⟩
      · have hT : saidL t u (l.take (k + 1)) = saidL t u (l.take k) ++ [((x0, x1), true)] := TS.out
        have PF : saidL t u (l.take k) ++ [((x0, x1), true)] <+: all := by
          rw [← hT, ← HA.out]
          exact List.IsPrefix.map _ (List.take_prefix _ _)
        have HT := hid hT
        have HPF := hid PF
        clear hT PF
        obtain ⟨fn, tmps, assign, body, hy, hR⟩ := HY.out _ ((x0, x1), true) _ HP'.out HPF.out
        have HR := hid hR; clear hR
        unfold encS at hy
        simp only at hy
        go_upto_region 4 with fail
        refine (wpIn_wide (n := 9)).1 ?_
        gi_wp2_with fail
        refine HR.out.mono ?_
        rintro e w8 (⟨rfl, hj4, hk8⟩ | ⟨rfl, hj4⟩)
        · have H8 := hid (H'.out.kp hk8)
          rw [← HT.out] at hj4
          have HJ8 := hid hj4
          clear ci c0 c2 c3 s1 s2 e0 e1 e2 hy hk8
          gi_wp2_with fail
          (try go_wp2_with fail)
          exact ⟨⟨k + 1, by simp, hgo, H8, HJ8⟩, by simp [intOf]; omega⟩
        · gi_wp2_with fail
          (try go_wp2_with fail)
          (try rw [Exit.noGoto_ret]); (try rw [Exit.noGoto_normal])
          refine bodyPost_ret (results_none rfl _ _ _) rfl ?_
          exact ⟨⟨_, rfl⟩, .inr ⟨_, HPF.out, hj4⟩⟩
    · obtain rfl : k = l.length := by omega
      have h1 : ¬ (l.length : Int) < (l.length : Int) := by omega
      rw [List.take_length] at HP
      go_wp2_with fail
      (try rw [Exit.noGoto_ret]); (try rw [Exit.noGoto_normal])
      go_end0
      exact ⟨⟨_, rfl⟩, .inl (by have := HP.out; rw [HA.out] at this; exact this)⟩
end Go.Proofs.Ytlkdkhmdmgchbaa
