/- texts on which the statement stands, part 5. -/
import Derived.Test.YtlkdkhmdmgchbaaVG4
import Derived.Deep.RegionHeld3
namespace Go.Proofs.Ytlkdkhmdmgchbaa
set_option linter.unusedSimpArgs false
set_option linter.unusedVariables false
open Go.RowKit
set_option maxRecDepth 100000

set_option maxRecDepth 100000 in
theorem both_any (x y : Bool) (w : World) : Calls Try.prog 133 #[.agg #[.bool x, .bool y]] w fun e w' => e = .returned (.bool (x && y)) ∧ Below w.heap.size w w' := by
  cases x <;> cases y
  all_goals
    go_enter Try.func133, Try.ntmps133
    go_wp2_with fail
    go_ret
    refine ⟨rfl, ?_⟩
    repeat' (first | exact Below.refl _ _ | with_reducible refine Below.alloc ?_ ?_ _ | with_reducible refine Below.setCell ?_ ?_ _ | with_reducible refine Below.drew ?_ | with_reducible refine below_drewN ?_ _ | refine Below.trans ?_ (Below.mono (by assumption) ?_))
    all_goals (first | omega | (simp <;> omega))
theorem merged_any (p1 p2 : Option Addr) (n1 k1 n2 k2 : Nat) (w : World) : Calls Try.prog 159 #[.slice p1 n1 k1, .slice p2 n2 k2] w fun e w' =>
    e = .returned (.func (.func 174) #[] #[.pointer (some ⟨w.heap.size, 0, none⟩), .pointer (some ⟨(w.heap.size + 1), 0, none⟩)]) ∧ (w.alloc (.cells #[.slice p1 n1 k1] 22)).alloc (.cells #[.slice p2 n2 k2] 22) = w' := by
  have hmf := @hmf
  go_enter Try.func159, Try.ntmps159
  go_wp2_with fail
  go_ret
  exact ⟨rfl, rfl⟩

theorem holds_any (x y u v : Bool) (s0 : Nat) (w : World) (h0 : w.cell? ⟨s0, 0, none⟩ = some (.bool u)) (h1 : w.cell? ⟨s0, 1, none⟩ = some (.bool v)) (f0 : w.frozen? ⟨s0, 0, none⟩ = false) (f1 : w.frozen? ⟨s0, 1, none⟩ = false) :
    Calls Try.prog 132 #[.agg #[.bool x, .bool y], .pointer (some ⟨s0, 0, none⟩)] w fun e w' => e = .returned (.bool (x && y)) ∧ Keeps (fun k => k ≠ s0) w w' ∧
      w'.cell? ⟨s0, 0, none⟩ = some (.bool x) ∧ w'.cell? ⟨s0, 1, none⟩ = some (.bool y) ∧ w'.frozen? ⟨s0, 0, none⟩ = false ∧ w'.frozen? ⟨s0, 1, none⟩ = false := by
  have hmf := @hmf
  have hs := World.lt_of_cell h0
  go_enter Try.func132, Try.ntmps132
  go_wp2_with fail
  refine (both_any x y _).mono ?_
  rintro e w1 ⟨rfl, B⟩
  have hsz := B.size
  simp at hsz
  have k : Keeps (fun k => k ≠ s0) w w1 := by
    refine Keeps.trans ?_ (Keeps.of_below B)
    repeat' (first | exact Keeps.refl _ _ | with_reducible refine Keeps.alloc ?_ _ | with_reducible refine Keeps.setCell ?_ (Or.inr (by simp)) _)
  have K := hid k; clear k
  have r0 : w1.cell? ⟨s0, 0, none⟩ = some (.bool x) := cellB B (by go_simp)
  have r1 : w1.cell? ⟨s0, 1, none⟩ = some (.bool y) := cellB B (by go_simp)
  have r2 : w1.frozen? ⟨s0, 0, none⟩ = false := (B.frozen (p := ⟨s0, 0, none⟩) (by simp; omega)).trans (by go_simp)
  have r3 : w1.frozen? ⟨s0, 1, none⟩ = false := (B.frozen (p := ⟨s0, 1, none⟩) (by simp; omega)).trans (by go_simp)
  go_wp2_with fail
  go_ret
  exact ⟨rfl, K.out, r0, r1, r2, r3⟩
end Go.Proofs.Ytlkdkhmdmgchbaa
namespace Go.Proofs.Ytlkdkhmdmgchbaa
set_option linter.unusedSimpArgs false
set_option linter.unusedVariables false
open Go.RowKit Go.Shelf
attribute [local go_sem] Oper.semAt_some
set_option maxRecDepth 100000

structure HoldsC (fh : Nat) (caps : Array Value) (f : Bool → Bool → Bool) (C : Nat → Prop) (PreH : World → Prop) : Prop where
  enters : ∀ args w, (callFunc fh args).run Try.prog w = .ok (.enter fh args) w
  call : ∀ x y W, PreH W → Calls Try.prog fh (#[.agg #[.bool x, .bool y]] ++ caps) W fun e W' => e = .returned (.bool (f x y)) ∧ Keeps (fun k => ¬ C k) W W' ∧ PreH W'
  keep : ∀ W W', PreH W → Keeps C W W' → PreH W'
def keptT (f : Bool → Bool → Bool) (l : List Told) : List Pr := (l.filter (fun q => f q.2.1 q.2.2)).map (·.1)
theorem keptT_snoc (f : Bool → Bool → Bool) (l : List Told) (q : Told) : keptT f (l ++ [q]) = keptT f l ++ (if f q.2.1 q.2.2 then [q.1] else []) := by
  unfold keptT
  rw [List.filter_append, List.map_append, List.filter_cons, List.filter_nil]
  split <;> rfl
theorem keptT_len (f : Bool → Bool → Bool) (l : List Told) : (keptT f l).length ≤ l.length := by
  unfold keptT; rw [List.length_map]; exact List.length_filter_le _ _
structure KeptI (w : World) (C : Nat → Prop) (PreH : World → Prop) (D o5 o8 : Nat) (hv : Value) (f : Bool → Bool → Bool) (pre : List Told) (W : World) : Prop where
  keep : Keeps (fun k => k < w.heap.size ∧ ¬ C k) w W
  hp : PreH W
  box : W.cell? ⟨o5, 0, none⟩ = some hv
  fr : W.frozen? ⟨o8, 0, none⟩ = false
  out : ∃ v, W.cell? ⟨o8, 0, none⟩ = some v ∧ POwn (D + 2) W v (keptT f pre)
theorem KeptI.keeps {w : World} {C : Nat → Prop} {PreH : World → Prop} {D o5 o8 : Nat} {hv : Value} {f : Bool → Bool → Bool} {pre : List Told} {W W' : World} (h : KeptI w C PreH D o5 o8 hv f pre W)
    (hk : ∀ W W', PreH W → Keeps C W W' → PreH W') {K : Nat → Prop} (k : Keeps K W W') (k1 : ∀ i, i < w.heap.size → K i) (k5 : K o5) (k8 : K o8) (kD : ∀ i, D + 2 ≤ i → K i) (kC : ∀ i, C i → i < w.heap.size) : KeptI w C PreH D o5 o8 hv f pre W' := by
  have hs := h.keep.size
  obtain ⟨v, c, own⟩ := h.out
  have l5 := World.lt_of_cell h.box
  have l8 := World.lt_of_cell c
  refine ⟨h.keep.trans ⟨k.os, k.tape, k.output, k.size, fun i hi hK => k.block i hi (k1 i hK.1)⟩, hk _ _ h.hp ⟨k.os, k.tape, k.output, k.size, fun i hi hC => k.block i hi (k1 i (kC i hC))⟩,
    (k.cell l5 k5).trans h.box, (k.frozen l8 k8).trans h.fr, v, (k.cell l8 k8).trans c, own.keepK k fun i hi => kD i (own.lt i hi).1⟩

structure PSbox (P : Nat) (x : Told) (D : Nat) (W : World) : Prop where
  lo : D + 2 ≤ P
  c0 : W.cell? ⟨P, 0, none⟩ = some (.int .u64 (x.1.1))
  c1 : W.cell? ⟨P, 1, none⟩ = some (.int .u64 (x.1.2))
  d0 : W.cell? ⟨P + 1, 0, none⟩ = some (.bool x.2.1)
  d1 : W.cell? ⟨P + 1, 1, none⟩ = some (.bool x.2.2)
theorem PSbox.cells {P : Nat} {x : Told} {D : Nat} {W : World} (h : PSbox P x D W) : W.cell? ⟨P, 0, none⟩ = some (.int .u64 (x.1.1)) ∧ W.cell? ⟨P, 1, none⟩ = some (.int .u64 (x.1.2)) ∧ W.cell? ⟨P + 1, 0, none⟩ = some (.bool x.2.1) ∧ W.cell? ⟨P + 1, 1, none⟩ = some (.bool x.2.2) := ⟨h.c0, h.c1, h.d0, h.d1⟩
theorem PSbox.keeps {P : Nat} {x : Told} {D : Nat} {W W' : World} (h : PSbox P x D W) {K : Nat → Prop} (k : Keeps K W W') (kD : ∀ i, D + 2 ≤ i → K i) : PSbox P x D W' := by
  have := h.lo
  exact ⟨h.lo, (k.cell (World.lt_of_cell h.c0) (kD _ h.lo)).trans h.c0, (k.cell (World.lt_of_cell h.c1) (kD _ h.lo)).trans h.c1, (k.cell (World.lt_of_cell h.d0) (kD _ (by omega))).trans h.d0, (k.cell (World.lt_of_cell h.d1) (kD _ (by omega))).trans h.d1⟩

def KeptPost (w : World) (C : Nat → Prop) (f : Bool → Bool → Bool) (la lb : List Pr) (e : Ending) (w' : World) : Prop :=
  Keeps (fun k => ¬ C k) w w' ∧ ((rightL la && rightL lb) = false → e = .returned (.tuple #[.slice none 0 0, (.int .i64 (130))])) ∧
    ((rightL la && rightL lb) = true → ∃ v, e = .returned (.tuple #[v, (.int .i64 (0))]) ∧ POwn w.heap.size w' v (keptH f la lb))

set_option maxRecDepth 100000 in
set_option maxHeartbeats 4000000 in
theorem kept_gen (w0 w : World) (va vb : Value) (la lb : List Pr) (fh : Nat) (caps : Array Value) (f : Bool → Bool → Bool) (C : Nat → Prop) (PreH : World → Prop) (hb : Base w0 w) (hs : w0.heap.size ≤ w.heap.size)
    (ra : PRow w0 va la) (rb : PRow w0 vb lb) (hc : HoldsC fh caps f C PreH) (hC : ∀ k, C k → w0.heap.size ≤ k ∧ k < w.heap.size) (hp : PreH w) (hlen : la.length + lb.length ≤ 1048576) :
    Calls Try.prog 129 #[va, vb, .func (.func fh) #[] caps] w (KeptPost w C f la lb) := by
  have CK1 := hid (fun W (B : Below w.heap.size w W) => check_any va la W ((ra.base hb).below B))
  have CK2 := hid (fun W (B : Below w.heap.size w W) => check_any vb lb W ((rb.base hb).below B))
  have HC := hid hc
  have eg := hid hc.enters
  have HB := hid hb; have RA := hid ra; have RB := hid rb; have HCC := hid hC; have HP := hid hp; have HL := hid hlen; have HS := hid hs
  clear hc hb ra rb hC hp hlen
  cases h1 : rightL la with
  | false =>
    rw [h1] at CK1
    refine (callsIn_wide (n := 10)).1 ?_
    refine callsIn_of_wp_marks Try.func129 rfl trivial ?_ rfl
    simp only [Try.ntmps129, List.size_toArray, List.length_cons, List.length_nil, Nat.reduceAdd, Nat.reduceSub, Array.replicate_succ, Array.replicate_zero, List.push_toArray, List.append_toArray, List.nil_append, List.cons_append]
    gi_wp2_with fail
    refine ⟨trivial, (callsIn_wide.2 (CK1.out _ ?_)).mono ?_⟩
    · repeat' (first | exact Below.refl _ _ | with_reducible refine Below.alloc ?_ ?_ _ | with_reducible refine Below.setCell ?_ ?_ _ | with_reducible refine Below.drew ?_ | with_reducible refine below_drewN ?_ _ | refine Below.trans ?_ (Below.mono (by assumption) ?_))
      all_goals (first | omega | (simp <;> omega))
    rintro e w1 ⟨rfl, B⟩
    gi_wp2_with fail
    refine ⟨trivial, ?_⟩
    gi_wp2_with fail
    refine ⟨_, results_tmp2 rfl _ _ _, ?_, ?_, ?_⟩
    · exact Keeps.of_below (blift B)
    · intro _; rfl
    · intro h; rw [h1] at h; simp at h
  | true =>
    rw [h1] at CK1
    cases h2 : rightL lb with
    | false =>
      rw [h2] at CK2
      refine (callsIn_wide (n := 10)).1 ?_
      refine callsIn_of_wp_marks Try.func129 rfl trivial ?_ rfl
      simp only [Try.ntmps129, List.size_toArray, List.length_cons, List.length_nil, Nat.reduceAdd, Nat.reduceSub, Array.replicate_succ, Array.replicate_zero, List.push_toArray, List.append_toArray, List.nil_append, List.cons_append]
      gi_wp2_with fail
      refine ⟨trivial, (callsIn_wide.2 (CK1.out _ ?_)).mono ?_⟩
      · repeat' (first | exact Below.refl _ _ | with_reducible refine Below.alloc ?_ ?_ _ | with_reducible refine Below.setCell ?_ ?_ _ | with_reducible refine Below.drew ?_ | with_reducible refine below_drewN ?_ _ | refine Below.trans ?_ (Below.mono (by assumption) ?_))
        all_goals (first | omega | (simp <;> omega))
      rintro e w1 ⟨rfl, B⟩
      gi_wp2_with fail
      refine ⟨trivial, ?_⟩
      gi_wp2_with fail
      refine (callsIn_wide.2 (CK2.out _ (blift B))).mono ?_
      rintro e w2 ⟨rfl, B2⟩
      gi_wp2_with fail
      try (refine ⟨trivial, ?_⟩; gi_wp2_with fail)
      refine ⟨_, results_tmp2 rfl _ _ _, ?_, ?_, ?_⟩
      · exact (Keeps.of_below (blift B)).trans (Keeps.of_below B2)
      · intro _; rfl
      · intro h; rw [h1, h2] at h; simp at h
    | true =>
      rw [h2] at CK2
      obtain ⟨pa, ka, rfl⟩ := RA.out.form
      obtain ⟨pb, kb, rfl⟩ := RB.out.form
      refine (callsIn_wide (n := 10)).1 ?_
      refine callsIn_of_wp_marks Try.func129 rfl trivial ?_ rfl
      simp only [Try.ntmps129, List.size_toArray, List.length_cons, List.length_nil, Nat.reduceAdd, Nat.reduceSub, Array.replicate_succ, Array.replicate_zero, List.push_toArray, List.append_toArray, List.nil_append, List.cons_append]
      gi_wp2_with fail
      refine ⟨trivial, (callsIn_wide.2 (CK1.out _ ?_)).mono ?_⟩
      · repeat' (first | exact Below.refl _ _ | with_reducible refine Below.alloc ?_ ?_ _ | with_reducible refine Below.setCell ?_ ?_ _ | with_reducible refine Below.drew ?_ | with_reducible refine below_drewN ?_ _ | refine Below.trans ?_ (Below.mono (by assumption) ?_))
        all_goals (first | omega | (simp <;> omega))
      rintro e w1 ⟨rfl, B⟩
      gi_wp2_with fail
      refine ⟨trivial, ?_⟩
      gi_wp2_with fail
      refine (callsIn_wide.2 (CK2.out _ (blift B))).mono ?_
      rintro e w2 ⟨rfl, B2⟩
      have bx : w2.cell? ⟨w.heap.size, 0, none⟩ = some (.func (.func fh) #[] caps) := cellB B2 (cellB B (by go_simp))
      have BB := hid ((blift B).trans (B2.mono (blift B).size))
      clear B B2
      gi_wp2_with fail
      try (refine ⟨trivial, ?_⟩; gi_wp2_with fail)
      refine (callsIn_wide.2 (merged_any _ _ _ _ _ _ _)).mono ?_
      rintro e w3 ⟨rfl, rfl⟩
      gi_wp2_with fail
      have hE := World.lt_of_cell bx
      obtain ⟨W0, hW0⟩ : ∃ W0, (((w2.alloc (.cells #[.slice none 0 0] 22)).alloc (.cells #[.slice pa la.length ka] 22)).alloc (.cells #[.slice pb lb.length kb] 22)) = W0 := ⟨_, rfl⟩
      have hz : W0.heap.size = w2.heap.size + 1 + 1 + 1 := by rw [← hW0]; simp
      have B3 : Below w2.heap.size w2 W0 := by
        rw [← hW0]
        repeat' (first | exact Below.refl _ _ | with_reducible refine Below.alloc ?_ ?_ _ | with_reducible refine Below.setCell ?_ ?_ _ | with_reducible refine Below.drew ?_ | with_reducible refine below_drewN ?_ _ | refine Below.trans ?_ (Below.mono (by assumption) ?_))
        all_goals (first | omega | (simp <;> omega))
      have i0 : KeptI w C PreH W0.heap.size w.heap.size w2.heap.size (.func (.func fh) #[] caps) f [] W0 := by
        have KK : Keeps (fun _ => True) w W0 := Keeps.of_below (bel_step BB.out B3)
        refine ⟨⟨KK.os, KK.tape, KK.output, KK.size, fun i hi _ => KK.block i hi trivial⟩, HC.out.keep _ _ HP.out ⟨KK.os, KK.tape, KK.output, KK.size, fun i hi _ => KK.block i hi trivial⟩, cellB B3 bx, ?_, .slice none 0 0, ?_, POwn.nil _ _⟩
        · rw [← hW0]; clear hW0; go_simp
        · rw [← hW0]; clear hW0; go_simp
      have ib : MAt w0 (w2.heap.size + 1) (w2.heap.size + 1 + 1) (.slice pa la.length ka) (.slice pb lb.length kb) la lb W0 := by
        refine ⟨fun k hk => ?_, ?_, ?_, ?_, ?_, by omega, by omega, by omega, RA.out, RB.out⟩
        · exact (B3.block k (by omega)).trans ((BB.out.block k (by omega)).trans (HB.out k hk))
        · rw [← hW0]; clear hW0; go_simp
        · rw [← hW0]; clear hW0; go_simp
        · rw [← hW0]; clear hW0; go_simp
        · rw [← hW0]; clear hW0; go_simp
      change Code.wpIn _ _ _ _ _ _ (((w2.alloc (.cells #[.slice none 0 0] 22)).alloc (.cells #[.slice pa la.length ka] 22)).alloc (.cells #[.slice pb lb.length kb] 22))
      rw [hW0]
      clear hW0
      have I0 := hid i0; have IB := hid ib; have HZ := hid hz
      clear bx B3 i0 ib
      refine range_wide (gf := 174) (lb := #[.pointer (some ⟨w2.heap.size + 1, 0, none⟩), .pointer (some ⟨w2.heap.size + 1 + 1, 0, none⟩)]) rfl (fun args w => by simp [go_sem]) (merged_iter w0 (w2.heap.size + 1) (w2.heap.size + 1 + 1) (.slice pa la.length ka) (.slice pb lb.length kb) la lb _ rfl)
        ?hPre (by omega) ?hKt ?hKb (fun _ => rfl) (fun pre W => Hid (KeptI w C PreH W0.heap.size w.heap.size w2.heap.size (.func (.func fh) #[] caps) f pre W)) (fun _ _ _ => False)
        (fun pre x a' W => Hid (KeptI w C PreH W0.heap.size w.heap.size w2.heap.size (.func (.func fh) #[] caps) f pre W) ∧ ∃ P : Nat, a' = { tmps := #[.slice pa la.length ka, .slice pb lb.length kb, .func (.func fh) #[] caps, undef, undef, .pointer (some ⟨w.heap.size, 0, none⟩), .slice none 0 0, .int .i64 0, .pointer (some ⟨w2.heap.size, 0, none⟩), .pointer (some ⟨P, 0, none⟩), .pointer (some ⟨P + 1, 0, none⟩), .slice pa la.length ka, errno true 130, .bool false, .bool false, .slice pb lb.length kb, errno true 130, .bool false, .bool false, .slice pa la.length ka, .slice pb lb.length kb, .func (.func 174) #[] #[.pointer (some ⟨w2.heap.size + 1, 0, none⟩), .pointer (some ⟨w2.heap.size + 1 + 1, 0, none⟩)], .agg #[(.int .u64 (x.1.1)), (.int .u64 (x.1.2))], .agg #[.bool x.2.1, .bool x.2.2], undef, undef, undef, undef, undef, undef, undef, undef, undef, undef, undef], defers := [] } ∧ Hid (PSbox P x W0.heap.size W))
        ?hI ?hIx ?hIa I0 ?assign ?body ?done ?stop
      case hPre =>
        intro W B
        obtain ⟨l1, l2, l3⟩ := IB.out.lt
        exact IB.out.kp (mKp.of_below B l3 l1 l2)
      case hKt => intro A B C h k; exact fun i hi => (k i hi).trans (h i hi)
      case hKb => intro W o i hi; exact World.putObj_heap_other (by omega)
      case hI => intro pre W W' h hk; exact h.out.keeps HC.out.keep hk (fun i hi => by omega) (by omega) (by omega) (fun i hi => by omega) (fun i hi => (HCC.out i hi).2)
      case hIx => intro c pre W W' h; exact h.elim
      case hIa => intro pre x a' W W' h hk; exact ⟨h.1.out.keeps HC.out.keep hk (fun i hi => by omega) (by omega) (by omega) (fun i hi => by omega) (fun i hi => (HCC.out i hi).2), by
        obtain ⟨-, P, e, b⟩ := h
        exact ⟨P, e, b.out.keeps hk (fun i hi => by omega)⟩⟩
      case assign =>
        intro l pre x W hi hx hs
        unfold encT
        gi_wp2_with fail
        refine ⟨((KeepsAt.refl _ _).alloc (by omega) _).alloc (by simp; omega) _, ?_, by simp; omega, ?_, W.heap.size, rfl, ?_⟩
        · obtain ⟨l1, l2, l3⟩ := IB.out.lt
          exact fun i hi => (Below.heap_alloc _ _ _ (by simp; omega)).trans (Below.heap_alloc _ _ _ (by omega))
        · exact hi.out.keeps HC.out.keep (((Keeps.refl (fun _ => True) _).alloc _).alloc _) (fun i hi => trivial) trivial trivial (fun i hi => trivial) (fun i hi => (HCC.out i hi).2)
        · exact ⟨by omega, by go_simp, by go_simp, by go_simp, by go_simp⟩
      case body =>
        rintro l pre x a' W ⟨hi, P, rfl, hP⟩ hx hs
        have hp := hid hi.out.hp
        have bx := hi.out.box
        obtain ⟨p0, p1, q0, q1⟩ := hP.out.cells
        dsimp only
        gi_wp2_with fail
        clear hz
        have hz' := hid HZ.out
        refine ⟨trivial, ?_⟩
        rw [eg.out]
        gi_wp2_with fail
        refine (CallsIn.inRound l (callsIn_wide.2 (HC.out.call _ _ _ hp.out))).mono ?_
        rintro e w4 ⟨rfl, k4, hp4⟩
        have hz := HZ.out
        have hi4 : Hid (KeptI w C PreH W0.heap.size w.heap.size w2.heap.size (.func (.func fh) #[] caps) f pre w4) := by
          obtain ⟨v, c, own⟩ := hi.out.out
          have l8 := World.lt_of_cell c
          have nc : ∀ i, w.heap.size ≤ i → ¬ C i := fun i hi hC => by have := (HCC.out i hC).2; omega
          exact ⟨hi.out.keep.trans ⟨k4.os, k4.tape, k4.output, k4.size, fun i hi hK => k4.block i hi hK.2⟩, hp4, (k4.cell (World.lt_of_cell bx) (nc _ (by omega))).trans bx, (k4.frozen l8 (nc _ (by omega))).trans hi.out.fr, v,
            (k4.cell l8 (nc _ (by omega))).trans c, own.keepK k4 fun i hi => nc i (by have := (own.lt i hi).1; omega)⟩
        have hP4 := hid (hP.out.keeps k4 (fun i hi hC => by have := (HCC.out i hC).2; omega))
        have kk4 : Hid (KeepsAt W0.heap.size W w4 ∧ mKp w0 (w2.heap.size + 1) (w2.heap.size + 1 + 1) W w4 ∧ W.heap.size ≤ w4.heap.size) := by
          obtain ⟨l1, l2, l3⟩ := IB.out.lt
          have nc : ∀ i, w.heap.size ≤ i → ¬ C i := fun i hi hC => by have := (HCC.out i hC).2; omega
          refine ⟨⟨k4.block _ (by omega) (nc _ (by omega)), k4.block _ (by omega) (nc _ (by omega))⟩, fun i hi => k4.block _ (by omega) ?_, k4.size⟩
          rcases hi with hi | rfl | rfl
          · exact fun hC => by have := (HCC.out i hC).1; omega
          · exact nc _ (by omega)
          · exact nc _ (by omega)
        clear hi hP hp bx p0 p1 q0 q1 k4 hp4 hz hz'
        obtain ⟨p0, p1, q0, q1⟩ := hP4.out.cells
        cases hf : f x.2.1 x.2.2 with
        | false =>
          have hq : Hid (keptT f (pre ++ [x]) = keptT f pre) := by show _ = _; rw [keptT_snoc, hf]; simp
          clear hf
          gi_wp2_with fail
          obtain ⟨v, c, own⟩ := hi4.out.out
          refine ⟨kk4.out.1, kk4.out.2.1, hi4.out.keep, hi4.out.hp, hi4.out.box, hi4.out.fr, v, c, ?_⟩
          rw [hq.out]; exact own
        | true =>
          have hq : Hid (keptT f (pre ++ [x]) = keptT f pre ++ [x.1]) := by show _ = _; rw [keptT_snoc, hf]; simp
          clear hf
          obtain ⟨v, c, own⟩ := hi4.out.out
          have c8 := hid c
          obtain ⟨pv, kv, rfl⟩ := own.row.form
          have hown := hid own
          clear own
          have hln : (keptT f pre).length ≤ 100000000 := by
            have h1 := keptT_len f pre
            have hz := HZ.out
            have h2 := hx.length_le
            have h3 := mgF_len (la.length + lb.length + 1) la lb
            have h4 := HL.out
            unfold mergedL at h2
            simp at h2
            omega
          have hLN := hid hln; clear hln
          gi_wp2_with (first | (gi_at_builtin; refine app1In rfl _ _ rfl (W0.heap.size + 2) (.slice pv (keptT f pre).length kv) (keptT f pre) x.1.1 x.1.2 w4 rfl rfl rfl hown.out (by have := kk4.out.2.2; have := HZ.out; omega) hLN.out ?_))
          intro v' w5 hown5 kk5 hblk
          have hz := HZ.out
          have nb : ∀ i, i < W0.heap.size + 2 → ¬ some i = (Value.slice pv (keptT f pre).length kv).ownBlock := fun i hi e => by have := (hown.out.lt i e.symm).1; omega
          have lo := World.lt_of_cell c
          have r0 := (kk5.cell lo (nb _ (by omega))).trans c
          have r1 := (kk5.frozen lo (nb _ (by omega))).trans hi4.out.fr
          have hi5 : Hid (Keeps (fun k => k < w.heap.size ∧ ¬ C k) w w5 ∧ PreH w5 ∧ w5.cell? ⟨w.heap.size, 0, none⟩ = some (.func (.func fh) #[] caps)) :=
            ⟨hi4.out.keep.trans ⟨kk5.os, kk5.tape, kk5.output, kk5.size, fun i hi _ => kk5.block i hi (nb i (by have := hi4.out.keep.size; omega))⟩,
             HC.out.keep _ _ hi4.out.hp ⟨kk5.os, kk5.tape, kk5.output, kk5.size, fun i hi hC => kk5.block i hi (nb i (by have := (HCC.out i hC).2; omega))⟩, (kk5.cell (World.lt_of_cell hi4.out.box) (nb _ (by omega))).trans hi4.out.box⟩
          obtain ⟨pn, kn, rfl⟩ := hown5.row.form
          have ho5 := hid hown5
          have kq : Hid (KeepsAt W0.heap.size W w5 ∧ mKp w0 (w2.heap.size + 1) (w2.heap.size + 1 + 1) W w5) := by
            obtain ⟨l1, l2, l3⟩ := IB.out.lt
            have sz := kk4.out.2.2
            refine ⟨⟨(kk5.block _ (by omega) (nb _ (by omega))).trans kk4.out.1.1, (kk5.block _ (by omega) (nb _ (by omega))).trans kk4.out.1.2⟩, fun i hi => (kk5.block i (by omega) (nb i (by omega))).trans (kk4.out.2.1 i hi)⟩
          have hS := kk5.size
          have sz4 := kk4.out.2.2
          clear hown5 kk5 hblk nb c hi4 hP4 hown kk4 p0 p1 q0 q1
          gi_wp2_with fail
          obtain ⟨k5, hp5, bx5⟩ := hi5.out
          have lo5 := World.lt_of_cell r0
          have hs0 := HS.out
          have ilt := IB.out.lt
          have bq : (w5.setCell ⟨w2.heap.size, 0, none⟩ (.slice pn ((keptT f pre).length + 1) kn)).cell? ⟨w.heap.size, 0, none⟩ = some (.func (.func fh) #[] caps) := by
            have n1 : (w.heap.size = w2.heap.size) = False := by simp; omega
            have n2 : (w2.heap.size = w.heap.size) = False := by simp; omega
            go_simp
          have ks : Keeps (fun k => k ≠ w2.heap.size) w5 (w5.setCell ⟨w2.heap.size, 0, none⟩ (.slice pn ((keptT f pre).length + 1) kn)) := (Keeps.refl _ _).setCell (Or.inr (by simp)) _
          refine ⟨⟨(ks.block _ (by have := World.lt_of_cell r0; omega) (by omega)).trans kq.out.1.1, (ks.block _ (by omega) (by omega)).trans kq.out.1.2⟩, fun i hi => (ks.block i (by have := IB.out.lt; omega) (by have := IB.out.lt; omega)).trans (kq.out.2 i hi), ?_⟩
          refine ⟨k5.trans ⟨ks.os, ks.tape, ks.output, ks.size, fun i hi hK => ks.block i hi (by omega)⟩, HC.out.keep _ _ hp5 ⟨ks.os, ks.tape, ks.output, ks.size, fun i hi hC => ks.block i hi (by have := (HCC.out i hC).2; omega)⟩, bq, by go_simp, .slice pn ((keptT f pre).length + 1) kn, by go_simp, ?_⟩
          rw [hq.out]
          have := ho5.out.keepK ks (fun i hi => by have := (ho5.out.lt i hi).1; omega)
          simpa using this
      case done =>
        rintro xs W rfl hi hD
        obtain ⟨v, c, own⟩ := hi.out.out
        have hown := hid own
        obtain ⟨pv, kv, rfl⟩ := own.row.form
        have hlm : (keptT f (mergedL la lb)).length ≤ 1048576 := by
          have h1 := keptT_len f (mergedL la lb)
          have h3 := mgF_len (la.length + lb.length + 1) la lb
          have h4 := HL.out
          unfold mergedL at *
          omega
        have hm2 : ¬ ((1048576 : Int) < ((keptT f (mergedL la lb)).length : Int)) := by omega
        have hm3 : ((keptT f (mergedL la lb)).length : Int) ≤ 1048576 := by omega
        clear own hlm hz
        gi_wp2_with fail
        refine ⟨by simp, .inl ⟨_, _, rfl, run_takeDeferred hD, ?_⟩⟩
        have ks : Keeps (fun k => k ≠ W0.heap.size) W (W.putObj W0.heap.size (.deferred none)) := putObj_keeps _ _ _ (by simp)
        have hz := HZ.out
        refine ⟨_, results_tmp2 rfl _ _ _, ?_, ?_, ?_⟩
        · have k1 := hi.out.keep
          have k2 := k1.trans ⟨ks.os, ks.tape, ks.output, ks.size, fun i hi hK => ks.block i hi (by omega)⟩
          exact ⟨k2.os, k2.tape, k2.output, k2.size, fun i hi hK => k2.block i hi ⟨hi, hK⟩⟩
        · intro h; rw [h1, h2] at h; cases h
        · intro _
          refine ⟨_, rfl, ?_⟩
          exact (hown.out.keepK ks (fun i hi => by have := (hown.out.lt i hi).1; omega)).weaken (by omega)
      case stop =>
        rintro c pre W _ h _
        exact h.elim

set_option maxRecDepth 100000 in
theorem meet_any (w : World) (va vb : Value) (la lb : List Pr) (ra : PRow w va la) (rb : PRow w vb lb) (hlen : la.length + lb.length ≤ 1048576) :
    Calls Try.prog 77 #[va, vb] w fun e w' => Below w.heap.size w w' ∧ ((rightL la && rightL lb) = false → e = .returned (.tuple #[.slice none 0 0, (.int .i64 (130))])) ∧
      ((rightL la && rightL lb) = true → ∃ v, e = .returned (.tuple #[v, (.int .i64 (0))]) ∧ POwn w.heap.size w' v (keptH (fun x y => x && y) la lb)) := by
  have hmf := @hmf
  have HC : Hid (HoldsC 132 #[.pointer (some ⟨w.heap.size, 0, none⟩)] (fun x y => x && y) (fun k => k = w.heap.size)
      (fun W => ∃ x y, W.cell? ⟨w.heap.size, 0, none⟩ = some (.bool x) ∧ W.cell? ⟨w.heap.size, 1, none⟩ = some (.bool y) ∧ W.frozen? ⟨w.heap.size, 0, none⟩ = false ∧ W.frozen? ⟨w.heap.size, 1, none⟩ = false)) := by
    refine ⟨fun args w => by simp [go_sem], ?_, ?_⟩
    · rintro x y W ⟨u, v, h0, h1, f0, f1⟩
      refine (holds_any x y u v _ W h0 h1 f0 f1).mono ?_
      rintro e W' ⟨rfl, k, r⟩
      exact ⟨rfl, k, x, y, r⟩
    · rintro W W' ⟨u, v, h0, h1, f0, f1⟩ k
      have l := World.lt_of_cell h0
      exact ⟨u, v, (k.cell l rfl).trans h0, (k.cell l rfl).trans h1, (k.frozen l rfl).trans f0, (k.frozen l rfl).trans f1⟩
  have RA := hid ra; have RB := hid rb; have HL := hid hlen
  clear ra rb hlen
  go_enter Try.func77, Try.ntmps77
  go_wp2_with fail
  refine (kept_gen w _ va vb la lb 132 #[.pointer (some ⟨w.heap.size, 0, none⟩)] (fun x y => x && y) (fun k => k = w.heap.size) _ (fun k hk => Below.heap_alloc _ _ _ hk) (by simp) RA.out RB.out HC.out (by rintro k rfl; simp) ⟨false, false, by go_simp, by go_simp, by go_simp, by go_simp⟩ HL.out).mono ?_
  rintro e w1 ⟨k1, k2, k3⟩
  have K1 : Hid (Below w.heap.size w w1) := by
    have kk : Keeps (fun k => k ≠ w.heap.size) w w1 := ((Keeps.refl _ w).alloc _).trans k1
    exact ⟨kk.os, kk.tape, kk.output, kk.size, fun i hi => kk.block i hi (by omega)⟩
  have K2 := hid k2; have K3 := hid k3
  clear k1 k2 k3
  cases hr : (rightL la && rightL lb) with
  | false =>
    rw [hr] at K2 K3
    obtain rfl := K2.out rfl
    go_wp2_with fail
    go_ret2
    exact ⟨K1.out, fun _ => rfl, fun h => by rw [hr] at h; cases h⟩
  | true =>
    rw [hr] at K2 K3
    obtain ⟨v, rfl, own⟩ := K3.out rfl
    have OW := hid own; clear own
    go_wp2_with fail
    go_ret2
    exact ⟨K1.out, fun h => by (rw [hr] at h; cases h), fun _ => ⟨v, rfl, OW.out.weaken (by simp)⟩⟩
end Go.Proofs.Ytlkdkhmdmgchbaa
namespace Go.Proofs.Ytlkdkhmdmgchbaa
set_option linter.unusedSimpArgs false
set_option linter.unusedVariables false
open Go.RowKit
set_option maxRecDepth 100000

set_option maxRecDepth 100000 in
set_option maxHeartbeats 2000000 in
theorem pone_any (vA vD : Value) (t : Tr) (w : World) (h : TPair w vA vD t) (hlen : t.1.length + t.2.length ≤ 1048576) : Calls Try.prog 137 #[.agg #[vA, vD]] w fun e w' => e = .returned (.bool (oneL t)) ∧ Below w.heap.size w w' := by
  have MT := hid (fun W (B : Below w.heap.size w W) => meet_any W vA vD t.1 t.2 (h.1.below B) (h.2.below B) hlen)
  have KB := hid (fun (h1 : Rises t.1) (h2 : Rises t.2) => keptH_both h1 h2)
  obtain ⟨pa, ka, rfl⟩ := h.1.form
  obtain ⟨pb, kb, rfl⟩ := h.2.form
  clear h hlen
  have EO : Hid (oneL t = ((rightL t.1 && rightL t.2) && decide ((keptH (fun x y => x && y) t.1 t.2).length = 0))) := by
    show _ = _
    unfold oneL
    cases h1 : rightL t.1 with
    | false => rfl
    | true =>
      cases h2 : rightL t.2 with
      | false => rfl
      | true =>
        unfold rightL at h1 h2
        simp only [Bool.and_eq_true, decide_eq_true_eq] at h1 h2
        simp only [KB.out h1.1 h2.1]
  rw [EO.out]
  clear EO KB
  obtain ⟨res, hres⟩ : ∃ res, ((rightL t.1 && rightL t.2) && decide ((keptH (fun x y => x && y) t.1 t.2).length = 0)) = res := ⟨_, rfl⟩
  rw [hres]
  have HR := hid hres; clear hres
  go_enter Try.func137, Try.ntmps137
  go_wp2_with fail
  refine (MT.out _ ?_).mono ?_
  · repeat' (first | exact Below.refl _ _ | with_reducible refine Below.alloc ?_ ?_ _ | with_reducible refine Below.setCell ?_ ?_ _ | with_reducible refine Below.drew ?_ | with_reducible refine below_drewN ?_ _ | refine Below.trans ?_ (Below.mono (by assumption) ?_))
    all_goals (first | omega | (simp <;> omega))
  rintro e w1 ⟨k1, k2, k3⟩
  have K1 : Hid (Below w.heap.size w w1) := by
    show Below _ _ _
    refine Below.trans ?_ (k1.mono (by simp <;> omega))
    repeat' (first | exact Below.refl _ _ | with_reducible refine Below.alloc ?_ ?_ _ | with_reducible refine Below.setCell ?_ ?_ _ | with_reducible refine Below.drew ?_ | with_reducible refine below_drewN ?_ _ | refine Below.trans ?_ (Below.mono (by assumption) ?_))
    all_goals (first | omega | (simp <;> omega))
  have K2 := hid k2; have K3 := hid k3
  clear k1 k2 k3 MT
  generalize keptH (fun x y => x && y) t.1 t.2 = q at *
  cases hr : (rightL t.1 && rightL t.2) with
  | false =>
    rw [hr] at K2 K3
    obtain rfl := K2.out rfl
    rw [hr] at HR
    clear K2 K3 hr
    go_wp2_with fail
    go_ret
    exact ⟨by rw [← HR.out]; rfl, K1.out⟩
  | true =>
    rw [hr] at K2 K3
    obtain ⟨v, rfl, own⟩ := K3.out rfl
    obtain ⟨pq, kq, rfl⟩ := own.row.form
    rw [hr] at HR
    clear K2 K3 hr own
    by_cases hq : q.length = 0
    · have h1 : ((q.length : Int) == 0) = true := by simpa using hq
      rw [decide_eq_true hq] at HR
      clear hq
      go_wp2_with fail
      go_ret
      exact ⟨by rw [← HR.out]; rfl, K1.out⟩
    · have h1 : ((q.length : Int) == 0) = false := by simpa using hq
      rw [decide_eq_false hq] at HR
      clear hq
      go_wp2_with fail
      go_ret
      exact ⟨by rw [← HR.out]; rfl, K1.out⟩
theorem notone_any (vA vD : Value) (t : Tr) (w : World) (h : TPair w vA vD t) (hlen : t.1.length + t.2.length ≤ 1048576) : Calls Try.prog 142 #[.agg #[vA, vD]] w fun e w' => e = .returned (.bool (!oneL t)) ∧ Below w.heap.size w w' := by
  have MT := hid (fun W (B : Below w.heap.size w W) => pone_any vA vD t W (h.below B) hlen)
  obtain ⟨pa, ka, rfl⟩ := h.1.form
  obtain ⟨pb, kb, rfl⟩ := h.2.form
  clear h hlen
  go_enter Try.func142, Try.ntmps142
  go_wp2_with fail
  refine (MT.out _ ?_).mono ?_
  · repeat' (first | exact Below.refl _ _ | with_reducible refine Below.alloc ?_ ?_ _ | with_reducible refine Below.setCell ?_ ?_ _ | with_reducible refine Below.drew ?_ | with_reducible refine below_drewN ?_ _ | refine Below.trans ?_ (Below.mono (by assumption) ?_))
    all_goals (first | omega | (simp <;> omega))
  rintro e w1 ⟨rfl, B⟩
  have K1 : Hid (Below w.heap.size w w1) := by
    show Below _ _ _
    refine Below.trans ?_ (B.mono (by simp <;> omega))
    repeat' (first | exact Below.refl _ _ | with_reducible refine Below.alloc ?_ ?_ _ | with_reducible refine Below.setCell ?_ ?_ _ | with_reducible refine Below.drew ?_ | with_reducible refine below_drewN ?_ _ | refine Below.trans ?_ (Below.mono (by assumption) ?_))
    all_goals (first | omega | (simp <;> omega))
  clear MT B
  go_wp2_with fail
  go_ret
  exact ⟨rfl, K1.out⟩

def IxPost (w : World) (l : List Tr) (e : Ending) (w' : World) : Prop := (∃ r : Int, e = .returned (.int .i64 (r)) ∧ -1 ≤ r ∧ (if l.all oneL then r = -1 else 0 ≤ r)) ∧ Below w.heap.size w w'
set_option maxRecDepth 100000 in
set_option maxHeartbeats 2000000 in
theorem index_any (v : Value) (l : List Tr) (w : World) (h : TRow w v l) (hs : ∀ t ∈ l, t.1.length + t.2.length ≤ 1048576) : Calls Try.prog 162 #[v, .func (.func 142) #[] #[]] w (IxPost w l) := by
  have HL := h.len
  obtain ⟨p, cap, rfl⟩ := h.form
  have H := hid h; clear h
  have HS := hid hs; clear hs
  go_enter Try.func162, Try.ntmps162
  go_wp2_with fail
  go_loopw [8] (fun v8 wr => ∃ k : Nat, v8 = (.int .i64 (k)) ∧ k ≤ l.length ∧ Hid ((l.take k).all oneL = true) ∧ Hid (Below w.heap.size w wr)) (fun v8 _ => l.length - (intOf v8).toNat)
  case atStart => exact ⟨0, rfl, Nat.zero_le _, rfl, Below.refl _ _⟩
  case round =>
    obtain ⟨k, rfl, hk, AL, BEL⟩ := hrel
    by_cases hgo : k < l.length
    · have hgo' : (k : Int) < (l.length : Int) := by omega
      have hwk : IntKind.i64.wrap ((k : Int) + 1) = ((k + 1 : Nat) : Int) := by rw [i64_ok _ (by omega) (by omega)]; omega
      obtain ⟨g, o, cap', hv, hcell⟩ := (H.out.below BEL.out).cell (by omega)
      simp only [Value.slice.injEq] at hv
      obtain ⟨hv, -, -⟩ := hv
      subst hv
      obtain ⟨vA, vD, d0, d1, hT⟩ := hcell k hgo
      have hmem := HS.out _ (List.getElem_mem hgo)
      have ts : Hid (l.take (k + 1) = l.take k ++ [l[k]]) := List.take_succ_eq_append_getElem hgo
      have MEM : Hid (l[k] ∈ l) := List.getElem_mem hgo
      obtain ⟨t, ht⟩ : ∃ t, l[k] = t := ⟨_, rfl⟩
      rw [ht] at hT hmem ts MEM
      clear ht hcell
      have CT := hid (fun W (B : Below wr.heap.size wr W) => notone_any vA vD t W (hT.below B) hmem)
      clear hT hmem
      go_wp2_with fail
      refine (CT.out _ (Below.refl _ _)).mono ?_
      rintro e w1 ⟨rfl, B⟩
      have BEL1 := hid (bel_step BEL.out B)
      clear B CT d0 d1
      cases ho : oneL t with
      | true =>
        have AL1 : Hid ((l.take (k + 1)).all oneL = true) := by
          show _ = _
          rw [ts.out, List.all_append, AL.out]
          simp [ho]
        clear ho ts
        go_wp2_with fail
        exact ⟨⟨k + 1, by simp, hgo, AL1, BEL1⟩, by simp [intOf]; omega⟩
      | false =>
        have HO := hid ho; clear ho
        go_wp2_with fail
        (try rw [Exit.noGoto_ret]); go_ret
        refine ⟨⟨(k : Int), rfl, by omega, ?_⟩, BEL1.out⟩
        have : l.all oneL = false := by
          rw [List.all_eq_false]
          exact ⟨t, MEM.out, by rw [HO.out]; simp⟩
        rw [this]
        simp
    · obtain rfl : k = l.length := by omega
      have h1 : ¬ (l.length : Int) < (l.length : Int) := by omega
      go_wp2_with fail
      (try rw [Exit.noGoto_ret]); go_ret
      refine ⟨⟨-1, rfl, by omega, ?_⟩, BEL.out⟩
      have := AL.out
      rw [List.take_length] at this
      rw [this]
      simp
set_option maxRecDepth 100000 in
theorem contains_any (v : Value) (l : List Tr) (w : World) (h : TRow w v l) (hs : ∀ t ∈ l, t.1.length + t.2.length ≤ 1048576) : Calls Try.prog 141 #[v, .func (.func 142) #[] #[]] w fun e w' => e = .returned (.bool (!l.all oneL)) ∧ Below w.heap.size w w' := by
  have IX := hid (index_any v l w h hs)
  obtain ⟨p, cap, rfl⟩ := h.form
  clear h hs
  go_enter Try.func141, Try.ntmps141
  go_wp2_with fail
  refine IX.out.mono ?_
  rintro e w1 ⟨⟨r, rfl, h0, h1⟩, B⟩
  have B1 := hid B
  clear IX B
  cases ha : l.all oneL with
  | true =>
    rw [ha] at h1
    simp only [if_true] at h1
    subst h1
    have HA := hid ha
    clear ha h0
    go_wp2_with fail
    go_ret
    exact ⟨by rw [HA.out]; rfl, B1.out⟩
  | false =>
    rw [ha] at h1
    simp only [Bool.false_eq_true, if_false] at h1
    have HA := hid ha
    clear ha h0
    go_wp2_with fail
    go_ret
    exact ⟨by rw [HA.out]; rfl, B1.out⟩
set_option maxRecDepth 100000 in
theorem tcheck_any (v : Value) (l : List Tr) (w : World) (h : TRow w v l) (hs : ∀ t ∈ l, t.1.length + t.2.length ≤ 1048576) (hl : l.length ≤ 24) : Calls Try.prog 87 #[v] w fun e w' => e = .returned (errno (l.all oneL) 210) ∧ Below w.heap.size w w' := by
  have CT := hid (contains_any v l w h hs)
  have h24 : (l.length : Int) ≤ 24 := by omega
  obtain ⟨p, cap, rfl⟩ := h.form
  clear h hs hl
  generalize l.all oneL = al at CT ⊢
  go_enter Try.func87, Try.ntmps87
  go_wp2_with fail
  refine CT.out.mono ?_
  rintro e w1 ⟨rfl, B⟩
  have B1 := hid B
  clear CT B
  cases al
  all_goals
    go_wp2_with fail
    go_ret
    exact ⟨rfl, B1.out⟩

set_option maxRecDepth 100000 in
set_option maxHeartbeats 2000000 in
theorem equal_any (v u : Value) (l m : List Pr) (w : World) (h : PRow w v l) (h' : PRow w u m) : Calls Try.prog 40 #[v, u] w fun e w' => e = .returned (.bool (decide (l = m))) ∧ Below w.heap.size w w' := by
  have HL := h.len
  obtain ⟨p, cap, rfl⟩ := h.form
  obtain ⟨q, cap', rfl⟩ := h'.form
  have H := hid h; have H' := hid h'; clear h h'
  by_cases hlen : l.length = m.length
  · have b1 : ((l.length : Int) == (m.length : Int)) = true := by rw [beq_iff_eq]; omega
    have b2 : ((l.length : Int) != (m.length : Int)) = false := by rw [bne, b1]; rfl
    have HLEN := hid hlen
    go_enter Try.func40, Try.ntmps40
    go_wp2_with fail
    go_loopw [13] (fun v13 wr => ∃ k : Nat, v13 = (.int .i64 (k)) ∧ k ≤ l.length ∧ Hid (l.take k = m.take k) ∧ Hid (Below w.heap.size w wr)) (fun v13 _ => l.length - (intOf v13).toNat)
    case atStart => exact ⟨0, rfl, Nat.zero_le _, rfl, Below.refl _ _⟩
    case round =>
      obtain ⟨k, rfl, hk, EQ, BEL⟩ := hrel
      by_cases hgo : k < l.length
      · have hgo' : (k : Int) < (l.length : Int) := by omega
        obtain ⟨g, o, cap, hv, hcell⟩ := (H.out.below BEL.out).cell (by omega)
        simp only [Value.slice.injEq] at hv
        obtain ⟨hv, -, -⟩ := hv
        first | subst hv | (simp only [Option.some.injEq, Addr.mk.injEq] at hv; obtain ⟨rfl, rfl, -⟩ := hv)
        obtain ⟨d0, d1⟩ := hcell k hgo
        have ts := List.take_succ_eq_append_getElem hgo
        obtain ⟨x, hx⟩ : ∃ x, l[k] = x := ⟨_, rfl⟩
        rw [hx] at d0 d1 ts
        have HX := hid hx; have TS := hid ts
        clear hx ts hcell
        obtain ⟨x0, x1⟩ := x
        simp only at d0 d1
        have e0 := d0; have e1 := d1; have TX := TS; have HX1 := HX
        clear d0 d1 TS HX
        have hgo2 := hgo
        have hgo : k < m.length := by have := HLEN.out; omega
        have hgo3 : (k : Int) < (m.length : Int) := by omega
        obtain ⟨g', o', cap'', hv, hcell⟩ := (H'.out.below BEL.out).cell (by omega)
        simp only [Value.slice.injEq] at hv
        obtain ⟨hv, -, -⟩ := hv
        subst hv
        obtain ⟨d0, d1⟩ := hcell k hgo
        have ts := List.take_succ_eq_append_getElem hgo
        obtain ⟨y, hy⟩ : ∃ y, m[k] = y := ⟨_, rfl⟩
        rw [hy] at d0 d1 ts
        have HY := hid hy; have TY := hid ts
        clear hy ts hcell
        obtain ⟨y0, y1⟩ := y
        simp only at d0 d1
        by_cases hxy : x0 = y0 ∧ x1 = y1
        · obtain ⟨rfl, rfl⟩ := hxy
          go_wp2_with fail
          go_region
          all_goals
            go_wp2_with fail
            refine ⟨⟨k + 1, by simp, hgo2, ?_, BEL.out.drew⟩, by simp [intOf]; omega⟩
            show _ = _
            rw [TX.out, TY.out, EQ.out]
        · have NE : Hid (decide (l = m) = false) := by
            show _ = _
            rw [decide_eq_false_iff_not]
            intro e
            subst e
            have := HX1.out.symm.trans HY.out
            simp only [Prod.mk.injEq] at this
            exact hxy this
          have key : (¬ x0 = y0) ∨ (x0 = y0 ∧ ¬ x1 = y1) := by
            by_cases q : x0 = y0
            · exact .inr ⟨q, fun q' => hxy ⟨q, q'⟩⟩
            · exact .inl q
          clear hxy
          rcases key with q1 | ⟨q1, q2⟩
          all_goals
            go_wp2_with fail
            go_region
            all_goals
              go_wp2_with fail
              go_ret
              exact ⟨by rw [NE.out]; rfl, BEL.out.drew⟩
      · have h1 : ¬ (k : Int) < (l.length : Int) := by omega
        have E : Hid (decide (l = m) = true) := by
          show _ = _
          have := EQ.out
          rw [List.take_of_length_le (by omega), List.take_of_length_le (by have := HLEN.out; omega)] at this
          rw [decide_eq_true_iff]; exact this
        clear hgo
        go_wp2_with fail
        go_ret
        exact ⟨by rw [E.out]; rfl, BEL.out⟩
  · have b1 : ((l.length : Int) == (m.length : Int)) = false := by rw [beq_eq_false_iff_ne]; omega
    have b2 : ((l.length : Int) != (m.length : Int)) = true := by rw [bne, b1]; rfl
    have NE : Hid (decide (l = m) = false) := by
      show _ = _
      rw [decide_eq_false_iff_not]
      intro e
      exact hlen (by rw [e])
    clear hlen
    go_enter Try.func40, Try.ntmps40
    go_wp2_with fail
    go_ret
    exact ⟨by rw [NE.out]; rfl, Below.refl _ _⟩

set_option maxRecDepth 100000 in
set_option maxHeartbeats 1000000 in
theorem psametier_any (vA vD uA uD : Value) (t u : Tr) (w : World) (h : TPair w vA vD t) (h' : TPair w uA uD u) : Calls Try.prog 106 #[.agg #[vA, vD], .agg #[uA, uD]] w fun e w' => e = .returned (.bool (decide (t = u))) ∧ Below w.heap.size w w' := by
  have P1 := hid (fun (W : World) (B : Below w.heap.size w W) => equal_any vA uA t.1 u.1 W (h.1.below B) (h'.1.below B))
  have P2 := hid (fun (W : World) (B : Below w.heap.size w W) => equal_any vD uD t.2 u.2 W (h.2.below B) (h'.2.below B))
  have E : Hid (decide (t = u) = (decide (t.1 = u.1) && decide (t.2 = u.2))) := by
    show _ = _
    rw [Bool.eq_iff_iff]
    simp [Prod.ext_iff]
  rw [E.out]
  clear E
  obtain ⟨p0, c0, rfl⟩ := h.1.form
  obtain ⟨p1, c1, rfl⟩ := h.2.form
  obtain ⟨q0, d0, rfl⟩ := h'.1.form
  obtain ⟨q1, d1, rfl⟩ := h'.2.form
  clear h h'
  generalize decide (t.1 = u.1) = e1 at *
  generalize decide (t.2 = u.2) = e2 at *
  have st := hid ((Vx.new w (.slice p0 t.1.length c0) (.slice p1 t.2.length c1) 24).keep (below_alloc _ (.cells #[.slice q0 u.1.length d0, .slice q1 u.2.length d1] 24)))
  have su := hid (Vx.new (w.alloc (.cells #[.slice p0 t.1.length c0, .slice p1 t.2.length c1] 24)) (.slice q0 u.1.length d0) (.slice q1 u.2.length d1) 24)
  go_enter Try.func106, Try.ntmps106
  go_wp2_with fail
  have BW : Below w.heap.size w ((w.alloc (.cells #[.slice p0 t.1.length c0, .slice p1 t.2.length c1] 24)).alloc (.cells #[.slice q0 u.1.length d0, .slice q1 u.2.length d1] 24)) := by
    repeat' (first | exact Below.refl _ _ | with_reducible refine Below.alloc ?_ ?_ _ | with_reducible refine Below.setCell ?_ ?_ _ | with_reducible refine Below.drew ?_ | with_reducible refine below_drewN ?_ _ | refine Below.trans ?_ (Below.mono (by assumption) ?_))
    all_goals (first | omega | (simp <;> omega))
  refine (P1.out _ BW).mono ?_
  rintro e w1 ⟨rfl, B⟩
  replace st := hid (st.out.keep B)
  replace su := hid (su.out.keep B)
  replace BW := bel_step BW B
  have BH := hid BW
  clear B
  cases e1
  · clear BW
    go_wp2_with fail
    go_ret
    exact ⟨by simp, BH.out⟩
  · obtain ⟨a0, a1, a2⟩ := st.out
    obtain ⟨b0, b1, b2⟩ := su.out
    simp only [World.size_alloc] at b0 b1 b2
    clear BW
    go_wp2_with fail
    refine (P2.out _ BH.out).mono ?_
    rintro e w2 ⟨rfl, B⟩
    replace BH := hid (bel_step BH.out B)
    clear B a0 a1 a2 b0 b1 b2
    go_wp2_with fail
    go_ret
    exact ⟨by simp, BH.out⟩
end Go.Proofs.Ytlkdkhmdmgchbaa
