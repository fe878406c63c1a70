/- the program's runs: kept. -/
import Derived.Test.YtlkdkhmdmgchbaaH4
import Derived.Deep.RegionHeld3
namespace Go.Proofs.Ytlkdkhmdmgchbaa
set_option linter.unusedSimpArgs false
set_option linter.unusedVariables false
open Go.RowKit Go.Shelf
attribute [local go_sem] Oper.semAt_some

/-- what kept is handed: a test of who has a pair, which may turn the blocks C and no other. -/
structure HoldsC (fh : Nat) (caps : Array Value) (f : Bool → Bool → Bool) (C : Nat → Prop) (PreH : World → Prop) : Prop where
  enters : ∀ args w, (callFunc fh args).run Try.prog w = .ok (.enter fh args) w
  call : ∀ x y W, PreH W → Calls Try.prog fh (#[.agg #[.bool x, .bool y]] ++ caps) W fun e W' => e = .returned (.bool (f x y)) ∧ Keeps (fun k => ¬ C k) W W' ∧ PreH W'
  keep : ∀ W W', PreH W → Keeps C W W' → PreH W'
/-- those of what was told that are kept. -/
def keptT (f : Bool → Bool → Bool) (l : List Told) : List Pr := (l.filter (fun q => f q.2.1 q.2.2)).map (·.1)
theorem keptT_snoc (f : Bool → Bool → Bool) (l : List Told) (q : Told) : keptT f (l ++ [q]) = keptT f l ++ (if f q.2.1 q.2.2 then [q.1] else []) := by
  unfold keptT
  rw [List.filter_append, List.map_append, List.filter_cons, List.filter_nil]
  split <;> rfl
theorem keptT_len (f : Bool → Bool → Bool) (l : List Told) : (keptT f l).length ≤ l.length := by
  unfold keptT; rw [List.length_map]; exact List.length_filter_le _ _
structure KeptI (w : World) (C : Nat → Prop) (PreH : World → Prop) (D o5 o8 : Nat) (hv : Value) (f : Bool → Bool → Bool) (pre : List Told) (W : World) : Prop where
  keep : Keeps (fun k => k < w.heap.size ∧ ¬ C k) w W
  hp : PreH W
  box : W.cell? ⟨o5, 0, none⟩ = some hv
  fr : W.frozen? ⟨o8, 0, none⟩ = false
  out : ∃ v, W.cell? ⟨o8, 0, none⟩ = some v ∧ POwn (D + 2) W v (keptT f pre)
theorem POwn.nil' (B : Nat) (w : World) : POwn B w (.slice none 0 0) [] := POwn.nil B w
theorem KeptI.keeps {w : World} {C : Nat → Prop} {PreH : World → Prop} {D o5 o8 : Nat} {hv : Value} {f : Bool → Bool → Bool} {pre : List Told} {W W' : World} (h : KeptI w C PreH D o5 o8 hv f pre W)
    (hk : ∀ W W', PreH W → Keeps C W W' → PreH W') {K : Nat → Prop} (k : Keeps K W W') (k1 : ∀ i, i < w.heap.size → K i) (k5 : K o5) (k8 : K o8) (kD : ∀ i, D + 2 ≤ i → K i) (kC : ∀ i, C i → i < w.heap.size) : KeptI w C PreH D o5 o8 hv f pre W' := by
  have hs := h.keep.size
  obtain ⟨v, c, own⟩ := h.out
  have l5 := World.lt_of_cell h.box
  have l8 := World.lt_of_cell c
  refine ⟨h.keep.trans ⟨k.os, k.tape, k.output, k.size, fun i hi hK => k.block i hi (k1 i hK.1)⟩, hk _ _ h.hp ⟨k.os, k.tape, k.output, k.size, fun i hi hC => k.block i hi (k1 i (kC i hC))⟩,
    (k.cell l5 k5).trans h.box, (k.frozen l8 k8).trans h.fr, v, (k.cell l8 k8).trans c, own.keepK k fun i hi => kD i (own.lt i hi).1⟩

/-- the round's own two boxes. -/
structure PSbox (P : Nat) (x : Told) (D : Nat) (W : World) : Prop where
  lo : D + 2 ≤ P
  c0 : W.cell? ⟨P, 0, none⟩ = some (.int .u64 (x.1.1))
  c1 : W.cell? ⟨P, 1, none⟩ = some (.int .u64 (x.1.2))
  d0 : W.cell? ⟨P + 1, 0, none⟩ = some (.bool x.2.1)
  d1 : W.cell? ⟨P + 1, 1, none⟩ = some (.bool x.2.2)
theorem PSbox.cells {P : Nat} {x : Told} {D : Nat} {W : World} (h : PSbox P x D W) : W.cell? ⟨P, 0, none⟩ = some (.int .u64 (x.1.1)) ∧ W.cell? ⟨P, 1, none⟩ = some (.int .u64 (x.1.2)) ∧ W.cell? ⟨P + 1, 0, none⟩ = some (.bool x.2.1) ∧ W.cell? ⟨P + 1, 1, none⟩ = some (.bool x.2.2) := ⟨h.c0, h.c1, h.d0, h.d1⟩
theorem PSbox.keeps {P : Nat} {x : Told} {D : Nat} {W W' : World} (h : PSbox P x D W) {K : Nat → Prop} (k : Keeps K W W') (kD : ∀ i, D + 2 ≤ i → K i) : PSbox P x D W' := by
  have := h.lo
  exact ⟨h.lo, (k.cell (World.lt_of_cell h.c0) (kD _ h.lo)).trans h.c0, (k.cell (World.lt_of_cell h.c1) (kD _ h.lo)).trans h.c1, (k.cell (World.lt_of_cell h.d0) (kD _ (by omega))).trans h.d0, (k.cell (World.lt_of_cell h.d1) (kD _ (by omega))).trans h.d1⟩

def KeptPost (w : World) (C : Nat → Prop) (f : Bool → Bool → Bool) (la lb : List Pr) (e : Ending) (w' : World) : Prop :=
  Keeps (fun k => ¬ C k) w w' ∧ ((rightL la && rightL lb) = false → e = .returned (.tuple #[.slice none 0 0, (.int .i64 (130))])) ∧
    ((rightL la && rightL lb) = true → ∃ v, e = .returned (.tuple #[v, (.int .i64 (0))]) ∧ POwn w.heap.size w' v (keptH f la lb))

set_option maxRecDepth 100000 in
set_option maxHeartbeats 4000000 in
theorem kept_gen (w0 w : World) (va vb : Value) (la lb : List Pr) (fh : Nat) (caps : Array Value) (f : Bool → Bool → Bool) (C : Nat → Prop) (PreH : World → Prop) (hb : Base w0 w) (hs : w0.heap.size ≤ w.heap.size)
    (ra : PRow w0 va la) (rb : PRow w0 vb lb) (hc : HoldsC fh caps f C PreH) (hC : ∀ k, C k → w0.heap.size ≤ k ∧ k < w.heap.size) (hp : PreH w) (hlen : la.length + lb.length ≤ 1048576) :
    Calls Try.prog 129 #[va, vb, .func (.func fh) #[] caps] w (KeptPost w C f la lb) := by
  have CK1 := hid (fun W (B : Below w.heap.size w W) => check_any va la W ((ra.base hb).below B))
  have CK2 := hid (fun W (B : Below w.heap.size w W) => check_any vb lb W ((rb.base hb).below B))
  have HC := hid hc
  have eg := hid hc.enters
  have HB := hid hb; have RA := hid ra; have RB := hid rb; have HCC := hid hC; have HP := hid hp; have HL := hid hlen; have HS := hid hs
  clear hc hb ra rb hC hp hlen
  cases h1 : rightL la with
  | false =>
    rw [h1] at CK1
    refine (callsIn_wide (n := 10)).1 ?_
    refine callsIn_of_wp_marks Try.func129 rfl trivial ?_ rfl
    simp only [Try.ntmps129, List.size_toArray, List.length_cons, List.length_nil, Nat.reduceAdd, Nat.reduceSub, Array.replicate_succ, Array.replicate_zero, List.push_toArray, List.append_toArray, List.nil_append, List.cons_append]
    gi_wp2_with fail
    refine ⟨trivial, (callsIn_wide.2 (CK1.out _ ?_)).mono ?_⟩
    · repeat' (first | exact Below.refl _ _ | with_reducible refine Below.alloc ?_ ?_ _ | with_reducible refine Below.setCell ?_ ?_ _ | with_reducible refine Below.drew ?_ | with_reducible refine below_drewN ?_ _ | refine Below.trans ?_ (Below.mono (by assumption) ?_))
      all_goals (first | omega | (simp <;> omega))
    rintro e w1 ⟨rfl, B⟩
    gi_wp2_with fail
    refine ⟨trivial, ?_⟩
    gi_wp2_with fail
    refine ⟨_, results_tmp2 rfl _ _ _, ?_, ?_, ?_⟩
    · exact Keeps.of_below (blift B)
    · intro _; rfl
    · intro h; rw [h1] at h; simp at h
  | true =>
    rw [h1] at CK1
    cases h2 : rightL lb with
    | false =>
      rw [h2] at CK2
      refine (callsIn_wide (n := 10)).1 ?_
      refine callsIn_of_wp_marks Try.func129 rfl trivial ?_ rfl
      simp only [Try.ntmps129, List.size_toArray, List.length_cons, List.length_nil, Nat.reduceAdd, Nat.reduceSub, Array.replicate_succ, Array.replicate_zero, List.push_toArray, List.append_toArray, List.nil_append, List.cons_append]
      gi_wp2_with fail
      refine ⟨trivial, (callsIn_wide.2 (CK1.out _ ?_)).mono ?_⟩
      · repeat' (first | exact Below.refl _ _ | with_reducible refine Below.alloc ?_ ?_ _ | with_reducible refine Below.setCell ?_ ?_ _ | with_reducible refine Below.drew ?_ | with_reducible refine below_drewN ?_ _ | refine Below.trans ?_ (Below.mono (by assumption) ?_))
        all_goals (first | omega | (simp <;> omega))
      rintro e w1 ⟨rfl, B⟩
      gi_wp2_with fail
      refine ⟨trivial, ?_⟩
      gi_wp2_with fail
      refine (callsIn_wide.2 (CK2.out _ (blift B))).mono ?_
      rintro e w2 ⟨rfl, B2⟩
      gi_wp2_with fail
      try (refine ⟨trivial, ?_⟩; gi_wp2_with fail)
      refine ⟨_, results_tmp2 rfl _ _ _, ?_, ?_, ?_⟩
      · exact (Keeps.of_below (blift B)).trans (Keeps.of_below B2)
      · intro _; rfl
      · intro h; rw [h1, h2] at h; simp at h
    | true =>
      rw [h2] at CK2
      obtain ⟨pa, ka, rfl⟩ := RA.out.form
      obtain ⟨pb, kb, rfl⟩ := RB.out.form
      refine (callsIn_wide (n := 10)).1 ?_
      refine callsIn_of_wp_marks Try.func129 rfl trivial ?_ rfl
      simp only [Try.ntmps129, List.size_toArray, List.length_cons, List.length_nil, Nat.reduceAdd, Nat.reduceSub, Array.replicate_succ, Array.replicate_zero, List.push_toArray, List.append_toArray, List.nil_append, List.cons_append]
      gi_wp2_with fail
      refine ⟨trivial, (callsIn_wide.2 (CK1.out _ ?_)).mono ?_⟩
      · repeat' (first | exact Below.refl _ _ | with_reducible refine Below.alloc ?_ ?_ _ | with_reducible refine Below.setCell ?_ ?_ _ | with_reducible refine Below.drew ?_ | with_reducible refine below_drewN ?_ _ | refine Below.trans ?_ (Below.mono (by assumption) ?_))
        all_goals (first | omega | (simp <;> omega))
      rintro e w1 ⟨rfl, B⟩
      gi_wp2_with fail
      refine ⟨trivial, ?_⟩
      gi_wp2_with fail
      refine (callsIn_wide.2 (CK2.out _ (blift B))).mono ?_
      rintro e w2 ⟨rfl, B2⟩
      have bx : w2.cell? ⟨w.heap.size, 0, none⟩ = some (.func (.func fh) #[] caps) := cellB B2 (cellB B (by go_simp))
      have BB := hid ((blift B).trans (B2.mono (blift B).size))
      clear B B2
      gi_wp2_with fail
      try (refine ⟨trivial, ?_⟩; gi_wp2_with fail)
      refine (callsIn_wide.2 (merged_any _ _ _ _ _ _ _)).mono ?_
      rintro e w3 ⟨rfl, rfl⟩
      gi_wp2_with fail
      have hE := World.lt_of_cell bx
      obtain ⟨W0, hW0⟩ : ∃ W0, (((w2.alloc (.cells #[.slice none 0 0] 22)).alloc (.cells #[.slice pa la.length ka] 22)).alloc (.cells #[.slice pb lb.length kb] 22)) = W0 := ⟨_, rfl⟩
      have hz : W0.heap.size = w2.heap.size + 1 + 1 + 1 := by rw [← hW0]; simp
      have B3 : Below w2.heap.size w2 W0 := by
        rw [← hW0]
        repeat' (first | exact Below.refl _ _ | with_reducible refine Below.alloc ?_ ?_ _ | with_reducible refine Below.setCell ?_ ?_ _ | with_reducible refine Below.drew ?_ | with_reducible refine below_drewN ?_ _ | refine Below.trans ?_ (Below.mono (by assumption) ?_))
        all_goals (first | omega | (simp <;> omega))
      have i0 : KeptI w C PreH W0.heap.size w.heap.size w2.heap.size (.func (.func fh) #[] caps) f [] W0 := by
        have KK : Keeps (fun _ => True) w W0 := Keeps.of_below (bel_step BB.out B3)
        refine ⟨⟨KK.os, KK.tape, KK.output, KK.size, fun i hi _ => KK.block i hi trivial⟩, HC.out.keep _ _ HP.out ⟨KK.os, KK.tape, KK.output, KK.size, fun i hi _ => KK.block i hi trivial⟩, cellB B3 bx, ?_, .slice none 0 0, ?_, POwn.nil _ _⟩
        · rw [← hW0]; clear hW0; go_simp
        · rw [← hW0]; clear hW0; go_simp
      have ib : MAt w0 (w2.heap.size + 1) (w2.heap.size + 1 + 1) (.slice pa la.length ka) (.slice pb lb.length kb) la lb W0 := by
        refine ⟨fun k hk => ?_, ?_, ?_, ?_, ?_, by omega, by omega, by omega, RA.out, RB.out⟩
        · exact (B3.block k (by omega)).trans ((BB.out.block k (by omega)).trans (HB.out k hk))
        · rw [← hW0]; clear hW0; go_simp
        · rw [← hW0]; clear hW0; go_simp
        · rw [← hW0]; clear hW0; go_simp
        · rw [← hW0]; clear hW0; go_simp
      change Code.wpIn _ _ _ _ _ _ (((w2.alloc (.cells #[.slice none 0 0] 22)).alloc (.cells #[.slice pa la.length ka] 22)).alloc (.cells #[.slice pb lb.length kb] 22))
      rw [hW0]
      clear hW0
      have I0 := hid i0; have IB := hid ib; have HZ := hid hz
      clear bx B3 i0 ib
      refine range_wide (gf := 174) (lb := #[.pointer (some ⟨w2.heap.size + 1, 0, none⟩), .pointer (some ⟨w2.heap.size + 1 + 1, 0, none⟩)]) rfl (fun args w => by simp [go_sem]) (merged_iter w0 (w2.heap.size + 1) (w2.heap.size + 1 + 1) (.slice pa la.length ka) (.slice pb lb.length kb) la lb _ rfl)
        ?hPre (by omega) ?hKt ?hKb (fun _ => rfl) (fun pre W => Hid (KeptI w C PreH W0.heap.size w.heap.size w2.heap.size (.func (.func fh) #[] caps) f pre W)) (fun _ _ _ => False)
        (fun pre x a' W => Hid (KeptI w C PreH W0.heap.size w.heap.size w2.heap.size (.func (.func fh) #[] caps) f pre W) ∧ ∃ P : Nat, a' = { tmps := #[.slice pa la.length ka, .slice pb lb.length kb, .func (.func fh) #[] caps, undef, undef, .pointer (some ⟨w.heap.size, 0, none⟩), .slice none 0 0, .int .i64 0, .pointer (some ⟨w2.heap.size, 0, none⟩), .pointer (some ⟨P, 0, none⟩), .pointer (some ⟨P + 1, 0, none⟩), .slice pa la.length ka, errno true 130, .bool false, .bool false, .slice pb lb.length kb, errno true 130, .bool false, .bool false, .slice pa la.length ka, .slice pb lb.length kb, .func (.func 174) #[] #[.pointer (some ⟨w2.heap.size + 1, 0, none⟩), .pointer (some ⟨w2.heap.size + 1 + 1, 0, none⟩)], .agg #[(.int .u64 (x.1.1)), (.int .u64 (x.1.2))], .agg #[.bool x.2.1, .bool x.2.2], undef, undef, undef, undef, undef, undef, undef, undef, undef, undef, undef], defers := [] } ∧ Hid (PSbox P x W0.heap.size W))
        ?hI ?hIx ?hIa I0 ?assign ?body ?done ?stop
      case hPre =>
        intro W B
        obtain ⟨l1, l2, l3⟩ := IB.out.lt
        exact IB.out.kp (mKp.of_below B l3 l1 l2)
      case hKt => intro A B C h k; exact fun i hi => (k i hi).trans (h i hi)
      case hKb => intro W o i hi; exact World.putObj_heap_other (by omega)
      case hI => intro pre W W' h hk; exact h.out.keeps HC.out.keep hk (fun i hi => by omega) (by omega) (by omega) (fun i hi => by omega) (fun i hi => (HCC.out i hi).2)
      case hIx => intro c pre W W' h; exact h.elim
      case hIa => intro pre x a' W W' h hk; exact ⟨h.1.out.keeps HC.out.keep hk (fun i hi => by omega) (by omega) (by omega) (fun i hi => by omega) (fun i hi => (HCC.out i hi).2), by
        obtain ⟨-, P, e, b⟩ := h
        exact ⟨P, e, b.out.keeps hk (fun i hi => by omega)⟩⟩
      case assign =>
        intro l pre x W hi hx hs
        unfold encT
        gi_wp2_with fail
        refine ⟨((KeepsAt.refl _ _).alloc (by omega) _).alloc (by simp; omega) _, ?_, by simp; omega, ?_, W.heap.size, rfl, ?_⟩
        · obtain ⟨l1, l2, l3⟩ := IB.out.lt
          exact fun i hi => (Below.heap_alloc _ _ _ (by simp; omega)).trans (Below.heap_alloc _ _ _ (by omega))
        · exact hi.out.keeps HC.out.keep (((Keeps.refl (fun _ => True) _).alloc _).alloc _) (fun i hi => trivial) trivial trivial (fun i hi => trivial) (fun i hi => (HCC.out i hi).2)
        · exact ⟨by omega, by go_simp, by go_simp, by go_simp, by go_simp⟩
      case body =>
        rintro l pre x a' W ⟨hi, P, rfl, hP⟩ hx hs
        have hp := hid hi.out.hp
        have bx := hi.out.box
        obtain ⟨p0, p1, q0, q1⟩ := hP.out.cells
        dsimp only
        gi_wp2_with fail
        clear hz
        have hz' := hid HZ.out
        refine ⟨trivial, ?_⟩
        rw [eg.out]
        gi_wp2_with fail
        refine (CallsIn.inRound l (callsIn_wide.2 (HC.out.call _ _ _ hp.out))).mono ?_
        rintro e w4 ⟨rfl, k4, hp4⟩
        have hz := HZ.out
        have hi4 : Hid (KeptI w C PreH W0.heap.size w.heap.size w2.heap.size (.func (.func fh) #[] caps) f pre w4) := by
          obtain ⟨v, c, own⟩ := hi.out.out
          have l8 := World.lt_of_cell c
          have nc : ∀ i, w.heap.size ≤ i → ¬ C i := fun i hi hC => by have := (HCC.out i hC).2; omega
          exact ⟨hi.out.keep.trans ⟨k4.os, k4.tape, k4.output, k4.size, fun i hi hK => k4.block i hi hK.2⟩, hp4, (k4.cell (World.lt_of_cell bx) (nc _ (by omega))).trans bx, (k4.frozen l8 (nc _ (by omega))).trans hi.out.fr, v,
            (k4.cell l8 (nc _ (by omega))).trans c, own.keepK k4 fun i hi => nc i (by have := (own.lt i hi).1; omega)⟩
        have hP4 := hid (hP.out.keeps k4 (fun i hi hC => by have := (HCC.out i hC).2; omega))
        have kk4 : Hid (KeepsAt W0.heap.size W w4 ∧ mKp w0 (w2.heap.size + 1) (w2.heap.size + 1 + 1) W w4 ∧ W.heap.size ≤ w4.heap.size) := by
          obtain ⟨l1, l2, l3⟩ := IB.out.lt
          have nc : ∀ i, w.heap.size ≤ i → ¬ C i := fun i hi hC => by have := (HCC.out i hC).2; omega
          refine ⟨⟨k4.block _ (by omega) (nc _ (by omega)), k4.block _ (by omega) (nc _ (by omega))⟩, fun i hi => k4.block _ (by omega) ?_, k4.size⟩
          rcases hi with hi | rfl | rfl
          · exact fun hC => by have := (HCC.out i hC).1; omega
          · exact nc _ (by omega)
          · exact nc _ (by omega)
        clear hi hP hp bx p0 p1 q0 q1 k4 hp4 hz hz'
        obtain ⟨p0, p1, q0, q1⟩ := hP4.out.cells
        cases hf : f x.2.1 x.2.2 with
        | false =>
          have hq : Hid (keptT f (pre ++ [x]) = keptT f pre) := by show _ = _; rw [keptT_snoc, hf]; simp
          clear hf
          gi_wp2_with fail
          obtain ⟨v, c, own⟩ := hi4.out.out
          refine ⟨kk4.out.1, kk4.out.2.1, hi4.out.keep, hi4.out.hp, hi4.out.box, hi4.out.fr, v, c, ?_⟩
          rw [hq.out]; exact own
        | true =>
          have hq : Hid (keptT f (pre ++ [x]) = keptT f pre ++ [x.1]) := by show _ = _; rw [keptT_snoc, hf]; simp
          clear hf
          obtain ⟨v, c, own⟩ := hi4.out.out
          have c8 := hid c
          obtain ⟨pv, kv, rfl⟩ := own.row.form
          have hown := hid own
          clear own
          have hln : (keptT f pre).length ≤ 100000000 := by
            have h1 := keptT_len f pre
            have hz := HZ.out
            have h2 := hx.length_le
            have h3 := mgF_len (la.length + lb.length + 1) la lb
            have h4 := HL.out
            unfold mergedL at h2
            simp at h2
            omega
          have hLN := hid hln; clear hln
          gi_wp2_with (first | (gi_at_builtin; refine app1In rfl _ _ rfl (W0.heap.size + 2) (.slice pv (keptT f pre).length kv) (keptT f pre) x.1.1 x.1.2 w4 rfl rfl rfl hown.out (by have := kk4.out.2.2; have := HZ.out; omega) hLN.out ?_))
          intro v' w5 hown5 kk5 hblk
          have hz := HZ.out
          have nb : ∀ i, i < W0.heap.size + 2 → ¬ some i = (Value.slice pv (keptT f pre).length kv).ownBlock := fun i hi e => by have := (hown.out.lt i e.symm).1; omega
          have lo := World.lt_of_cell c
          have r0 := (kk5.cell lo (nb _ (by omega))).trans c
          have r1 := (kk5.frozen lo (nb _ (by omega))).trans hi4.out.fr
          have hi5 : Hid (Keeps (fun k => k < w.heap.size ∧ ¬ C k) w w5 ∧ PreH w5 ∧ w5.cell? ⟨w.heap.size, 0, none⟩ = some (.func (.func fh) #[] caps)) :=
            ⟨hi4.out.keep.trans ⟨kk5.os, kk5.tape, kk5.output, kk5.size, fun i hi _ => kk5.block i hi (nb i (by have := hi4.out.keep.size; omega))⟩,
             HC.out.keep _ _ hi4.out.hp ⟨kk5.os, kk5.tape, kk5.output, kk5.size, fun i hi hC => kk5.block i hi (nb i (by have := (HCC.out i hC).2; omega))⟩, (kk5.cell (World.lt_of_cell hi4.out.box) (nb _ (by omega))).trans hi4.out.box⟩
          obtain ⟨pn, kn, rfl⟩ := hown5.row.form
          have ho5 := hid hown5
          have kq : Hid (KeepsAt W0.heap.size W w5 ∧ mKp w0 (w2.heap.size + 1) (w2.heap.size + 1 + 1) W w5) := by
            obtain ⟨l1, l2, l3⟩ := IB.out.lt
            have sz := kk4.out.2.2
            refine ⟨⟨(kk5.block _ (by omega) (nb _ (by omega))).trans kk4.out.1.1, (kk5.block _ (by omega) (nb _ (by omega))).trans kk4.out.1.2⟩, fun i hi => (kk5.block i (by omega) (nb i (by omega))).trans (kk4.out.2.1 i hi)⟩
          have hS := kk5.size
          have sz4 := kk4.out.2.2
          clear hown5 kk5 hblk nb c hi4 hP4 hown kk4 p0 p1 q0 q1
          gi_wp2_with fail
          obtain ⟨k5, hp5, bx5⟩ := hi5.out
          have lo5 := World.lt_of_cell r0
          have hs0 := HS.out
          have ilt := IB.out.lt
          have bq : (w5.setCell ⟨w2.heap.size, 0, none⟩ (.slice pn ((keptT f pre).length + 1) kn)).cell? ⟨w.heap.size, 0, none⟩ = some (.func (.func fh) #[] caps) := by
            have n1 : (w.heap.size = w2.heap.size) = False := by simp; omega
            have n2 : (w2.heap.size = w.heap.size) = False := by simp; omega
            go_simp
          have ks : Keeps (fun k => k ≠ w2.heap.size) w5 (w5.setCell ⟨w2.heap.size, 0, none⟩ (.slice pn ((keptT f pre).length + 1) kn)) := (Keeps.refl _ _).setCell (Or.inr (by simp)) _
          refine ⟨⟨(ks.block _ (by have := World.lt_of_cell r0; omega) (by omega)).trans kq.out.1.1, (ks.block _ (by omega) (by omega)).trans kq.out.1.2⟩, fun i hi => (ks.block i (by have := IB.out.lt; omega) (by have := IB.out.lt; omega)).trans (kq.out.2 i hi), ?_⟩
          refine ⟨k5.trans ⟨ks.os, ks.tape, ks.output, ks.size, fun i hi hK => ks.block i hi (by omega)⟩, HC.out.keep _ _ hp5 ⟨ks.os, ks.tape, ks.output, ks.size, fun i hi hC => ks.block i hi (by have := (HCC.out i hC).2; omega)⟩, bq, by go_simp, .slice pn ((keptT f pre).length + 1) kn, by go_simp, ?_⟩
          rw [hq.out]
          have := ho5.out.keepK ks (fun i hi => by have := (ho5.out.lt i hi).1; omega)
          simpa using this
      case done =>
        rintro xs W rfl hi hD
        obtain ⟨v, c, own⟩ := hi.out.out
        have hown := hid own
        obtain ⟨pv, kv, rfl⟩ := own.row.form
        have hlm : (keptT f (mergedL la lb)).length ≤ 1048576 := by
          have h1 := keptT_len f (mergedL la lb)
          have h3 := mgF_len (la.length + lb.length + 1) la lb
          have h4 := HL.out
          unfold mergedL at *
          omega
        have hm2 : ¬ ((1048576 : Int) < ((keptT f (mergedL la lb)).length : Int)) := by omega
        have hm3 : ((keptT f (mergedL la lb)).length : Int) ≤ 1048576 := by omega
        clear own hlm hz
        gi_wp2_with fail
        refine ⟨by simp, .inl ⟨_, _, rfl, run_takeDeferred hD, ?_⟩⟩
        have ks : Keeps (fun k => k ≠ W0.heap.size) W (W.putObj W0.heap.size (.deferred none)) := putObj_keeps _ _ _ (by simp)
        have hz := HZ.out
        refine ⟨_, results_tmp2 rfl _ _ _, ?_, ?_, ?_⟩
        · have k1 := hi.out.keep
          have k2 := k1.trans ⟨ks.os, ks.tape, ks.output, ks.size, fun i hi hK => ks.block i hi (by omega)⟩
          exact ⟨k2.os, k2.tape, k2.output, k2.size, fun i hi hK => k2.block i hi ⟨hi, hK⟩⟩
        · intro h; rw [h1, h2] at h; cases h
        · intro _
          refine ⟨_, rfl, ?_⟩
          exact (hown.out.keepK ks (fun i hi => by have := (hown.out.lt i hi).1; omega)).weaken (by omega)
      case stop =>
        rintro c pre W _ h _
        exact h.elim

set_option maxRecDepth 100000 in
/-- run.Meet. -/
theorem meet_any (w : World) (va vb : Value) (la lb : List Pr) (ra : PRow w va la) (rb : PRow w vb lb) (hlen : la.length + lb.length ≤ 1048576) :
    Calls Try.prog 77 #[va, vb] w fun e w' => Below w.heap.size w w' ∧ ((rightL la && rightL lb) = false → e = .returned (.tuple #[.slice none 0 0, (.int .i64 (130))])) ∧
      ((rightL la && rightL lb) = true → ∃ v, e = .returned (.tuple #[v, (.int .i64 (0))]) ∧ POwn w.heap.size w' v (keptH (fun x y => x && y) la lb)) := by
  have hmf := @hmf
  have HC : Hid (HoldsC 132 #[.pointer (some ⟨w.heap.size, 0, none⟩)] (fun x y => x && y) (fun k => k = w.heap.size)
      (fun W => ∃ x y, W.cell? ⟨w.heap.size, 0, none⟩ = some (.bool x) ∧ W.cell? ⟨w.heap.size, 1, none⟩ = some (.bool y) ∧ W.frozen? ⟨w.heap.size, 0, none⟩ = false ∧ W.frozen? ⟨w.heap.size, 1, none⟩ = false)) := by
    refine ⟨fun args w => by simp [go_sem], ?_, ?_⟩
    · rintro x y W ⟨u, v, h0, h1, f0, f1⟩
      refine (holds_any x y u v _ W h0 h1 f0 f1).mono ?_
      rintro e W' ⟨rfl, k, r⟩
      exact ⟨rfl, k, x, y, r⟩
    · rintro W W' ⟨u, v, h0, h1, f0, f1⟩ k
      have l := World.lt_of_cell h0
      exact ⟨u, v, (k.cell l rfl).trans h0, (k.cell l rfl).trans h1, (k.frozen l rfl).trans f0, (k.frozen l rfl).trans f1⟩
  have RA := hid ra; have RB := hid rb; have HL := hid hlen
  clear ra rb hlen
  go_enter Try.func77, Try.ntmps77
  go_wp2_with fail
  refine (kept_gen w _ va vb la lb 132 #[.pointer (some ⟨w.heap.size, 0, none⟩)] (fun x y => x && y) (fun k => k = w.heap.size) _ (fun k hk => Below.heap_alloc _ _ _ hk) (by simp) RA.out RB.out HC.out (by rintro k rfl; simp) ⟨false, false, by go_simp, by go_simp, by go_simp, by go_simp⟩ HL.out).mono ?_
  rintro e w1 ⟨k1, k2, k3⟩
  have K1 : Hid (Below w.heap.size w w1) := by
    have kk : Keeps (fun k => k ≠ w.heap.size) w w1 := ((Keeps.refl _ w).alloc _).trans k1
    exact ⟨kk.os, kk.tape, kk.output, kk.size, fun i hi => kk.block i hi (by omega)⟩
  have K2 := hid k2; have K3 := hid k3
  clear k1 k2 k3
  cases hr : (rightL la && rightL lb) with
  | false =>
    rw [hr] at K2 K3
    obtain rfl := K2.out rfl
    go_wp2_with fail
    go_ret2
    exact ⟨K1.out, fun _ => rfl, fun h => by rw [hr] at h; cases h⟩
  | true =>
    rw [hr] at K2 K3
    obtain ⟨v, rfl, own⟩ := K3.out rfl
    have OW := hid own; clear own
    go_wp2_with fail
    go_ret2
    exact ⟨K1.out, fun h => by (rw [hr] at h; cases h), fun _ => ⟨v, rfl, OW.out.weaken (by simp)⟩⟩
end Go.Proofs.Ytlkdkhmdmgchbaa
