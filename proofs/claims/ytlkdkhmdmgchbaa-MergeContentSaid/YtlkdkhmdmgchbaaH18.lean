/- the program's merges: Step. -/
import Derived.Test.YtlkdkhmdmgchbaaH17
import Derived.Test.YtlkdkhmdmgchbaaF14
namespace Go.Proofs.Ytlkdkhmdmgchbaa
set_option linter.unusedSimpArgs false
set_option linter.unusedVariables false
open Go.RowKit

theorem outL_step {t u : Tr} (ht : oneL t = true) (hu : oneL u = true) (ob : Bool) (k n : Nat) :
    ((outL t u ob k).1 ++ ((((pairsL t u).drop k).take n).filter (fun p => addsL t u p)), (outL t u ob k).2 ++ ((((pairsL t u).drop k).take n).filter (fun p => !addsL t u p && !ob))) = outL t u ob (k + n) := by
  rw [← putL_is ht hu ob k, ← putL_is ht hu ob (k + n)]
  simp only [← List.filter_append, ← List.take_add]
/-- what Step tells. -/
def stepL (m : Mg) (n : Int) : Mg × Int × Int := if mright m then (if n < 0 then (mg0, 0, 2) else (mstep m (min n (leftL m)).toNat, min n (leftL m), 0)) else (mg0, 0, 220)
/-- Step's two boxes. -/
structure SI (w : World) (x0 x1 x2 x3 : Value) (ob : Bool) (n : Int) (x6 x7 : Value) (W : World) : Prop where
  box : MB w w.heap.size x0 x1 x2 x3 ob n x6 x7 W
  hz : M0 (w.heap.size + 1) W
theorem SI.keep {w : World} {x0 x1 x2 x3 : Value} {ob : Bool} {n : Int} {x6 x7 : Value} {W W' : World} (h : SI w x0 x1 x2 x3 ob n x6 x7 W) (B : Below W.heap.size W W') : SI w x0 x1 x2 x3 ob n x6 x7 W' := ⟨h.box.keep B, h.hz.keep B⟩
theorem SI.new (w : World) (x0 x1 x2 x3 : Value) (ob : Bool) (n : Int) (x6 x7 : Value) : SI w x0 x1 x2 x3 ob n x6 x7 ((w.alloc (.cells #[x0, x1, x2, x3, .bool ob, .int .i64 n, x6, x7] 26)).alloc (.cells #[.slice none 0 0, .slice none 0 0, .slice none 0 0, .slice none 0 0, .bool false, .int .i64 0, .slice none 0 0, .slice none 0 0] 26)) := by
  refine ⟨(MB.new w x0 x1 x2 x3 ob n x6 x7 26).keep (below_alloc _ _), ?_⟩
  have := MZ.new (w.alloc (.cells #[x0, x1, x2, x3, .bool ob, .int .i64 n, x6, x7] 26)) (.slice none 0 0) (.slice none 0 0) (.slice none 0 0) (.slice none 0 0) (.bool false) (.int .i64 0) (.slice none 0 0) (.slice none 0 0)
  simpa only [World.size_alloc] using this

/-- behind Step's copies. -/
structure SC (w : World) (t u r : Tr) (ob : Bool) (n : Int) (T : Nat) (x0 x1 x2 x3 x6 x7 : Value) (W : World) : Prop where
  below : Below w.heap.size w W
  hz : M0 (w.heap.size + 1) W
  hT : MZ T x0 x1 x2 x3 (.bool ob) (.int .i64 n) x6 x7 W
  ft : TFr (w.heap.size + 1 + 1) W x0 x1 t
  fu : TFr (w.heap.size + 1 + 1) W x2 x3 u
  fr : TFr (w.heap.size + 1 + 1) W x6 x7 r
theorem SC.of_set {w W wa wb wd : World} {t u r : Tr} {ob ob' : Bool} {n n' : Int} {T B1 B2 B3 : Nat} {x1 x2 x3 x4 x6 x7 z0 z1 z2 z3 z4 z5 z6 z7 a b c d e f : Value} (hT : MZ T z0 z1 z2 z3 z4 z5 z6 z7 W) (st : SI w a b c d ob' n' e f W)
    (r1 : TFr B1 wa x1 x2 t) (e1 : Below wa.heap.size wa W) (r2 : TFr B2 wb x3 x4 u) (e2 : Below wb.heap.size wb W) (r3 : TFr B3 wd x6 x7 r) (e3 : Below wd.heap.size wd W) (b1 : w.heap.size + 1 + 1 ≤ B1) (b2 : w.heap.size + 1 + 1 ≤ B2) (b3 : w.heap.size + 1 + 1 ≤ B3)
    (t1 : T < B1 ∨ wa.heap.size ≤ T) (t2 : T < B2 ∨ wb.heap.size ≤ T) (t3 : T < B3 ∨ wd.heap.size ≤ T) (nT : w.heap.size + 1 < T) :
    SC w t u r ob n T x1 x2 x3 x4 x6 x7 ((((((((W.setCell ⟨T, 0, none⟩ x1).setCell ⟨T, 1, none⟩ x2).setCell ⟨T, 2, none⟩ x3).setCell ⟨T, 3, none⟩ x4).setCell ⟨T, 4, none⟩ (.bool ob)).setCell ⟨T, 5, none⟩ (.int .i64 n)).setCell ⟨T, 6, none⟩ x6).setCell ⟨T, 7, none⟩ x7) := by
  obtain ⟨W2, hW2, m2, k2⟩ := MZ.set hT x1 x2 x3 x4 (.bool ob) (.int .i64 n) x6 x7
  rw [hW2]
  exact ⟨bel_keep st.box.1 k2 (fun k hk => by omega), st.hz.keepK k2 (by omega), m2, (r1.fin e1 k2 t1).weaken b1, (r2.fin e2 k2 t2).weaken b2, (r3.fin e3 k2 t3).weaken b3⟩
theorem SC.of_alloc {w W wa wb wd : World} {t u r : Tr} {ob ob' : Bool} {n n' : Int} {B1 B2 B3 : Nat} {x1 x2 x3 x4 x6 x7 a b c d e f : Value} (st : SI w a b c d ob' n' e f W)
    (r1 : TFr B1 wa x1 x2 t) (e1 : Below wa.heap.size wa W) (r2 : TFr B2 wb x3 x4 u) (e2 : Below wb.heap.size wb W) (r3 : TFr B3 wd x6 x7 r) (e3 : Below wd.heap.size wd W) (b1 : w.heap.size + 1 + 1 ≤ B1) (b2 : w.heap.size + 1 + 1 ≤ B2) (b3 : w.heap.size + 1 + 1 ≤ B3) :
    SC w t u r ob n W.heap.size x1 x2 x3 x4 x6 x7 (W.alloc (.cells #[x1, x2, x3, x4, .bool ob, .int .i64 n, x6, x7] 26)) :=
  ⟨bel_step st.box.1 (below_alloc _ _), st.hz.keep (below_alloc _ _), MZ.new _ _ _ _ _ _ _ _ _, (r1.below (bel_step e1 (below_alloc _ _))).weaken b1, (r2.below (bel_step e2 (below_alloc _ _))).weaken b2, (r3.below (bel_step e3 (below_alloc _ _))).weaken b3⟩
set_option maxRecDepth 100000 in
set_option maxHeartbeats 4000000 in
theorem pstep_any (oA oD nA nD uA uD : Value) (m : Mg) (n : Int) (w : World) (h : MIs w oA oD nA nD uA uD m) (hs : m.small) (l1 : m.out.1.length ≤ 1000000) (l2 : m.out.2.length ≤ 1000000) :
    Calls Try.prog 26 #[mval oA oD nA nD uA uD m.oldest m.at_, (.int .i64 (n))] w fun e w' => (∃ oA' oD' nA' nD' vA vD, e = .returned (.tuple #[mval oA' oD' nA' nD' vA vD (stepL m n).1.oldest (stepL m n).1.at_, (.int .i64 ((stepL m n).2.1)), (.int .i64 ((stepL m n).2.2))]) ∧ MFr w.heap.size w' oA' oD' nA' nD' vA vD (stepL m n).1) ∧ Below w.heap.size w w' := by
  obtain ⟨p0, c0, rfl⟩ := h.o.1.form
  obtain ⟨p1, c1, rfl⟩ := h.o.2.form
  obtain ⟨p2, c2, rfl⟩ := h.n.1.form
  obtain ⟨p3, c3, rfl⟩ := h.n.2.form
  obtain ⟨p4, c4, rfl⟩ := h.u.1.form
  obtain ⟨p5, c5, rfl⟩ := h.u.2.form
  have C := hid (fun (W : World) (B : Below w.heap.size w W) => pcheck_any _ _ _ _ _ _ m W (h.below B) hs)
  have P := hid (fun (W : World) (B : Below w.heap.size w W) => ppairs_any _ _ _ _ _ _ m W (h.below B) hs)
  have O1 := hid (fun (W : World) (B : Below w.heap.size w W) => powntier_any _ _ m.older W (h.o.below B) (by have := hs.1; omega) (by have := hs.2.1; omega))
  have O2 := hid (fun (W : World) (B : Below w.heap.size w W) => powntier_any _ _ m.newer W (h.n.below B) (by have := hs.2.2.1; omega) (by have := hs.2.2.2; omega))
  have HS := hid hs; have H := hid h; have LL := hid (And.intro l1 l2)
  clear h hs l1 l2
  unfold mval at C P ⊢
  obtain ⟨a, b, c, hE⟩ : ∃ a b c, stepL m n = (a, b, c) := ⟨_, _, _, rfl⟩
  rw [hE]
  have HE := hid hE; clear hE
  unfold stepL at HE
  simp only
  have st := hid (SI.new w (.slice p0 m.older.1.length c0) (.slice p1 m.older.2.length c1) (.slice p2 m.newer.1.length c2) (.slice p3 m.newer.2.length c3) m.oldest m.at_ (.slice p4 m.out.1.length c4) (.slice p5 m.out.2.length c5))
  cases hr : mright m
  · rw [hr] at C HE
    obtain ⟨rfl, rfl, rfl⟩ : a = mg0 ∧ b = 0 ∧ c = 220 := by have := HE.out; simp at this; exact ⟨this.1.symm, this.2.1.symm, this.2.2.symm⟩
    clear hr HE O1 O2 P LL H HS
    go_enter Try.func26, Try.ntmps26
    go_wp2_with fail
    refine (C.out _ st.out.box.1).mono ?_
    rintro e w1 ⟨rfl, B⟩
    replace st := hid (st.out.keep B)
    clear B C
    obtain ⟨y0, y1, y2, y3, y4, y5, y6, y7, y8⟩ := st.out.hz.cells
    obtain ⟨f0, f1, f2, f3, f4, f5, f6, f7⟩ := st.out.hz.free
    go_wp2_with fail
    obtain ⟨W2, hW2, m2, k2⟩ := st.out.hz.set (.slice none 0 0) (.slice none 0 0) (.slice none 0 0) (.slice none 0 0) (.bool false) (.int .i64 0) (.slice none 0 0) (.slice none 0 0)
    rw [hW2]
    clear hW2 y0 y1 y2 y3 y4 y5 y6 y7 y8
    obtain ⟨z0, z1, z2, z3, z4, z5, z6, z7, z8⟩ := m2.cells
    exact ⟨rfl, .tuple #[.agg #[.slice none 0 0, .slice none 0 0, .slice none 0 0, .slice none 0 0, .bool false, .int .i64 0, .slice none 0 0, .slice none 0 0], (.int .i64 (0)), (.int .i64 (220))], by simp [results, Try.results26, go_sem, z0, z1, z2, z3, z4, z5, z6, z7], ⟨_, _, _, _, _, _, rfl, TFr.nil _ _, TFr.nil _ _, TFr.nil _ _⟩, bel_keep st.out.box.1 k2 (fun k hk => by omega)⟩
  · rw [hr] at C HE
    by_cases hn : n < 0
    · obtain ⟨rfl, rfl, rfl⟩ : a = mg0 ∧ b = 0 ∧ c = 2 := by have := HE.out; simp [hn] at this; exact ⟨this.1.symm, this.2.1.symm, this.2.2.symm⟩
      clear hr HE O1 O2 P LL H HS
      go_enter Try.func26, Try.ntmps26
      go_wp2_with fail
      refine (C.out _ st.out.box.1).mono ?_
      rintro e w1 ⟨rfl, B⟩
      replace st := hid (st.out.keep B)
      clear B C
      obtain ⟨y0, y1, y2, y3, y4, y5, y6, y7, y8⟩ := st.out.hz.cells
      obtain ⟨f0, f1, f2, f3, f4, f5, f6, f7⟩ := st.out.hz.free
      go_wp2_with fail
      obtain ⟨W2, hW2, m2, k2⟩ := st.out.hz.set (.slice none 0 0) (.slice none 0 0) (.slice none 0 0) (.slice none 0 0) (.bool false) (.int .i64 0) (.slice none 0 0) (.slice none 0 0)
      rw [hW2]
      clear hW2 y0 y1 y2 y3 y4 y5 y6 y7 y8
      obtain ⟨z0, z1, z2, z3, z4, z5, z6, z7, z8⟩ := m2.cells
      exact ⟨rfl, .tuple #[.agg #[.slice none 0 0, .slice none 0 0, .slice none 0 0, .slice none 0 0, .bool false, .int .i64 0, .slice none 0 0, .slice none 0 0], (.int .i64 (0)), (.int .i64 (2))], by simp [results, Try.results26, go_sem, z0, z1, z2, z3, z4, z5, z6, z7], ⟨_, _, _, _, _, _, rfl, TFr.nil _ _, TFr.nil _ _, TFr.nil _ _⟩, bel_keep st.out.box.1 k2 (fun k hk => by omega)⟩
    · obtain ⟨k0, k1, ht, hu, ho⟩ := mright_at hr
      rw [oneL_pairs ht hu] at P
      have EL : leftL m = ((pairsL m.older m.newer).length : Int) - m.at_ := by unfold leftL; rw [hr]; rfl
      obtain ⟨ea, eb, rfl⟩ : mstep m (min n (leftL m)).toNat = a ∧ min n (leftL m) = b ∧ 0 = c := by have := HE.out; simpa [hn] using this
      clear HE
      rw [EL] at ea eb
      obtain ⟨N, rfl⟩ := Int.eq_ofNat_of_zero_le (show 0 ≤ n by omega)
      clear EL hr
      obtain ⟨t, u, ob, at_, r⟩ := m
      simp only at *
      obtain ⟨K, rfl⟩ := Int.eq_ofNat_of_zero_le k0
      obtain ⟨L, hL⟩ : ∃ L, pairsL t u = L := ⟨_, rfl⟩
      rw [hL] at k1 P ea eb
      have PL : Hid (L.length ≤ 800000) := by
        have := pairsL_len t u; obtain ⟨h1, h2, h3, h4⟩ := HS.out; simp only at *; rw [← hL]; show _ ≤ _; omega
      obtain ⟨q, hq⟩ : ∃ q : Nat, min (N : Int) ((L.length : Int) - (K : Int)) = (q : Int) := Int.eq_ofNat_of_zero_le (by omega)
      rw [hq] at ea eb
      subst eb
      have g0 : ¬ ((N : Int) < 0) := by omega
      have Kq := hid hq; have Kea := hid ea; have Kht := hid ht; have Khu := hid hu; have Kho := hid ho; have KL := hid hL; have Kk1 := hid k1
      clear hn k0 hq ea ht hu ho hL k1
      go_enter Try.func26, Try.ntmps26
      go_wp2_with fail
      refine (C.out _ st.out.box.1).mono ?_
      rintro e w1 ⟨rfl, B⟩
      replace st := hid (st.out.keep B)
      clear B C
      go_wp2_with fail
      have sb : MB w w.heap.size (.slice p0 t.1.length c0) (.slice p1 t.2.length c1) (.slice p2 u.1.length c2) (.slice p3 u.2.length c3) ob K (.slice p4 r.1.length c4) (.slice p5 r.2.length c5) w1.drew := st.out.box.keep (below_drew _)
      have k1 : (K : Int) ≤ (L.length : Int) := Kk1.out
      have k1' : K ≤ L.length := by omega
      have k2 : (0 : Int) ≤ (K : Int) := by omega
      have HZ := hid (st.out.hz.keep (below_drew _))
      go_region_held3 (fun W => Below w.heap.size w W ∧ W.cell? ⟨w.heap.size, 0, none⟩ = some (.slice p0 t.1.length c0) ∧ W.cell? ⟨w.heap.size, 1, none⟩ = some (.slice p1 t.2.length c1) ∧ W.cell? ⟨w.heap.size, 2, none⟩ = some (.slice p2 u.1.length c2) ∧ W.cell? ⟨w.heap.size, 3, none⟩ = some (.slice p3 u.2.length c3) ∧ W.cell? ⟨w.heap.size, 4, none⟩ = some (.bool ob) ∧ W.cell? ⟨w.heap.size, 5, none⟩ = some (.int .i64 (K : Int)) ∧ W.cell? ⟨w.heap.size, 6, none⟩ = some (.slice p4 r.1.length c4) ∧ W.cell? ⟨w.heap.size, 7, none⟩ = some (.slice p5 r.2.length c5) ∧ w.heap.size < W.heap.size) (first | assumption | go_keep)
        (first | (go_at_call 99; refine (P.out _ sb.1).mono ?_; rintro e w2 ⟨⟨v1, rfl, h1⟩, B⟩; have sc := MB.keep sb B; have HZ2 := hid (HZ.out.keep B); have R1 := hid h1.row; obtain ⟨p9, c9, rfl⟩ := h1.row.form; clear h1 B P sb HZ; have k3 : (L.length : Int) ≤ (c9 : Int) := (by obtain ⟨p', cap', e, h1, _⟩ := R1.out; simp only [Value.slice.injEq, true_and] at e; omega); have k4 : L.length ≤ c9 := (by omega); have k5 : K ≤ c9 := (by omega)))
      all_goals
        have R2 := R1.out.drop K k1'
        obtain ⟨Z, hZ⟩ : ∃ Z, L.drop K = Z := ⟨_, rfl⟩
        have hlen : L.length - K = Z.length := by rw [← hZ, List.length_drop]
        rw [hlen, hZ] at R2
        rw [hlen]
        obtain ⟨pp, hpp⟩ : ∃ pp, (if c9 = K then p9 else p9.map (·.add (K * 2))) = pp := ⟨_, rfl⟩
        obtain ⟨nn, hnn⟩ : ∃ nn, c9 - K = nn := ⟨_, rfl⟩
        rw [hpp, hnn] at R2
        rw [hpp, hnn]
        clear hpp hnn k3 k4 k5 k1 k2 R1
        have HZ3 := hid hZ; have HR2 := hid R2; have HQ : Hid (min (N : Int) (Z.length : Int) = (q : Int)) := by
          have := Kq.out; show _ = _; rw [← this]; congr 1; omega
        clear hZ R2 hlen k1'
        clear g0
        go_upto_region 7 with fail
        go_cut [1] (fun s1 wc => s1 = .int .i64 (q : Int) ∧ wc = w2)
        case first =>
          go_wp2_with fail
          all_goals
            go_meet
            have := HQ.out
            exact ⟨by congr 1; omega, rfl⟩
        case rest =>
          obtain ⟨rfl, rfl⟩ := hcut
          have HZL : Hid (q ≤ Z.length ∧ Z.length + K = L.length) := by
            have := HQ.out; have h2 := HZ3.out; have h3 := Kk1.out
            have : Z.length = L.length - K := by rw [← h2, List.length_drop]
            exact ⟨by omega, by omega⟩
          have RQ := hid (HR2.out.take q HZL.out.1)
          have hcap : Hid (Z.length ≤ nn) := by
            obtain ⟨p', cap', e, h1, _⟩ := HR2.out
            simp only [Value.slice.injEq, true_and] at e
            show _ ≤ _; omega
          have k2 : (0 : Int) ≤ (q : Int) := by omega
          have k3 : (q : Int) ≤ (nn : Int) := by have := hcap.out; have := HZL.out.1; omega
          have k4 : q ≤ nn := by omega
          have hw : IntKind.i64.wrap ((K : Int) + (q : Int)) = (K : Int) + (q : Int) := by
            have := HZL.out; have := PL.out
            exact i64_ok _ (by omega) (by omega)
          have HK : Hid ((Z.take q).length ≤ 1000000) := by have := HZL.out; have := PL.out; show _ ≤ _; rw [List.length_take]; omega
          have ER : Hid ((r.1 ++ (Z.take q).filter (fun p => addsL t u p), r.2 ++ (Z.take q).filter (fun p => !addsL t u p && !ob)) = outL t u ob (K + q)) := by
            have := Kho.out
            have h1 := outL_step Kht.out Khu.out ob K q
            rw [KL.out, HZ3.out] at h1
            simp only [Int.toNat_natCast] at this
            show _ = _
            rw [← h1, ← this]
          have PU := hid (fun (W : World) (B : Below w.heap.size w W) (v : Value) (l : List Pr) (hl : PRow W v l) (hlen : l.length ≤ 1000000) => put_any (.slice p4 r.1.length c4) (.slice p5 r.2.length c5) (.slice p0 t.1.length c0) (.slice p1 t.2.length c1) (.slice p2 u.1.length c2) (.slice p3 u.2.length c3) (.slice p4 r.1.length c4) (.slice p5 r.2.length c5) v ob K r t u l W (H.out.u.below B) (H.out.o.below B) (H.out.n.below B) hl ⟨⟨_, _, _, rfl⟩, ⟨_, _, _, rfl⟩⟩ (oneL_rises Kht.out).1 (oneL_rises Khu.out).1 (oneL_rises Khu.out).2 LL.out.1 LL.out.2 hlen (by have := HS.out.1; simp only at this; omega) (by have := HS.out.2.2.1; simp only at this; omega) (by have := HS.out.2.2.2; simp only at this; omega))
          unfold mval at PU
          have st1 : SI w (.slice p0 t.1.length c0) (.slice p1 t.2.length c1) (.slice p2 u.1.length c2) (.slice p3 u.2.length c3) ob K (.slice p4 r.1.length c4) (.slice p5 r.2.length c5) wc := ⟨sc, HZ2.out⟩
          have RW := hid (fun (W : World) (B : Below wc.heap.size wc W) => RQ.out.below B)
          go_upto_region 8 with fail
          have st : SI w (.slice p0 t.1.length c0) (.slice p1 t.2.length c1) (.slice p2 u.1.length c2) (.slice p3 u.2.length c3) ob K (.slice p4 r.1.length c4) (.slice p5 r.2.length c5) wc.drew := st1.keep (below_drew _)
          clear HZ2 sc
          go_cut [9] (fun s9 wz => ∃ (T : Nat) (v1 v2 v3 v4 v5 v6 : Value), s9 = .pointer (some ⟨T, 0, none⟩) ∧ Hid (SC w t u (outL t u ob (K + q)) ob ((K : Int) + (q : Int)) T v1 v2 v3 v4 v5 v6 wz))
          case first =>
            have hbc : Below wc.heap.size wc wc.drew := below_drew _
            have i0 : w.heap.size + 1 < wc.heap.size := ltH st1.hz
            obtain ⟨hb, s0, s1, s2, s3, s4, s5, s6, s7, s8⟩ := id st.box
            obtain ⟨-, x0, x1, x2, x3, x4, x5, x6, x7, -⟩ := id st1.box
            go_region_held3 (fun W => W.cell? ⟨w.heap.size, 0, none⟩ = some (.slice p0 t.1.length c0) ∧ W.cell? ⟨w.heap.size, 1, none⟩ = some (.slice p1 t.2.length c1) ∧ W.cell? ⟨w.heap.size, 2, none⟩ = some (.slice p2 u.1.length c2) ∧ W.cell? ⟨w.heap.size, 3, none⟩ = some (.slice p3 u.2.length c3) ∧ W.cell? ⟨w.heap.size, 4, none⟩ = some (.bool ob) ∧ W.cell? ⟨w.heap.size, 5, none⟩ = some (.int .i64 (K : Int)) ∧ W.cell? ⟨w.heap.size, 6, none⟩ = some (.slice p4 r.1.length c4) ∧ W.cell? ⟨w.heap.size, 7, none⟩ = some (.slice p5 r.2.length c5)) (first | (refine ⟨?_, ?_, ?_, ?_, ?_, ?_, ?_, ?_⟩ <;> (repeat' (first | with_reducible assumption | with_reducible refine cell_set_ne (by omega) ?_ | with_reducible refine cell_alloc ?_ | with_reducible refine cell_drew ?_))))
              (first | (go_at_call 100; refine (O1.out _ (by first | with_reducible exact hb | exact hb.alloc hb.size _ | exact (st1.box.1.alloc st1.box.1.size _).drew)).mono ?_; rintro e wa ⟨⟨v1, v2, rfl, r1⟩, B⟩; (first | (have st := st.keep B) | (have hT := (MZ.new wc (.slice none 0 0) (.slice none 0 0) (.slice none 0 0) (.slice none 0 0) (.bool false) (.int .i64 0) (.slice none 0 0) (.slice none 0 0)).keep (undrew B); have st := (st1.keep (below_alloc _ _)).keep (undrew B))); (first | (have hbc := bel_step hbc B) | (have hbc := blift (undrew B))); obtain ⟨hb, s0, s1, s2, s3, s4, s5, s6, s7, s8⟩ := id st.box; have e1 := Below.refl wa.heap.size wa; have i1 : w.heap.size + 1 < wa.heap.size := ltH st.hz; obtain ⟨q0, d0, rfl⟩ := r1.a.1.form; obtain ⟨q1, d1, rfl⟩ := r1.d.1.form; clear O1; have z1 := B.size; clear B) | (go_at_call 100; refine (O2.out _ (by first | with_reducible exact hb | exact hb.alloc hb.size _ | exact (st1.box.1.alloc st1.box.1.size _).drew)).mono ?_; rintro e wb ⟨⟨v3, v4, rfl, r2⟩, B⟩; (first | (have hT := hT.keep B) | (have hT := (MZ.new wa (.slice none 0 0) (.slice none 0 0) (.slice none 0 0) (.slice none 0 0) (.bool false) (.int .i64 0) (.slice none 0 0) (.slice none 0 0)).keep B) | skip); (first | (have st := st.keep B) | (have st := (st.keep (below_alloc _ _)).keep B)); (first | (have e1 := bel_step e1 B) | (have e1 := bel_step (bel_step e1 (below_alloc _ _)) B)); (first | (have hbc := bel_step hbc B) | (have hbc := bel_step (bel_step hbc (below_alloc _ _)) B)); obtain ⟨hb, s0, s1, s2, s3, s4, s5, s6, s7, s8⟩ := id st.box; have e2 := Below.refl wb.heap.size wb; have i2 : w.heap.size + 1 < wb.heap.size := ltH st.hz; obtain ⟨q2, d2, rfl⟩ := r2.a.1.form; obtain ⟨q3, d3, rfl⟩ := r2.d.1.form; clear O2; have z2 := B.size; clear B) | (go_at_call 101; refine (PU.out _ (by first | with_reducible exact hb | exact hb.alloc hb.size _ | exact (st1.box.1.alloc st1.box.1.size _).drew) _ _ (by first | (with_reducible exact RW.out _ hbc) | exact RW.out _ (hbc.alloc hbc.size _)) HK.out).mono ?_; rintro e wd ⟨⟨v5, v6, rfl, g1, g2⟩, B⟩; obtain ⟨q4, n4, d4, rfl⟩ : ∃ p n c, v5 = .slice p n c := (by obtain ⟨p, c, e⟩ := g1.1.form; exact ⟨p, _, c, e⟩); obtain ⟨q5, n5, d5, rfl⟩ : ∃ p n c, v6 = .slice p n c := (by obtain ⟨p, c, e⟩ := g2.1.form; exact ⟨p, _, c, e⟩); have r3 := TFr.mk (t := (_, _)) g1 g2; clear g1 g2; rw [ER.out] at r3; (first | (have hT := hT.keep B) | (have hT := (MZ.new wb (.slice none 0 0) (.slice none 0 0) (.slice none 0 0) (.slice none 0 0) (.bool false) (.int .i64 0) (.slice none 0 0) (.slice none 0 0)).keep B) | skip); (first | (have st := st.keep B) | (have st := (st.keep (below_alloc _ _)).keep B)); (first | (have e1 := bel_step e1 B) | (have e1 := bel_step (bel_step e1 (below_alloc _ _)) B)); (first | (have e2 := bel_step e2 B) | (have e2 := bel_step (bel_step e2 (below_alloc _ _)) B)); obtain ⟨hb, s0, s1, s2, s3, s4, s5, s6, s7, s8⟩ := id st.box; have e3 := Below.refl wd.heap.size wd; have i3 : w.heap.size + 1 < wd.heap.size := ltH st.hz; clear PU hbc; have z3 := B.size; clear B; (try obtain ⟨h0, h1, h2, h3, h4, h5, h6, h7, h8⟩ := hT.cells); (try obtain ⟨g0, g1, g2, g3, g4, g5, g6, g7⟩ := hT.free)))
            all_goals
              go_wp2_with fail
              go_meet
              have n1 := ltH st.hz
              try simp at z1
              try simp at z2
              try simp at z3
              first
                | (have F := hid (SC.of_alloc (ob := ob) (n := (K : Int) + (q : Int)) st r1 e1 r2 e2 r3 e3 (by first | omega | (simp <;> omega)) (by first | omega | (simp <;> omega)) (by first | omega | (simp <;> omega))); exact ⟨_, _, _, _, _, _, _, rfl, F⟩)
                | (have F := hid (SC.of_set (ob := ob) (n := (K : Int) + (q : Int)) hT st r1 e1 r2 e2 r3 e3 (by first | omega | (simp <;> omega)) (by first | omega | (simp <;> omega)) (by first | omega | (simp <;> omega)) (by first | omega | (simp <;> omega)) (by first | omega | (simp <;> omega)) (by first | omega | (simp <;> omega)) (by first | omega | (simp <;> omega))); exact ⟨_, _, _, _, _, _, _, rfl, F⟩)
          case rest =>
            obtain ⟨T, v1, v2, v3, v4, v5, v6, rfl, PC⟩ := hcut
            have EA : Hid (a = ⟨t, u, ob, (K : Int) + (q : Int), outL t u ob (K + q)⟩) := by
              have := Kea.out
              show _ = _
              rw [← this]
              simp [mstep]
            clear st st1 O1 O2 PU RW ER HK RQ HR2
            obtain ⟨q0, n0, d0, rfl⟩ : ∃ p n c, v1 = .slice p n c := (by obtain ⟨p, c, e⟩ := PC.out.ft.a.1.form; exact ⟨p, _, c, e⟩)
            obtain ⟨q1, n1, d1, rfl⟩ : ∃ p n c, v2 = .slice p n c := (by obtain ⟨p, c, e⟩ := PC.out.ft.d.1.form; exact ⟨p, _, c, e⟩)
            obtain ⟨q2, n2, d2, rfl⟩ : ∃ p n c, v3 = .slice p n c := (by obtain ⟨p, c, e⟩ := PC.out.fu.a.1.form; exact ⟨p, _, c, e⟩)
            obtain ⟨q3, n3, d3, rfl⟩ : ∃ p n c, v4 = .slice p n c := (by obtain ⟨p, c, e⟩ := PC.out.fu.d.1.form; exact ⟨p, _, c, e⟩)
            obtain ⟨q4, n4, d4, rfl⟩ : ∃ p n c, v5 = .slice p n c := (by obtain ⟨p, c, e⟩ := PC.out.fr.a.1.form; exact ⟨p, _, c, e⟩)
            obtain ⟨q5, n5, d5, rfl⟩ : ∃ p n c, v6 = .slice p n c := (by obtain ⟨p, c, e⟩ := PC.out.fr.d.1.form; exact ⟨p, _, c, e⟩)
            clear k2 k3 k4 hw hcap HZL HZ3 PL Kq Kht Khu Kho KL Kk1 HQ LL
            obtain ⟨z0, z1, z2, z3, z4, z5, z6, z7, z8⟩ := PC.out.hT.cells
            obtain ⟨y0, y1, y2, y3, y4, y5, y6, y7, y8⟩ := PC.out.hz.cells
            obtain ⟨f0, f1, f2, f3, f4, f5, f6, f7⟩ := PC.out.hz.free
            go_wp2_with fail
            obtain ⟨W2, hW2, m2, k2⟩ := PC.out.hz.set (.slice q0 n0 d0) (.slice q1 n1 d1) (.slice q2 n2 d2) (.slice q3 n3 d3) (.bool ob) (.int .i64 ((K : Int) + (q : Int))) (.slice q4 n4 d4) (.slice q5 n5 d5)
            rw [hW2]
            clear z0 z1 z2 z3 z4 z5 z6 z7 z8 hW2 y0 y1 y2 y3 y4 y5 y6 y7 y8
            obtain ⟨z0, z1, z2, z3, z4, z5, z6, z7, z8⟩ := m2.cells
            rw [EA.out]
            exact ⟨rfl, .tuple #[.agg #[.slice q0 n0 d0, .slice q1 n1 d1, .slice q2 n2 d2, .slice q3 n3 d3, .bool ob, .int .i64 ((K : Int) + (q : Int)), .slice q4 n4 d4, .slice q5 n5 d5], (.int .i64 ((q : Int))), (.int .i64 (0))], by simp [results, Try.results26, go_sem, z0, z1, z2, z3, z4, z5, z6, z7], ⟨_, _, _, _, _, _, rfl, ⟨(PC.out.ft.a.keepK k2 (fun k hk => by omega)).weaken (by omega), (PC.out.ft.d.keepK k2 (fun k hk => by omega)).weaken (by omega)⟩, ⟨(PC.out.fu.a.keepK k2 (fun k hk => by omega)).weaken (by omega), (PC.out.fu.d.keepK k2 (fun k hk => by omega)).weaken (by omega)⟩, ⟨(PC.out.fr.a.keepK k2 (fun k hk => by omega)).weaken (by omega), (PC.out.fr.d.keepK k2 (fun k hk => by omega)).weaken (by omega)⟩⟩, bel_keep PC.out.below k2 (fun k hk => by omega)⟩
end Go.Proofs.Ytlkdkhmdmgchbaa
