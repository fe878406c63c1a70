/- the document's merges: Same. -/
import Derived.Test.YtlkdkhmdmgchbaaF11
namespace Go.Proofs.Ytlkdkhmdmgchbaa
set_option linter.unusedSimpArgs false
set_option linter.unusedVariables false
open Go.RowKit

set_option maxRecDepth 100000 in
set_option maxHeartbeats 4000000 in
theorem msame_any (oA oD nA nD uA uD oA' oD' nA' nD' uA' uD' : Value) (m m' : Mg) (w : World) (h : MIs w oA oD nA nD uA uD m) (h' : MIs w oA' oD' nA' nD' uA' uD' m') :
    Calls Try.prog 31 #[mval oA oD nA nD uA uD m.oldest m.at_, mval oA' oD' nA' nD' uA' uD' m'.oldest m'.at_] w fun e w' => e = .returned (.bool (decide (m = m'))) ∧ Below w.heap.size w w' := by
  obtain ⟨p0, c0, rfl⟩ := h.o.1.form
  obtain ⟨p1, c1, rfl⟩ := h.o.2.form
  obtain ⟨p2, c2, rfl⟩ := h.n.1.form
  obtain ⟨p3, c3, rfl⟩ := h.n.2.form
  obtain ⟨p4, c4, rfl⟩ := h.u.1.form
  obtain ⟨p5, c5, rfl⟩ := h.u.2.form
  obtain ⟨q0, d0, rfl⟩ := h'.o.1.form
  obtain ⟨q1, d1, rfl⟩ := h'.o.2.form
  obtain ⟨q2, d2, rfl⟩ := h'.n.1.form
  obtain ⟨q3, d3, rfl⟩ := h'.n.2.form
  obtain ⟨q4, d4, rfl⟩ := h'.u.1.form
  obtain ⟨q5, d5, rfl⟩ := h'.u.2.form
  have P1 := hid (fun (W : World) (B : Below w.heap.size w W) => sametier_any _ _ _ _ m.older m'.older W (h.o.below B) (h'.o.below B))
  have P2 := hid (fun (W : World) (B : Below w.heap.size w W) => sametier_any _ _ _ _ m.newer m'.newer W (h.n.below B) (h'.n.below B))
  have P3 := hid (fun (W : World) (B : Below w.heap.size w W) => sametier_any _ _ _ _ m.out m'.out W (h.u.below B) (h'.u.below B))
  have E : Hid (decide (m = m') = (decide (m.oldest = m'.oldest) && decide (m.at_ = m'.at_) && decide (m.older = m'.older) && decide (m.newer = m'.newer) && decide (m.out = m'.out))) := by
    show _ = _
    obtain ⟨t, u, ob, n, r⟩ := m
    obtain ⟨t', u', ob', n', r'⟩ := m'
    rw [Bool.eq_iff_iff]
    simp [Mg.mk.injEq]
    constructor
    · rintro ⟨a, b, c, d, e⟩; exact ⟨⟨⟨⟨c, d⟩, a⟩, b⟩, e⟩
    · rintro ⟨⟨⟨⟨c, d⟩, a⟩, b⟩, e⟩; exact ⟨a, b, c, d, e⟩
  rw [E.out]
  clear h h' E
  unfold mval
  obtain ⟨t, u, ob, n, r⟩ := m
  obtain ⟨t', u', ob', n', r'⟩ := m'
  simp only at *
  generalize decide (t = t') = e1 at *
  generalize decide (u = u') = e2 at *
  generalize decide (r = r') = e3 at *
  have st := hid ((MB.new w (.slice p0 t.1.length c0) (.slice p1 t.2.length c1) (.slice p2 u.1.length c2) (.slice p3 u.2.length c3) ob n (.slice p4 r.1.length c4) (.slice p5 r.2.length c5) 26).keep (below_alloc _ (.cells #[.slice q0 t'.1.length d0, .slice q1 t'.2.length d1, .slice q2 u'.1.length d2, .slice q3 u'.2.length d3, .bool ob', .int .i64 n', .slice q4 r'.1.length d4, .slice q5 r'.2.length d5] 26)))
  have su := hid (MB.new (w.alloc (.cells #[.slice p0 t.1.length c0, .slice p1 t.2.length c1, .slice p2 u.1.length c2, .slice p3 u.2.length c3, .bool ob, .int .i64 n, .slice p4 r.1.length c4, .slice p5 r.2.length c5] 26)) (.slice q0 t'.1.length d0) (.slice q1 t'.2.length d1) (.slice q2 u'.1.length d2) (.slice q3 u'.2.length d3) ob' n' (.slice q4 r'.1.length d4) (.slice q5 r'.2.length d5) 26)
  by_cases hb : ob = ob'
  · subst hb
    by_cases hn : n = n'
    · subst hn
      go_enter Try.func31, Try.ntmps31
      go_wp2_with fail
      refine (P1.out _ st.out.1).mono ?_
      rintro e w1 ⟨rfl, B⟩
      replace st := hid (st.out.keep B)
      replace su := hid (su.out.keep B)
      cases e1
      · go_wp2_with fail
        go_ret
        exact ⟨by simp, st.out.1⟩
      · obtain ⟨-, a0, a1, a2, a3, a4, a5, a6, a7, a8⟩ := st.out
        obtain ⟨-, b0, b1, b2, b3, b4, b5, b6, b7, b8⟩ := su.out
        simp only [World.size_alloc] at b0 b1 b2 b3 b4 b5 b6 b7 b8
        go_wp2_with fail
        refine (P2.out _ st.out.1).mono ?_
        rintro e w2 ⟨rfl, B⟩
        replace st := hid (st.out.keep B)
        replace su := hid (su.out.keep B)
        clear a0 a1 a2 a3 a4 a5 a6 a7 a8 b0 b1 b2 b3 b4 b5 b6 b7 b8
        cases e2
        · go_wp2_with fail
          go_ret
          exact ⟨by simp, st.out.1⟩
        · obtain ⟨-, a0, a1, a2, a3, a4, a5, a6, a7, a8⟩ := st.out
          obtain ⟨-, b0, b1, b2, b3, b4, b5, b6, b7, b8⟩ := su.out
          simp only [World.size_alloc] at b0 b1 b2 b3 b4 b5 b6 b7 b8
          go_wp2_with fail
          refine (P3.out _ st.out.1).mono ?_
          rintro e w3 ⟨rfl, B⟩
          replace st := hid (st.out.keep B)
          clear a0 a1 a2 a3 a4 a5 a6 a7 a8 b0 b1 b2 b3 b4 b5 b6 b7 b8
          go_wp2_with fail
          go_ret
          exact ⟨by simp, st.out.1⟩
    · have q : (n == n') = false := by simpa using hn
      have qd : decide (n = n') = false := by simpa using hn
      rw [qd]
      clear hn qd
      go_enter Try.func31, Try.ntmps31
      go_wp2_with fail
      go_ret
      exact ⟨by simp, st.out.1⟩
  · have q : (ob == ob') = false := by simpa using hb
    have qd : decide (ob = ob') = false := by simpa using hb
    rw [qd]
    clear hb qd
    go_enter Try.func31, Try.ntmps31
    go_wp2_with fail
    go_ret
    exact ⟨by simp, st.out.1⟩
end Go.Proofs.Ytlkdkhmdmgchbaa
