/- wide: Read. -/
import Derived.Test.YtdpcfpmlkhdmkaaDoorW17
namespace Go.Proofs.YtdpcfpmlkhdmkaaDoor
open Go.RowKit

def DigS (s : ByteArray) : Prop := ∀ i (h : i < s.size), 48 ≤ s[i].toNat ∧ s[i].toNat ≤ 57
/-- a row of digits, without a nought ahead. -/
def GoodS (s : ByteArray) : Prop := ∃ h : 0 < s.size, (s[0].toNat = 48 → s.toList = [48]) ∧ DigS s

structure RC (w : World) (s : ByteArray) (pos : Nat) (wr : World) : Prop where
  below : Below w.heap.size w wr
  iter : wr.heap[(w.heap.size + 1 + 1)]? = some (.stringIter s pos)
  s0 : wr.cell? ⟨w.heap.size, 0, none⟩ = some (.string s)
  r0 : wr.cell? ⟨(w.heap.size + 1), 0, none⟩ = some (.int .u64 (0))
  r1 : wr.cell? ⟨(w.heap.size + 1), 1, none⟩ = some (.int .u64 (0))
  rf0 : wr.frozen? ⟨(w.heap.size + 1), 0, none⟩ = false
  rf1 : wr.frozen? ⟨(w.heap.size + 1), 1, none⟩ = false
theorem RC.size {w wr : World} {s : ByteArray} {pos : Nat} (I : RC w s pos wr) : w.heap.size + 1 + 1 < wr.heap.size := (Array.getElem?_eq_some_iff.1 I.iter).1
theorem RC.next {w wr : World} {s : ByteArray} {pos : Nat} (I : RC w s pos wr) (pos' : Nat) : RC w s pos' (wr.iterAt (w.heap.size + 1 + 1) s pos') := by
  have z := I.size
  refine ⟨?_, Lib.iterAt_heap wr _ s pos pos' I.iter, (cell_iterAt I.iter _ _).trans I.s0, (cell_iterAt I.iter _ _).trans I.r0, (cell_iterAt I.iter _ _).trans I.r1, (frozen_iterAt I.iter _ _).trans I.rf0, (frozen_iterAt I.iter _ _).trans I.rf1⟩
  exact I.below.trans ⟨rfl, rfl, rfl, by simp [World.iterAt], fun k hk => Lib.iterAt_other wr _ k s pos' (by omega)⟩
theorem RC.start (w : World) (s : ByteArray) : RC w s 0 (((w.alloc (.cells #[.string s] 9)).alloc (.cells #[(.int .u64 (0)), (.int .u64 (0))] 27)).iter s 0) := by
  refine ⟨?_, ?_, ?_, ?_, ?_, ?_, ?_⟩
  · exact ((((Below.refl _ w).alloc (Nat.le_refl _) _).alloc (by simp) _).alloc (by simp; omega) _)
  · have := World.iter_heap ((w.alloc (.cells #[.string s] 9)).alloc (.cells #[(.int .u64 (0)), (.int .u64 (0))] 27)) s 0
    simpa using this
  all_goals (unfold World.iter; go_simp)

/-- what Read comes to. -/
def ReadPost (s : ByteArray) (w : World) (e : Ending) (w' : World) : Prop :=
  (GoodS s ∧ Checked (numOf s.data.toList : Nat) w e w') ∨ (¬ GoodS s ∧ e = .returned (.tuple #[.agg #[(.int .u64 (0)), (.int .u64 (0))], (.int .i64 (2))]) ∧ Below w.heap.size w w')

set_option maxRecDepth 100000 in
set_option maxHeartbeats 2000000 in
theorem read_any (s : ByteArray) (w : World) : Calls Tryd.prog 27 #[.string s] w (ReadPost s w) := by
  have hmf := @hmf
  have ST := hid (RC.start w s)
  by_cases h0 : s.size = 0
  · have hl : s.toList = [] := by rw [ByteArray.toList_eq]; exact List.length_eq_zero_iff.1 (by simpa using h0)
    have NG : Hid (¬ GoodS s) := fun ⟨h, _⟩ => by omega
    clear h0
    go_enter Tryd.func27, Tryd.ntmps27
    go_wp2_with fail
    refine bodyPost_ret (v := .tuple #[.agg #[(.int .u64 (0)), (.int .u64 (0))], (.int .i64 (2))]) (by simp [results, Tryd.results27, go_sem]) rfl (Or.inr ⟨NG.out, rfl, ?_⟩)
    repeat' (first | exact Below.refl _ _ | with_reducible refine Below.alloc ?_ ?_ _ | with_reducible refine Below.setCell ?_ ?_ _ | with_reducible refine Below.drew ?_ | with_reducible refine below_drewN ?_ _ | refine Below.trans ?_ (Below.mono (by assumption) ?_))
    all_goals (first | omega | (simp <;> omega))
  · have hp : 0 < s.size := by omega
    have hl : ¬ s.toList = [] := by
      rw [ByteArray.toList_eq]; intro e
      have := congrArg List.length e
      simp at this
      exact h0 (by rw [this]; rfl)
    have hl' : s.toList.isEmpty = false := by simpa using hl
    by_cases hb : s[0].toNat = 48 ∧ ¬ s.toList = [48]
    · have NG : Hid (¬ GoodS s) := fun ⟨h, h1, _⟩ => hb.2 (h1 hb.1)
      have b1 : (s[0].toNat : Int) = 48 := by omega
      have b2 : (s.toList == [48]) = false := by rw [beq_eq_false_iff_ne]; exact hb.2
      clear hb h0
      go_enter Tryd.func27, Tryd.ntmps27
      go_wp2_with fail
      refine bodyPost_ret (v := .tuple #[.agg #[(.int .u64 (0)), (.int .u64 (0))], (.int .i64 (2))]) (by simp [results, Tryd.results27, go_sem]) rfl (Or.inr ⟨NG.out, rfl, ?_⟩)
      repeat' (first | exact Below.refl _ _ | with_reducible refine Below.alloc ?_ ?_ _ | with_reducible refine Below.setCell ?_ ?_ _ | with_reducible refine Below.drew ?_ | with_reducible refine below_drewN ?_ _ | refine Below.trans ?_ (Below.mono (by assumption) ?_))
      all_goals (first | omega | (simp <;> omega))
    · have HB : Hid (s[0].toNat = 48 → s.toList = [48]) := fun h => by
        false_or_by_contra
        exact hb ⟨h, by assumption⟩
      have key : (¬ (s[0].toNat : Int) = 48) ∨ ((s[0].toNat : Int) = 48 ∧ (s.toList == [48]) = true) := by
        by_cases q : s[0].toNat = 48
        · exact .inr ⟨by omega, by rw [beq_iff_eq]; exact HB.out q⟩
        · exact .inl (by omega)
      clear hb h0
      rcases key with b1 | ⟨b1, b2⟩
      all_goals
        go_enter Tryd.func27, Tryd.ntmps27
        go_wp2_with fail
        go_loopw [] (fun wr => ∃ pos, RC w s pos wr ∧ pos ≤ s.size ∧ Hid (∀ i (h : i < s.size), i < pos → 48 ≤ s[i].toNat ∧ s[i].toNat ≤ 57)) (fun wr => readMu (w.heap.size + 1 + 1) s.size wr)
        case atStart => exact ⟨0, ST.out, Nat.zero_le _, fun i h h' => by omega⟩
        case round =>
          clear ST
          obtain ⟨pos, I, hps, HD⟩ := hrel
          by_cases hpos : pos < s.size
          · by_cases hasc : s[pos].toNat < 128
            · have hnx := fun ty => Lib.run_next_ascii_at (P := Tryd.prog) wr (w.heap.size + 1 + 1) s pos ty I.iter hpos hasc
              have HI := hid I.iter
              have IZ := hid (I.next (pos + 1)); clear I
              by_cases hdig : 48 ≤ s[pos].toNat ∧ s[pos].toNat ≤ 57
              · have HN := hid hdig
                obtain ⟨i0, i1⟩ := hdig
                have q1 : ¬ (s[pos].toNat : Int) < 48 := by omega
                have q2 : ¬ (57 : Int) < (s[pos].toNat : Int) := by omega
                go_wp2_with fail
                refine ⟨⟨pos + 1, IZ.out, hpos, ?_⟩, ?_⟩
                · intro i h h'
                  by_cases e : i = pos
                  · subst e; exact HN.out
                  · exact HD.out i h (by omega)
                · rw [readMu_at IZ.out.iter, readMu_at HI.out]; omega
              · have NG : Hid (¬ GoodS s) := fun ⟨_, _, h⟩ => hdig (h pos hpos)
                obtain ⟨_, _, s0, r0, r1, rf0, rf1⟩ := IZ.out
                have key : (s[pos].toNat : Int) < 48 ∨ (¬ (s[pos].toNat : Int) < 48 ∧ (57 : Int) < (s[pos].toNat : Int)) := by omega
                clear hdig
                rcases key with q1 | ⟨q1, q2⟩
                all_goals
                  go_wp2_with fail
                  refine bodyPost_ret (v := .tuple #[.agg #[(.int .u64 (0)), (.int .u64 (0))], (.int .i64 (2))]) (by simp [results, Tryd.results27, go_sem, r0, r1]) rfl (Or.inr ⟨NG.out, rfl, ?_⟩)
                  exact (IZ.out.below.setCell (by simp) _).setCell (by simp) _
            · have NG : Hid (¬ GoodS s) := fun ⟨_, _, h⟩ => by have := h pos hpos; omega
              have hnx := fun ty => Lib.run_next_any_at (P := Tryd.prog) wr (w.heap.size + 1 + 1) s pos ty I.iter hpos
              have hdec := (decode_high s pos hpos (by omega)).1
              generalize (Utf8.decode s pos).1 = r at *
              generalize (Utf8.decode s pos).2 = m at *
              have IZ := hid (I.next (pos + m)); clear I
              obtain ⟨_, _, s0, r0, r1, rf0, rf1⟩ := IZ.out
              have q1 : ¬ (r : Int) < 48 := by omega
              have q2 : (57 : Int) < (r : Int) := by omega
              go_wp2_with fail
              refine bodyPost_ret (v := .tuple #[.agg #[(.int .u64 (0)), (.int .u64 (0))], (.int .i64 (2))]) (by simp [results, Tryd.results27, go_sem, r0, r1]) rfl (Or.inr ⟨NG.out, rfl, ?_⟩)
              exact (IZ.out.below.setCell (by simp) _).setCell (by simp) _
          · have hnx := fun ty => Lib.run_next_end_at (P := Tryd.prog) wr (w.heap.size + 1 + 1) s pos ty I.iter hpos
            have IZ := hid I; clear I
            have DS : Hid (DigS s) := fun i h => HD.out i h (by omega)
            have GS : Hid (GoodS s) := ⟨hp, HB.out, DS.out⟩
            have z := IZ.out.size
            obtain ⟨_, _, s0, r0, r1, rf0, rf1⟩ := IZ.out
            go_wp2_with fail
            refine (checked_any 50 _ (numOf s.data.toList : Nat) _ (by intro w; simp [go_sem]) ?_).mono ?_
            · intro w1 B
              exact read1 _ s w1 (cellB B s0) DS.out
            rintro e w1 ⟨B, ⟨hN, h, l, rfl, u1, u2, u3⟩ | ⟨hN, rfl⟩⟩
            · have U3 := hid u3; clear u3
              have HN := hid hN; clear hN
              have k0 := cellB B r0
              have k1 := cellB B r1
              have f0 := (B.frozen (p := ⟨w.heap.size + 1, 0, none⟩) (show w.heap.size + 1 < _ by omega)).trans rf0
              have f1 := (B.frozen (p := ⟨w.heap.size + 1, 1, none⟩) (show w.heap.size + 1 < _ by omega)).trans rf1
              have BB := hid (IZ.out.below.trans (B.mono IZ.out.below.size))
              clear s0 r0 r1 rf0 rf1
              go_wp2_with fail
              refine bodyPost_ret (v := .tuple #[.agg #[(.int .u64 (h)), (.int .u64 (l))], (.int .i64 (0))]) (by simp [results, Tryd.results27, go_sem, k0, k1]) rfl (Or.inl ⟨GS.out, ?_, Or.inl ⟨HN.out, _, _, rfl, u1, u2, U3.out⟩⟩)
              exact (BB.out.setCell (by simp) _).setCell (by simp) _
            · have HN := hid hN; clear hN
              have k0 := cellB B r0
              have k1 := cellB B r1
              have f0 := (B.frozen (p := ⟨w.heap.size + 1, 0, none⟩) (show w.heap.size + 1 < _ by omega)).trans rf0
              have f1 := (B.frozen (p := ⟨w.heap.size + 1, 1, none⟩) (show w.heap.size + 1 < _ by omega)).trans rf1
              have BB := hid (IZ.out.below.trans (B.mono IZ.out.below.size))
              clear s0 r0 r1 rf0 rf1
              go_wp2_with fail
              refine bodyPost_ret (v := .tuple #[.agg #[(.int .u64 (0)), (.int .u64 (0))], (.int .i64 (110))]) (by simp [results, Tryd.results27, go_sem, k0, k1]) rfl (Or.inl ⟨GS.out, ?_, Or.inr ⟨Int.not_lt.2 HN.out, rfl⟩⟩)
              exact (BB.out.setCell (by simp) _).setCell (by simp) _
end Go.Proofs.YtdpcfpmlkhdmkaaDoor
