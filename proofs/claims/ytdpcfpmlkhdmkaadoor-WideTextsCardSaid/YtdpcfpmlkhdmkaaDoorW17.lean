/- wide: Read's closure. -/
import Derived.Test.YtdpcfpmlkhdmkaaDoorL1
import Derived.Lib.OthersKept
import Derived.Deep.RegionWith
namespace Go.Proofs.YtdpcfpmlkhdmkaaDoor
open Go.RowKit

/-- the number that a row of digits says. -/
def numOf (l : List UInt8) : Nat := l.foldl (fun n c => n * 10 + (c.toNat - 48)) 0
theorem numOf_snoc (l : List UInt8) (c : UInt8) : numOf (l ++ [c]) = numOf l * 10 + (c.toNat - 48) := by simp [numOf]
theorem numOf_from (l : List UInt8) : ∀ n : Nat, n ≤ l.foldl (fun n c => n * 10 + (c.toNat - 48)) n := by
  induction l with
  | nil => intro n; exact Nat.le_refl _
  | cons c l ih =>
    intro n
    rw [List.foldl_cons]
    exact Nat.le_trans (show n ≤ n * 10 + (c.toNat - 48) by omega) (ih _)
theorem numOf_take (s : ByteArray) (k : Nat) : numOf (s.data.toList.take k) ≤ numOf s.data.toList := by
  have h : s.data.toList = s.data.toList.take k ++ s.data.toList.drop k := (List.take_append_drop _ _).symm
  unfold numOf
  conv => rhs; rw [h, List.foldl_append]
  exact numOf_from (s.data.toList.drop k) _
theorem take_snoc (s : ByteArray) (k : Nat) (h : k < s.size) : s.data.toList.take (k + 1) = s.data.toList.take k ++ [s[k]] := by
  rw [List.take_succ_eq_append_getElem (by simpa using h)]; rfl

theorem cell_iterAt {w : World} {k pos pos' : Nat} {s : ByteArray} (hk : w.heap[k]? = some (.stringIter s pos)) (b o : Nat) : (w.iterAt k s pos').cell? ⟨b, o, none⟩ = w.cell? ⟨b, o, none⟩ := by
  by_cases h : b = k
  · subst h
    simp only [World.cell?, Lib.iterAt_heap w b s pos pos' hk, hk]
  · simp only [World.cell?, Lib.iterAt_other w k b s pos' h]
theorem frozen_iterAt {w : World} {k pos pos' : Nat} {s : ByteArray} (hk : w.heap[k]? = some (.stringIter s pos)) (b o : Nat) : (w.iterAt k s pos').frozen? ⟨b, o, none⟩ = w.frozen? ⟨b, o, none⟩ := by
  by_cases h : b = k
  · subst h
    simp only [World.frozen?, Lib.iterAt_heap w b s pos pos' hk, hk]
  · simp only [World.frozen?, Lib.iterAt_other w k b s pos' h]

structure RB (w : World) (s : ByteArray) (pos : Nat) (h l : Int) (wr : World) : Prop where
  below : Below w.heap.size w wr
  iter : wr.heap[(w.heap.size + 1 + 1)]? = some (.stringIter s pos)
  r0 : wr.cell? ⟨w.heap.size, 0, none⟩ = some (.int .u64 (0))
  r1 : wr.cell? ⟨w.heap.size, 1, none⟩ = some (.int .u64 (0))
  rf0 : wr.frozen? ⟨w.heap.size, 0, none⟩ = false
  rf1 : wr.frozen? ⟨w.heap.size, 1, none⟩ = false
  o0 : wr.cell? ⟨(w.heap.size + 1), 0, none⟩ = some (.int .u64 (h))
  o1 : wr.cell? ⟨(w.heap.size + 1), 1, none⟩ = some (.int .u64 (l))
  of0 : wr.frozen? ⟨(w.heap.size + 1), 0, none⟩ = false
  of1 : wr.frozen? ⟨(w.heap.size + 1), 1, none⟩ = false
theorem RB.size {w wr : World} {s : ByteArray} {pos : Nat} {h l : Int} (I : RB w s pos h l wr) : w.heap.size + 1 + 1 < wr.heap.size := (Array.getElem?_eq_some_iff.1 I.iter).1
theorem RB.keep {w wr W : World} {s : ByteArray} {pos : Nat} {h l : Int} (I : RB w s pos h l wr) (B : Below wr.heap.size wr W) : RB w s pos h l W := by
  have z := I.size
  exact ⟨I.below.trans (B.mono I.below.size), (B.block _ z).trans I.iter, cellB B I.r0, cellB B I.r1, (B.frozen (p := ⟨_, 0, none⟩) (show w.heap.size < _ by omega)).trans I.rf0, (B.frozen (p := ⟨_, 1, none⟩) (show w.heap.size < _ by omega)).trans I.rf1,
    cellB B I.o0, cellB B I.o1, (B.frozen (p := ⟨_, 0, none⟩) (show w.heap.size + 1 < _ by omega)).trans I.of0, (B.frozen (p := ⟨_, 1, none⟩) (show w.heap.size + 1 < _ by omega)).trans I.of1⟩
theorem RB.next {w wr : World} {s : ByteArray} {pos : Nat} {h l : Int} (I : RB w s pos h l wr) (pos' : Nat) : RB w s pos' h l (wr.iterAt (w.heap.size + 1 + 1) s pos') := by
  have z := I.size
  refine ⟨?_, Lib.iterAt_heap wr _ s pos pos' I.iter, (cell_iterAt I.iter _ _).trans I.r0, (cell_iterAt I.iter _ _).trans I.r1, (frozen_iterAt I.iter _ _).trans I.rf0, (frozen_iterAt I.iter _ _).trans I.rf1,
    (cell_iterAt I.iter _ _).trans I.o0, (cell_iterAt I.iter _ _).trans I.o1, (frozen_iterAt I.iter _ _).trans I.of0, (frozen_iterAt I.iter _ _).trans I.of1⟩
  exact I.below.trans ⟨rfl, rfl, rfl, by simp [World.iterAt], fun k hk => Lib.iterAt_other wr _ k s pos' (by omega)⟩
theorem RB.store {w wr : World} {s : ByteArray} {pos : Nat} {h l : Int} (I : RB w s pos h l wr) (h' l' : Int) : RB w s pos h' l' ((wr.setCell ⟨(w.heap.size + 1), 0, none⟩ (.int .u64 (h'))).setCell ⟨(w.heap.size + 1), 1, none⟩ (.int .u64 (l'))) := by
  obtain ⟨b, i, r0, r1, rf0, rf1, o0, o1, of0, of1⟩ := I
  refine ⟨(b.setCell (by simp) _).setCell (by simp) _, ?_, by go_simp, by go_simp, by go_simp, by go_simp, by go_simp, by go_simp, by go_simp, by go_simp⟩
  rw [Below.heap_setCell _ _ _ _ (by simp), Below.heap_setCell _ _ _ _ (by simp)]
  exact i

theorem W128.zl (x : Int) : W128 0 x = x := by unfold W128; simp
theorem pan1 {h l : Int} {a b c : Nat} {ch : Nat} (h1 : W128 h l = (a : Int)) (h2 : (b : Int) = (a : Int) * 10 + ((ch : Int) - 48)) (h3 : b ≤ c) (i0 : 48 ≤ ch) (ht : ¬ W128 h l * W128 0 10 < M * M) : ¬ ((c : Nat) : Int) < M * M := by
  rw [h1, W128.zl] at ht; omega
theorem pan2 {h l h2 l2 : Int} {a b c : Nat} {ch : Nat} (h1 : W128 h l = (a : Int)) (hb : (b : Int) = (a : Int) * 10 + ((ch : Int) - 48)) (h3 : b ≤ c) (e2 : W128 h2 l2 = W128 h l * W128 0 10) (ht : ¬ W128 h2 l2 + W128 0 ((ch : Int) - 48) < M * M) : ¬ ((c : Nat) : Int) < M * M := by
  rw [e2, h1, W128.zl, W128.zl] at ht; omega

def readMu (k n : Nat) (w : World) : Nat := n - w.iterPos k
theorem readMu_at {k n pos : Nat} {w : World} {s : ByteArray} (h : w.heap[k]? = some (.stringIter s pos)) : readMu k n w = n - pos := by
  unfold readMu World.iterPos; rw [h]

set_option maxRecDepth 100000 in
set_option maxHeartbeats 2000000 in
theorem read1 (p : Nat) (s : ByteArray) (w : World) (hs : w.cell? ⟨p, 0, none⟩ = some (.string s)) (hd : ∀ i (h : i < s.size), 48 ≤ s[i].toNat ∧ s[i].toNat ≤ 57) :
    Calls Tryd.prog 50 #[.pointer (some ⟨p, 0, none⟩)] w (WideOr (numOf s.data.toList : Nat) w) := by
  have hp : p < w.heap.size := World.block_lt_of_cell? _ _ hs
  have HD := hid hd; clear hd
  go_enter Tryd.func50, Tryd.ntmps50
  go_wp2_with fail
  go_loopw [] (fun wr => ∃ pos h l, RB w s pos h l wr ∧ pos ≤ s.size ∧ U64 h ∧ U64 l ∧ Hid (W128 h l = (numOf (s.data.toList.take pos) : Nat))) (fun wr => readMu (w.heap.size + 1 + 1) s.size wr)
  case atStart =>
    refine ⟨0, 0, 0, ⟨?_, ?_, ?_, ?_, ?_, ?_, ?_, ?_, ?_, ?_⟩, Nat.zero_le _, U64.zero, U64.zero, rfl⟩
    · exact ((((Below.refl _ w).alloc (Nat.le_refl _) _).alloc (by simp) _).alloc (by simp; omega) _)
    · have := World.iter_heap ((w.alloc (.cells #[(.int .u64 (0)), (.int .u64 (0))] 27)).alloc (.cells #[(.int .u64 (0)), (.int .u64 (0))] 27)) s 0
      simpa using this
    all_goals (unfold World.iter; go_simp)
  case round =>
    obtain ⟨pos, h, l, I, hps, uh, ul, NUM⟩ := hrel
    by_cases hpos : pos < s.size
    · have hdp := HD.out pos hpos
      have hnx := fun ty => Lib.run_next_ascii_at (P := Tryd.prog) wr (w.heap.size + 1 + 1) s pos ty I.iter hpos (by omega)
      have IZ := hid (I.next (pos + 1)); have HI := hid I.iter; clear I
      go_wp2_with fail
      have IZ' := hid (IZ.out.keep (below_drew _))
      have SN : Hid ((numOf (s.data.toList.take (pos + 1)) : Int) = (numOf (s.data.toList.take pos) : Int) * 10 + ((s[pos].toNat : Int) - 48)) := by
        show _ = _
        rw [take_snoc s pos hpos, numOf_snoc]
        omega
      have LE := hid (numOf_take s (pos + 1))
      obtain ⟨i0, i1⟩ := hdp
      generalize s[pos].toNat = ch at *
      generalize (wr.iterAt (w.heap.size + 1 + 1) s (pos + 1)) = wz at *
      clear hnx
      have w1 : IntKind.i32.wrap ((ch : Int) - 48) = (ch : Int) - 48 := IntWalk.i32_in _ ⟨by omega, by omega⟩
      have w2 : IntKind.u64.wrap ((ch : Int) - 48) = (ch : Int) - 48 := IntWalk.u64_in _ ⟨by omega, by omega⟩
      have ud : U64 ((ch : Int) - 48) := by unfold U64; rw [M_lit]; omega
      have u10 : U64 10 := by unfold U64; rw [M_lit]; omega
      obtain ⟨_, _, r0, r1, rf0, rf1, o0, o1, of0, of1⟩ := IZ.out
      go_region_with (first | (go_at_call_of 13 (Value.int IntKind.u64 10); refine (of_any _ _).mono ?_; rintro e wo ⟨rfl, Bo⟩; have IO := hid (IZ'.out.keep Bo); clear Bo; obtain ⟨_, _, _, _, _, _, _, _, _, _⟩ := IO.out) | (go_at_call 38; refine (times_any h l 0 10 _ uh ul U64.zero u10).mono ?_; rintro e wt ⟨Bt, ht⟩; have IT := hid (IO.out.keep Bt); clear Bt; rcases ht.symm with ⟨hu, rfl⟩ | ⟨hu, h2, l2, rfl, uh2, ul2, e2⟩; focus (go_loud (exact ⟨rfl, IT.out.below, Or.inr ⟨pan1 NUM.out SN.out LE.out i0 hu, rfl⟩⟩))) | (go_at_call 13; refine (of_any _ _).mono ?_; rintro e wq ⟨rfl, Bq⟩; have IQ := hid (IT.out.keep Bq); clear Bq) | (go_at_call 41; refine (plus_any h2 l2 0 _ _ uh2 ul2 U64.zero ud).mono ?_; rintro e wp ⟨Bp, hpl⟩; have IP := hid (IQ.out.keep Bp); clear Bp; obtain ⟨_, _, _, _, _, _, _, _, _, _⟩ := IP.out; rcases hpl.symm with ⟨hv, rfl⟩ | ⟨hv, h3, l3, rfl, uh3, ul3, e3⟩; focus (exact ⟨rfl, IP.out.below, Or.inr ⟨pan2 NUM.out SN.out LE.out e2 hv, rfl⟩⟩)))
      all_goals
        go_wp2_with fail
        refine ⟨⟨pos + 1, h3, l3, IP.out.store h3 l3, hpos, uh3, ul3, ?_⟩, ?_⟩
        · show _ = _
          have a := SN.out
          have b := NUM.out
          rw [e3, e2, b, W128.zl, W128.zl]
          omega
        · rw [readMu_at (IP.out.store h3 l3).iter, readMu_at HI.out]
          omega
    · have hnx := fun ty => Lib.run_next_end_at (P := Tryd.prog) wr (w.heap.size + 1 + 1) s pos ty I.iter hpos
      have IZ := hid I
      obtain ⟨_, _, r0, r1, rf0, rf1, o0, o1, of0, of1⟩ := I
      go_wp2_with fail
      have E : Hid (W128 h l = (numOf s.data.toList : Nat)) := by
        show _ = _
        rw [NUM.out, List.take_of_length_le (by simp; omega)]
      refine bodyPost_ret (v := .agg #[(.int .u64 (h)), (.int .u64 (l))]) (by simp [results, Tryd.results50, go_sem, r0, r1]) rfl ⟨?_, Or.inl ⟨?_, _, _, rfl, uh, ul, E.out⟩⟩
      · exact (IZ.out.below.setCell (Nat.le_refl _) _).setCell (Nat.le_refl _) _
      · rw [← E.out]; exact (W128.lt uh ul).2
end Go.Proofs.YtdpcfpmlkhdmkaaDoor
