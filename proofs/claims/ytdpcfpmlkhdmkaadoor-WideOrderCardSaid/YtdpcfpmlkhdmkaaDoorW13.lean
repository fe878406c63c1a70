/- wide: Text. -/
import Derived.Test.YtdpcfpmlkhdmkaaDoorW12
namespace Go.Proofs.YtdpcfpmlkhdmkaaDoor
open Go.RowKit Go.Shelf
attribute [local go_sem] Oper.semAt_some

theorem digits_any (a b : Int) (w : World) : Calls Tryd.prog 49 #[.agg #[(.int .u64 (a)), (.int .u64 (b))]] w fun e w' =>
    e = .returned (.func (.func 57) #[] #[.pointer (some ⟨w.heap.size, 0, none⟩)]) ∧ w.alloc (.cells #[(.int .u64 (a)), (.int .u64 (b))] 27) = w' := by
  have hmf := @hmf
  go_enter Tryd.func49, Tryd.ntmps49
  go_wp2_with fail
  go_ret
  exact ⟨rfl, rfl⟩

/-- the forty bytes behind some digits. -/
def rowOf (pre : List Int) : Array Value := (List.replicate (40 - pre.length) (Value.int .u8 0) ++ (pre.reverse.map fun d => Value.int .u8 (48 + d))).toArray
theorem rowOf_size (pre : List Int) (h : pre.length ≤ 40) : (rowOf pre).size = 40 := by simp [rowOf]; omega
theorem rowOf_snoc (pre : List Int) (x : Int) (h : pre.length < 40) : (rowOf pre).setIfInBounds (40 - pre.length - 1) (.int .u8 (48 + x)) = rowOf (pre ++ [x]) := by
  unfold rowOf
  obtain ⟨k, hk⟩ : ∃ k, 40 - pre.length = k + 1 := ⟨40 - pre.length - 1, by omega⟩
  rw [List.length_append, List.length_singleton, show 40 - (pre.length + 1) = k from by omega, hk, Nat.add_sub_cancel, List.replicate_succ']
  simp [List.set_append]

structure TextI (w0 : World) (all : List Int) (s1 s2 : Nat) (pre : List Int) (W : World) : Prop where
  below : Below s1 w0 W
  row : W.heap[s1 + 1]? = some (.cells (rowOf pre) 69 (0, 0))
  at_ : W.heap[s2]? = some (.cells #[.int .i64 (40 - (pre.length : Int))] 3 (0, 0))
  pre : pre <+: all

theorem TextI.keeps {w0 : World} {all : List Int} {s1 s2 : Nat} {pre : List Int} {W W' : World} (h : TextI w0 all s1 s2 pre W) {K : Nat → Prop} (hk : Keeps K W W')
    (h1 : ∀ k, k < s1 → K k) (h2 : K (s1 + 1)) (h3 : K s2) : TextI w0 all s1 s2 pre W' := by
  have lt_of : ∀ {W : World} {k : Nat} {o : Obj}, W.heap[k]? = some o → k < W.heap.size := fun h => (Array.getElem?_eq_some_iff.1 h).1
  have r := lt_of h.row
  refine ⟨h.below.trans ⟨hk.os, hk.tape, hk.output, hk.size, fun k hlt => hk.block k (by omega) (h1 k hlt)⟩, (hk.block _ r h2).trans h.row, (hk.block _ (lt_of h.at_) h3).trans h.at_, h.pre⟩

theorem setCell_heap_same {w : World} {b o : Nat} {c : Array Value} {t : TypeId} {fz : Nat × Nat} {u : Value} (h : w.heap[b]? = some (.cells c t fz)) :
    (w.setCell ⟨b, o, none⟩ u).heap[b]? = some (.cells (c.setIfInBounds o u) t fz) := by
  have hlt := (Array.getElem?_eq_some_iff.1 h).1
  show (w.heap.modify b _)[b]? = _
  rw [Array.getElem?_eq_getElem (by simpa using hlt), Array.getElem_modify_self, (Array.getElem?_eq_some_iff.1 h).2]
  rfl
theorem Keeps.below' {B : Nat} {w w' : World} (h : Keeps (fun k => k < B) w w') (hB : B ≤ w.heap.size) : Below B w w' :=
  ⟨h.os, h.tape, h.output, h.size, fun k hk => h.block k (by omega) hk⟩
theorem alloc_heap_at {w : World} {o : Obj} {k : Nat} (h : k = w.heap.size) : (w.alloc o).heap[k]? = some o := by subst h; exact World.alloc_heap_new w o
theorem cell_of_heap {w : World} {b o : Nat} {c : Array Value} {t : TypeId} {fz : Nat × Nat} (h : w.heap[b]? = some (.cells c t fz)) : w.cell? ⟨b, o, none⟩ = c[o]? := by simp [World.cell?, h]
theorem free_of_heap {w : World} {b o : Nat} {c : Array Value} {t : TypeId} (h : w.heap[b]? = some (.cells c t (0, 0))) : w.frozen? ⟨b, o, none⟩ = false := by simp [World.frozen?, h]

theorem digs_len : ∀ f n, (digs f n).length ≤ f
  | 0, _ => by simp [digs]
  | f + 1, n => by
    have := digs_len f (n / 10)
    rw [digs]; split <;> simp; omega

theorem div_enters {f : Nat} (hf : f = 57) : ∀ args w, (callFunc f args).run Tryd.prog w = .ok (.enter f args) w := by
  subst hf; intro args w; simp [go_sem]

theorem text_slice (b k : Nat) (h1 : 1 ≤ k) (h40 : k ≤ 40) (w : World) :
    (Instr.sliceAt 69 (.pointer (some ⟨b, 0, none⟩)) (some (.int .i64 (40 - (k : Int)))) none none).run Tryd.prog w = .ok (.slice (some ⟨b, 40 - k, none⟩) k k) w := by
  rw [run_sliceAt_array_l w 69 _ (by kernel_rfl) .i64 (40 - (k : Int)) (by omega) (by rw [show Tryd.prog.arrayLen 69 = 40 from by kernel_rfl]; omega)]
  rw [show Tryd.prog.arrayLen 69 = 40 from by kernel_rfl]
  have e : (40 - (k : Int)).toNat = 40 - k := by omega
  simp only [e, show Tryd.prog.elem 69 = 5 from by kernel_rfl]
  rw [show (sizeOf 5).run Tryd.prog w = .ok 1 w from by kernel_rfl]
  have e2 : ¬ 40 = 40 - k := by omega
  simp only [Result.andThen, slicedAt, e2, if_false, Nat.mul_one]
  rw [show 40 - (40 - k) = k from by omega]
  have e3 : (⟨b, 0, none⟩ : Addr).add (40 - k) = ⟨b, 40 - k, none⟩ := by
    unfold Addr.add
    split
    · rename_i h; rw [h]
    · simp
  rw [e3]

def strOf (l : List Int) : ByteArray := l.foldl (fun r n => r.push (UInt8.ofNat n.toNat)) ByteArray.empty

theorem text_conv (b : Nat) (xs : List Int) (w : World) (hl : xs.length ≤ 40) (h : w.heap[b]? = some (.cells (rowOf xs) 69 (0, 0))) :
    (convert 73 9 (.slice (some ⟨b, 40 - xs.length, none⟩) xs.length xs.length)).run Tryd.prog w = .ok (.string (strOf (xs.reverse.map (48 + ·)))) w := by
  rw [run_convert_bytes_string w 73 9 5 _ _ _ Tryd.underlying73 Tryd.underlying5 Tryd.underlying9]
  refine run_bytesToString w _ _ _ _ ?_
  have := run_loadCells_list (P := Tryd.prog) (w := w) ⟨b, 40 - xs.length, none⟩ ((xs.reverse.map (48 + ·)).map (Value.int .u8)) ?_
  · simpa using this
  · intro j v hj
    have e3 : (⟨b, 40 - xs.length, none⟩ : Addr).add j = ⟨b, 40 - xs.length + j, none⟩ := by
      unfold Addr.add
      split
      · rename_i h; rw [h]; rfl
      · simp
    rw [e3, cell_of_heap h]
    simp only [rowOf, List.getElem?_toArray]
    rw [List.getElem?_append_right (by simp)]
    simpa [Function.comp_def] using hj

set_option maxRecDepth 100000 in
set_option maxHeartbeats 2000000 in
theorem text_any (a b : Int) (n : Nat) (all : List Int) (w : World) (ha : U64 a) (hb : U64 b) (hn : Hid (W128 a b = n ∧ n < 10 ^ (38 + 1) ∧ digs (38 + 1) n = all)) : Calls Tryd.prog 25 #[.agg #[(.int .u64 (a)), (.int .u64 (b))]] w fun e w' =>
    e = .returned (.string (strOf (all.map (48 + ·)).reverse)) ∧ Below w.heap.size w w' := by
  refine (callsIn_wide (n := 10)).1 ?_
  refine callsIn_of_wp_marks Tryd.func25 rfl trivial ?_ rfl
  simp only [Tryd.ntmps25, List.size_toArray, List.length_cons, List.length_nil, Nat.reduceAdd, Nat.reduceSub, Array.replicate_succ, Array.replicate_zero, List.push_toArray, List.append_toArray, List.nil_append, List.cons_append]
  gi_wp2_with fail
  refine ⟨trivial, (callsIn_wide.2 (digits_any a b _)).mono ?_⟩
  rintro e w1 ⟨rfl, rfl⟩
  gi_wp2_with fail
  obtain ⟨W0, hW0⟩ : ∃ W0, ((((w.alloc (.cells #[(.int .u64 (a)), (.int .u64 (b))] 27)).alloc (.cells (rowOf []) 69)).alloc (.cells #[(.int .i64 (40))] 3)).alloc (.cells #[(.int .u64 (a)), (.int .u64 (b))] 27)) = W0 := ⟨_, rfl⟩
  have hz : W0.heap.size = (w.heap.size + 1 + 1 + 1 + 1) := by rw [← hW0]; simp
  have i0 : TextI w all w.heap.size (w.heap.size + 1 + 1) [] W0 := by
    rw [← hW0]
    refine ⟨?_, ?_, ?_, List.nil_prefix⟩
    · repeat' (first | exact Below.refl _ _ | with_reducible refine Below.alloc ?_ ?_ _ | with_reducible refine Below.setCell ?_ ?_ _ | with_reducible refine Below.drew ?_ | with_reducible refine below_drewN ?_ _ | refine Below.trans ?_ (Below.mono (by assumption) ?_))
      all_goals (first | omega | (simp <;> omega))
    · rw [Below.heap_alloc _ _ _ (by simp), Below.heap_alloc _ _ _ (by simp), alloc_heap_at (by simp)]
    · rw [Below.heap_alloc _ _ _ (by simp), alloc_heap_at (by simp)]; rfl
  have ib : Box2 (w.heap.size + 1 + 1 + 1) (.int .u64 (a)) (.int .u64 (b)) W0 := by
    rw [← hW0]
    clear hW0
    refine ⟨by simp, ?_, ?_, ?_, ?_⟩ <;> go_simp
  have HA := hn.out.2.2
  have hl39 : all.length ≤ 39 := by rw [← HA]; exact digs_len 39 n
  change Code.wpIn _ _ _ _ _ _ ((((w.alloc (.cells #[(.int .u64 (a)), (.int .u64 (b))] 27)).alloc (.cells (rowOf []) 69)).alloc (.cells #[(.int .i64 (40))] 3)).alloc (.cells #[(.int .u64 (a)), (.int .u64 (b))] 27))
  rw [hW0]
  clear hW0
  refine range_wide (gf := 57) (lb := #[.pointer (some ⟨(w.heap.size + 1 + 1 + 1), 0, none⟩)]) rfl (div_enters rfl) (digits_iter (w.heap.size + 1 + 1 + 1) a b n 38 all ha hb hn.out.1 hn.out.2.1 HA)
    ?hPre (by omega) ?hKt ?hKb (fun _ => rfl) (fun pre W => TextI w all w.heap.size (w.heap.size + 1 + 1) pre W) (fun _ _ _ => False)
    (fun pre x a' W => TextI w all w.heap.size (w.heap.size + 1 + 1) pre W ∧ a' = { tmps := #[.agg #[(.int .u64 (a)), (.int .u64 (b))], .pointer (some ⟨w.heap.size, 0, none⟩), .string { data := #[] }, .pointer (some ⟨(w.heap.size + 1), 0, none⟩), .pointer (some ⟨(w.heap.size + 1 + 1), 0, none⟩), .int .u8 (48 + x), .agg #[(.int .u64 (a)), (.int .u64 (b))], .func (.func 57) #[] #[.pointer (some ⟨(w.heap.size + 1 + 1 + 1), 0, none⟩)], .int .u8 (48 + x), undef, undef, undef, undef, undef, undef, undef, undef], defers := [] })
    ?hI ?hIx ?hIa i0 ?assign ?body ?done ?stop
  case hPre =>
    intro W B
    have := B.size
    exact ⟨by omega, (B.cell (p := ⟨_, _, none⟩) (by simp; omega)).trans ib.2.1, (B.cell (p := ⟨_, _, none⟩) (by simp; omega)).trans ib.2.2.1, (B.frozen (p := ⟨_, _, none⟩) (by simp; omega)).trans ib.2.2.2.1, (B.frozen (p := ⟨_, _, none⟩) (by simp; omega)).trans ib.2.2.2.2⟩
  case hKt => intro A B C h k; exact k.trans h
  case hKb => intro W o; exact World.putObj_heap_other (by omega)
  case hI => intro pre W W' h hk; exact h.keeps hk (by omega) (by omega) (by omega)
  case hIx => intro c pre W W' h; exact h.elim
  case hIa => intro pre x a' W W' h hk; exact ⟨h.1.keeps hk (by omega) (by omega) (by omega), h.2⟩
  case assign =>
    intro l pre x W hi hx hs
    gi_wp2
    exact ⟨.refl _ _, trivial, Nat.le_refl _, hi, trivial⟩
  case body =>
    rintro l pre x a' W ⟨hi, rfl⟩ ⟨hx0, hx1, hx2⟩ hs
    have hlen : pre.length < 39 := by
      have := hx2.length_le
      simp at this; omega
    have c2 : W.cell? ⟨(w.heap.size + 1 + 1), 0, none⟩ = some (.int .i64 (40 - (pre.length : Int))) := (cell_of_heap hi.at_).trans rfl
    have f2 : W.frozen? ⟨(w.heap.size + 1 + 1), 0, none⟩ = false := free_of_heap hi.at_
    obtain ⟨v1, c1⟩ : ∃ v, W.cell? ⟨(w.heap.size + 1), 40 - pre.length - 1, none⟩ = some v := by
      rw [cell_of_heap hi.row, Array.getElem?_eq_getElem (by rw [rowOf_size _ (by omega)]; omega)]; exact ⟨_, rfl⟩
    have f1 : W.frozen? ⟨(w.heap.size + 1), 40 - pre.length - 1, none⟩ = false := free_of_heap hi.row
    have e1 : (40 - (pre.length : Int) - 1).toNat = 40 - pre.length - 1 := by omega
    have e2 : 0 ≤ 40 - (pre.length : Int) - 1 := by omega
    have e3 : 40 - (pre.length : Int) - 1 < 40 := by omega
    have HI := hid hi; clear hi
    gi_wp2_with fail
    have hi := HI.out
    refine ⟨?_, ?_, ?_, ?_, ?_, hx2⟩
    · exact ((KeepsAt.refl _ _).setCell (Or.inl (by simp; omega)) _).setCell (Or.inl (by simp; omega)) _
    · show (World.setCell _ _ _).heap[_]? = _
      rw [Below.heap_setCell _ _ _ _ (by simp <;> omega), Below.heap_setCell _ _ _ _ (by simp <;> omega)]
    · exact (hi.below.setCell (by simp <;> omega) _).setCell (by simp <;> omega) _
    · rw [← rowOf_snoc _ _ (by omega)]
      exact setCell_heap_same ((Below.heap_setCell _ _ _ _ (by first | omega | simp)).trans hi.row)
    · rw [Below.heap_setCell _ _ _ _ (by first | omega | simp), setCell_heap_same hi.at_]
      simp; omega
  case done =>
    rintro xs W rfl hi hD
    have c2 : W.cell? ⟨(w.heap.size + 1 + 1), 0, none⟩ = some (.int .i64 (40 - (xs.length : Int))) := (cell_of_heap hi.at_).trans rfl
    have e1 : (40 - (xs.length : Int)).toNat = 40 - xs.length := by omega
    have e2 : 0 ≤ 40 - (xs.length : Int) := by omega
    have e3 : 40 - (xs.length : Int) ≤ 40 := by omega
    have hx1 : 1 ≤ xs.length := by
      rw [← HA, digs]; simp
    have f1 := text_slice (w.heap.size + 1) xs.length hx1 (by omega) W
    have f2 := text_conv (w.heap.size + 1) xs W (by omega) hi.row
    have HI := hid hi; clear hi hn
    clear HA
    gi_wp2_with fail
    refine ⟨by simp, .inl ⟨_, _, rfl, run_takeDeferred hD, ?_⟩⟩
    refine ⟨_, results_tmp rfl _ _ _, rfl, ?_⟩
    exact HI.out.below.trans (((putObj_keeps (K := fun k => k < w.heap.size) W W0.heap.size (.deferred none) (by omega))).below' (by have := World.lt_of_cell c2; omega))
  case stop =>
    rintro c pre W _ h _
    exact h.elim
end Go.Proofs.YtdpcfpmlkhdmkaaDoor
