/- wide: digits: an iterator that keeps its state in a captured variable. -/
import Derived.Test.YtdpcfpmlkhdmkaaDoorQ1
namespace Go.Proofs.YtdpcfpmlkhdmkaaDoor
open Go.RowKit Go.Shelf
attribute [local go_sem] Oper.semAt_some

/-- a number's digits, the last one first. -/
def digs : Nat → Nat → List Int
  | 0, _ => []
  | f + 1, n => ((n % 10 : Nat) : Int) :: if n / 10 = 0 then [] else digs f (n / 10)

def Box2 (b : Nat) (x y : Value) (w : World) : Prop :=
  b < w.heap.size ∧ w.cell? ⟨b, 0, none⟩ = some x ∧ w.cell? ⟨b, 1, none⟩ = some y ∧ w.frozen? ⟨b, 0, none⟩ = false ∧ w.frozen? ⟨b, 1, none⟩ = false

def digMu (b : Nat) (p : Value) (w : World) : Nat :=
  match p with
  | .bool true => 1 + (W128 (cellInt (w.cell? ⟨b, 0, none⟩)) (cellInt (w.cell? ⟨b, 1, none⟩))).toNat
  | _ => 0

theorem World.lt_of_cell {w : World} {b o : Nat} {v : Value} (h : w.cell? ⟨b, o, none⟩ = some v) : b < w.heap.size := by
  rcases Nat.lt_or_ge b w.heap.size with h' | h'
  · exact h'
  · simp [World.cell?, Array.getElem?_eq_none h'] at h
theorem W128.zero {h l : Int} (hh : U64 h) (hl : U64 l) (e : W128 h l = 0) : h = 0 ∧ l = 0 := by
  unfold U64 W128 at *; rw [M_lit] at *; omega
/-- where the iterator stands: what has come, what its box holds. -/
structure DigAt (b : Nat) (all : List Int) (J : List Int → World → Prop) (m : Value) (pre : List Int) (h l : Int) (n f : Nat) (w : World) : Prop where
  hh : U64 h
  hl : U64 l
  hn : W128 h l = n
  hf : n < 10 ^ (f + 1)
  box : Box2 b (.int .u64 (h)) (.int .u64 (l)) w
  j : J pre w
  m : (m = .bool true ∧ pre ++ digs (f + 1) n = all) ∨ (m = .bool false ∧ pre = all)

set_option maxRecDepth 100000 in
set_option maxHeartbeats 1000000 in
theorem digits_iter (b : Nat) (h l : Int) (n f : Nat) (all : List Int) (hh : U64 h) (hl : U64 l) (hn : W128 h l = n) (hf : n < 10 ^ (f + 1)) (hall : digs (f + 1) n = all) :
    Iter Tryd.prog 57 #[.pointer (some ⟨b, 0, none⟩)] (fun d : Int => #[Value.int .u8 (48 + d)]) (fun k => k ≠ b) (Box2 b (.int .u64 (h)) (.int .u64 (l))) (fun W W' => W'.heap[b]? = W.heap[b]?)
      (fun pre x => 0 ≤ x ∧ x < 10 ∧ pre ++ [x] <+: all) (fun xs => xs = all) (fun pre => pre <+: all) := by
  intro y J Jx W hW hJ hJx hY h0
  have HJ := hid hJ
  have HJx := hid hJx
  have HY := hid hY
  clear hJ hJx hY
  refine callsIn_of_wp Tryd.func57 rfl trivial ?_ rfl
  simp only [Tryd.ntmps57, List.size_toArray, List.length_cons, List.length_nil, Nat.reduceAdd, Nat.reduceSub, Array.replicate_succ, Array.replicate_zero, List.push_toArray, List.append_toArray, List.nil_append, List.cons_append]
  have HA := hid hall; clear hall
  gi_wp2_with fail
  gi_loopw [3] (fun m wr => ∃ (pre : List Int) (h l : Int) (n f : Nat), DigAt b all J m pre h l n f wr) (fun p wr => digMu b p wr)
  case atStart =>
    exact ⟨[], h, l, n, f, hh, hl, hn, hf, hW, h0, Or.inl ⟨rfl, HA.out⟩⟩
  case round =>
    clear hW h0 hh hl hn hf
    obtain ⟨pre, h, l, n, f, hh, hl, hn, hf, ⟨b0, b1, b2, b3, b4⟩, hj, ⟨rfl, hp⟩ | ⟨rfl, rfl⟩⟩ := hrel
    · have HP := hid hp
      have HN := hid hn
      clear hp hn
      gi_wp2_with fail
      refine ⟨trivial, (callsIn_wide.2 (div_some h l 10 _ hh hl (by unfold U64; rw [M_lit]; omega) (by omega))).mono ?_⟩
      rintro e w1 ⟨B, h', l', r, rfl, uh, ul, ur, hdiv, hr⟩
      have r0 := ur.1
      have HD := hid hdiv; clear hdiv ur
      obtain ⟨k_0, k_1, k_f0, k_f1⟩ := keep2 B (b := b) (x0 := (.int .u64 (h))) (x1 := (.int .u64 (l))) (by first | omega | (simp <;> omega)) (by first | assumption | go_simp) (by first | assumption | go_simp) (by first | assumption | go_simp) (by first | assumption | go_simp)
      have zz := B.size
      have hb1 : b < w1.heap.size := by omega
      have e1 : IntKind.u8.wrap r = r := IntWalk.u8_in _ ⟨by omega, by omega⟩
      have e2 : IntKind.u8.wrap (48 + r) = 48 + r := IntWalk.u8_in _ ⟨by omega, by omega⟩
      have e3 : (48 + r) % 256 = 48 + r := by omega
      have hj3 : J pre (((w1.setCell ⟨b, 0, none⟩ (.int .u64 (h'))).setCell ⟨b, 1, none⟩ (.int .u64 (l'))).alloc (.cells #[(.int .u64 (h')), (.int .u64 (l'))] 27)) :=
        HJ.out _ _ _ hj ((((Keeps.of_below B).setCell (Or.inr (by simp)) _).setCell (Or.inr (by simp)) _).alloc _)
      have hx : pre ++ [r] <+: all ∧ (pre ++ [r]) ++ (if n / 10 = 0 then [] else digs f (n / 10)) = all ∧ W128 h' l' = ((n / 10 : Nat) : Int) := by
        have q := HD.out
        rw [HN.out] at q
        have e : r = ((n % 10 : Nat) : Int) := by omega
        have p := HP.out
        rw [digs, ← e] at p
        refine ⟨⟨if n / 10 = 0 then [] else digs f (n / 10), by rw [← p]; simp⟩, by rw [← p]; simp, by omega⟩
      obtain ⟨fn, tmps, assign, body, hy, hR⟩ := HY.out pre r _ hj3 ⟨r0, hr, hx.1⟩
      have HR := hid hR; clear hR
      have HX := hid hx; clear hx
      gi_wp2_with fail
      refine HR.out.mono ?_
      rintro e w3 (⟨rfl, hj4, hk⟩ | ⟨rfl, hj4⟩)
      · have c0 : w3.cell? ⟨b, 0, none⟩ = some (.int .u64 (h')) := (World.cell?_of_block (a := ⟨b, 0, none⟩) hk).trans (by go_simp)
        have c1 : w3.cell? ⟨b, 1, none⟩ = some (.int .u64 (l')) := (World.cell?_of_block (a := ⟨b, 1, none⟩) hk).trans (by go_simp)
        have c2 : w3.frozen? ⟨b, 0, none⟩ = false := (World.frozen?_of_block (a := ⟨b, 0, none⟩) hk).trans (by go_simp)
        have c3 : w3.frozen? ⟨b, 1, none⟩ = false := (World.frozen?_of_block (a := ⟨b, 1, none⟩) hk).trans (by go_simp)
        clear k_0 k_1 k_f0 k_f1 hk hy
        have hc0 := hid c0
        by_cases hz : n / 10 = 0
        · have hv := HX.out.2.2
          rw [hz] at hv
          have q := W128.zero uh ul (by simpa using hv)
          obtain ⟨rfl, rfl⟩ := q
          clear hv
          gi_wp2_with fail
          refine ⟨⟨pre ++ [r], 0, 0, 0, f, uh, ul, rfl, ?_, ⟨?_, c0, c1, c2, c3⟩, hj4, Or.inr ⟨rfl, ?_⟩⟩, ?_⟩
          · exact Nat.pow_pos (by omega)
          · exact World.lt_of_cell c0
          · have := HX.out.2.1
            rw [if_pos hz] at this; simpa using this
          · show 0 < 1 + _
            omega
        · have hf0 : f ≠ 0 := by
            rintro rfl
            simp at hf; omega
          have hnz : ¬ (h' = 0 ∧ l' = 0) := by
            rintro ⟨rfl, rfl⟩
            have := HX.out.2.2
            unfold W128 at this
            simp at this; omega
          by_cases h0 : h' = 0
          · have h1 : ¬ l' = 0 := fun e => hnz ⟨h0, e⟩
            have q0 : (h' == 0) = true := by simpa using h0
            have q1 : (l' == 0) = false := by simpa using h1
            clear hnz h0 h1
            gi_wp2_with fail
            refine ⟨⟨pre ++ [r], h', l', n / 10, f - 1, uh, ul, HX.out.2.2, ?_, ⟨?_, c0, c1, c2, c3⟩, hj4, Or.inl ⟨rfl, ?_⟩⟩, ?_⟩
            · rw [show f - 1 + 1 = f from by omega]
              rw [Nat.pow_succ] at hf; omega
            · exact World.lt_of_cell c0
            · have := HX.out.2.1
              rw [if_neg hz] at this
              rw [show f - 1 + 1 = f from by omega]; exact this
            · simp only [digMu, cellInt, c0, c1, b1, b2]
              rw [HX.out.2.2, HN.out]; simp; omega
          · have q0 : (h' == 0) = false := by simpa using h0
            clear hnz h0
            gi_wp2_with fail
            refine ⟨⟨pre ++ [r], h', l', n / 10, f - 1, uh, ul, HX.out.2.2, ?_, ⟨?_, c0, c1, c2, c3⟩, hj4, Or.inl ⟨rfl, ?_⟩⟩, ?_⟩
            · rw [show f - 1 + 1 = f from by omega]
              rw [Nat.pow_succ] at hf; omega
            · exact World.lt_of_cell c0
            · have := HX.out.2.1
              rw [if_neg hz] at this
              rw [show f - 1 + 1 = f from by omega]; exact this
            · simp only [digMu, cellInt, c0, c1, b1, b2]
              rw [HX.out.2.2, HN.out]; simp; omega
      · gi_wp2_with fail
        refine bodyPost_ret (results_none rfl _ _ _) rfl ?_
        exact ⟨⟨_, rfl⟩, .inr ⟨pre ++ [r], HX.out.1, hj4⟩⟩
    · gi_wp2_with fail
      go_end0
      exact ⟨⟨_, rfl⟩, .inl ⟨pre, rfl, hj⟩⟩
end Go.Proofs.YtdpcfpmlkhdmkaaDoor
