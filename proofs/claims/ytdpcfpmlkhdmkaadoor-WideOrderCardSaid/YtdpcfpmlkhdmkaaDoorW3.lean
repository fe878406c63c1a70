/- wide: checked: what is panicked with an overflow is recovered and told as an error. -/
import Derived.Test.YtdpcfpmlkhdmkaaDoorW2
namespace Go.Proofs.YtdpcfpmlkhdmkaaDoor
open Go.RowKit

/-- What lies in K is kept; nothing is said of other blocks. -/
structure Keeps (K : Nat → Prop) (w w' : World) : Prop where
  os : w'.os = w.os
  tape : w'.tape = w.tape
  output : w'.output = w.output
  size : w.heap.size ≤ w'.heap.size
  block : ∀ k, k < w.heap.size → K k → w'.heap[k]? = w.heap[k]?
theorem Keeps.refl (K : Nat → Prop) (w : World) : Keeps K w w := ⟨rfl, rfl, rfl, Nat.le_refl _, fun _ _ _ => rfl⟩
theorem Keeps.trans {K : Nat → Prop} {a b c : World} (h : Keeps K a b) (k : Keeps K b c) : Keeps K a c :=
  ⟨k.os.trans h.os, k.tape.trans h.tape, k.output.trans h.output, Nat.le_trans h.size k.size, fun i hi hK => (k.block i (Nat.lt_of_lt_of_le hi h.size) hK).trans (h.block i hi hK)⟩
theorem Keeps.alloc {K : Nat → Prop} {a w : World} (h : Keeps K a w) (o : Obj) : Keeps K a (w.alloc o) :=
  h.trans ⟨rfl, rfl, rfl, by simp, fun k hk _ => Below.heap_alloc _ _ _ hk⟩
theorem Keeps.setCell {K : Nat → Prop} {a w : World} (h : Keeps K a w) {p : Addr} (hp : a.heap.size ≤ p.block ∨ ¬ K p.block) (u : Value) : Keeps K a (w.setCell p u) := by
  refine ⟨h.os, h.tape, h.output, by simpa [World.setCell] using h.size, fun k hk hK => ?_⟩
  rw [Below.heap_setCell _ _ _ _ ?_]
  · exact h.block k hk hK
  · rcases hp with hp | hp
    · omega
    · rintro rfl; exact hp hK
theorem Keeps.below {w w' : World} (h : Keeps (fun _ => True) w w') : Below w.heap.size w w' := ⟨h.os, h.tape, h.output, h.size, fun k hk => h.block k hk trivial⟩
theorem Keeps.of_below {K : Nat → Prop} {w w' : World} (h : Below w.heap.size w w') : Keeps K w w' := ⟨h.os, h.tape, h.output, h.size, fun k hk _ => h.block k hk⟩
theorem Keeps.cell {K : Nat → Prop} {w w' : World} (h : Keeps K w w') {b o : Nat} (hb : b < w.heap.size) (hK : K b) : w'.cell? ⟨b, o, none⟩ = w.cell? ⟨b, o, none⟩ :=
  World.cell?_of_block (w := w) (a := ⟨b, o, none⟩) (h.block b hb hK)
theorem Keeps.frozen {K : Nat → Prop} {w w' : World} (h : Keeps K w w') {b o : Nat} (hb : b < w.heap.size) (hK : K b) : w'.frozen? ⟨b, o, none⟩ = w.frozen? ⟨b, o, none⟩ :=
  World.frozen?_of_block (w := w) (a := ⟨b, o, none⟩) (h.block b hb hK)

def WideOrK (K : Nat → Prop) (N : Int) (w : World) (e : Ending) (w' : World) : Prop :=
  Keeps K w w' ∧ ((N < M * M ∧ ∃ h l, e = .returned (.agg #[.int .u64 h, .int .u64 l]) ∧ U64 h ∧ U64 l ∧ W128 h l = N) ∨ (¬ N < M * M ∧ e = .panicked ovf))
theorem WideOr.k {K : Nat → Prop} {N : Int} {w : World} {e : Ending} {w' : World} (h : WideOr N w e w') : WideOrK K N w e w' := ⟨.of_below h.1, h.2⟩
def CheckedK (K : Nat → Prop) (N : Int) (w : World) (e : Ending) (w' : World) : Prop :=
  Keeps K w w' ∧ ((N < M * M ∧ ∃ h l, e = .returned (.tuple #[.agg #[.int .u64 h, .int .u64 l], .int .i64 0]) ∧ U64 h ∧ U64 l ∧ W128 h l = N) ∨
    (¬ N < M * M ∧ e = .returned (.tuple #[.agg #[.int .u64 0, .int .u64 0], .int .i64 110])))

set_option maxRecDepth 100000 in
theorem catch_ovf (b c : Nat) (x y z : Value) (w : World) (h0 : w.cell? ⟨b, 0, none⟩ = some x) (h1 : w.cell? ⟨b, 1, none⟩ = some y) (h2 : w.cell? ⟨c, 0, none⟩ = some z)
    (f0 : w.frozen? ⟨b, 0, none⟩ = false) (f1 : w.frozen? ⟨b, 1, none⟩ = false) (f2 : w.frozen? ⟨c, 0, none⟩ = false) (hbc : ¬ c = b) :
    CallsD Tryd.prog 54 #[.pointer (some ⟨b, 0, none⟩), .pointer (some ⟨c, 0, none⟩)] (.panicking ovf) w fun e u' w' =>
      e = .returned (.tuple #[]) ∧ u' = .panicking [{ v := .iface 30 (.int .i64 110), recovered := true }] ∧
      w' = ((w.setCell ⟨b, 0, none⟩ (.int .u64 0)).setCell ⟨b, 1, none⟩ (.int .u64 0)).setCell ⟨c, 0, none⟩ (.int .i64 110) := by
  have hta : ∀ w, (Instr.typeAssert (.iface 30 (.int .i64 110)) 20 30 true).run Tryd.prog w = .ok (.tuple #[.int .i64 110, .bool true]) w := fun _ => by kernel_rfl
  refine callsD_of_wpS Tryd.func54 rfl fun c₀ cs hu => ?_
  apply wpS_seq
  apply wpS_region
  simp [wpOpsS, go_sem, recoverD, hu, ovf, Tryd.ntmps54, Exit.thenS]
  clear hu
  refine wpS_of_wp ?_
  simp only [Array.replicate_succ, Array.replicate_zero, List.push_toArray, List.append_toArray, List.nil_append, List.cons_append]
  go_wp2
  simp [bodyPostS, results, Tryd.results54]

theorem catch_idle (b c : Nat) (w : World) :
    CallsD Tryd.prog 54 #[.pointer (some ⟨b, 0, none⟩), .pointer (some ⟨c, 0, none⟩)] .returning w fun e u' w' => e = .returned (.tuple #[]) ∧ u' = .returning ∧ w' = w := by
  refine callsD_of_wpS Tryd.func54 rfl fun c₀ cs hu => ?_
  apply wpS_seq
  apply wpS_region
  simp [wpOpsS, go_sem, recoverD, hu, Tryd.ntmps54, Exit.thenS]
  refine wpS_of_wp ?_
  simp only [Array.replicate_succ, Array.replicate_zero, List.push_toArray, List.append_toArray, List.nil_append, List.cons_append]
  go_wp2
  cases c₀
  simp_all [bodyPostS, results, Tryd.results54]



set_option maxRecDepth 100000 in
set_option maxHeartbeats 1000000 in
theorem checked_k (K : Nat → Prop) (g : FuncId) (cap : Array Value) (N : Int) (w : World) (hK : ∀ k, w.heap.size ≤ k → K k)
    (hinv : ∀ w, (callFunc g cap).run Tryd.prog w = .ok (.enter g cap) w)
    (hdoes : ∀ w1, Below w.heap.size w w1 → Calls Tryd.prog g cap w1 (WideOrK K N w1)) :
    Calls Tryd.prog 36 #[.func (.func g) #[] cap] w (CheckedK K N w) := by
  have hmf : ∀ (fn : Fn) (first cap : Array Value) (w : World), (Instr.makeFunc fn first cap).run Tryd.prog w = .ok (.func fn first cap) w := fun _ _ _ _ => rfl
  have HK := hid hK; clear hK
  have HD := hid hdoes; clear hdoes
  go_enter_defers Tryd.func36, Tryd.ntmps36
  go_wp2_with fail
  (refine (HD.out _ (((Below.refl _ _).alloc (Nat.le_refl _) _).alloc (by simp) _)).mono ?_; rintro e w1 ⟨K1, ⟨hN, h, l, rfl, u1, u2, u3⟩ | ⟨hN, rfl⟩⟩)
  · have k0 : K (w.heap.size) := HK.out _ (Nat.le_refl _)
    have k1 : K (w.heap.size + 1) := HK.out _ (by omega)
    have c0 : w1.cell? ⟨w.heap.size, 0, none⟩ = some (.int .u64 (0)) := (K1.cell (by simp; omega) k0).trans (by go_simp)
    have c1 : w1.cell? ⟨w.heap.size, 1, none⟩ = some (.int .u64 (0)) := (K1.cell (by simp; omega) k0).trans (by go_simp)
    have c2 : w1.cell? ⟨(w.heap.size + 1), 0, none⟩ = some (.int .i64 (0)) := (K1.cell (by simp) k1).trans (by go_simp)
    have f0 : w1.frozen? ⟨w.heap.size, 0, none⟩ = false := (K1.frozen (by simp; omega) k0).trans (by go_simp)
    have f1 : w1.frozen? ⟨w.heap.size, 1, none⟩ = false := (K1.frozen (by simp; omega) k0).trans (by go_simp)
    have f2 : w1.frozen? ⟨(w.heap.size + 1), 0, none⟩ = false := (K1.frozen (by simp) k1).trans (by go_simp)
    have U3 := hid u3; clear u3
    have HN := hid hN; clear hN
    go_wp2_with fail
    refine leaves_cons (f := 54) (args := #[.pointer (some ⟨w.heap.size, 0, none⟩), .pointer (some ⟨(w.heap.size + 1), 0, none⟩)]) (by simp) (by simp [go_sem]) ?_
    refine (catch_idle _ _ _).mono ?_
    rintro e u' w'' ⟨rfl, rfl, rfl⟩
    simp only [Leaves, settle]
    refine ⟨.tuple #[.agg #[(.int .u64 (h)), (.int .u64 (l))], (.int .i64 (0))], by simp [results, Tryd.results36, go_sem, c0, c1, c2], ?_, Or.inl ⟨HN.out, _, _, rfl, u1, u2, U3.out⟩⟩
    have q : Keeps K w w1 := (((Keeps.refl K w).alloc _).alloc _).trans K1
    exact ((q.setCell (Or.inl (Nat.le_refl _)) _).setCell (Or.inl (Nat.le_refl _)) _).setCell (Or.inl (by simp)) _
  · have k0 : K (w.heap.size) := HK.out _ (Nat.le_refl _)
    have k1 : K (w.heap.size + 1) := HK.out _ (by omega)
    have c0 : w1.cell? ⟨w.heap.size, 0, none⟩ = some (.int .u64 (0)) := (K1.cell (by simp; omega) k0).trans (by go_simp)
    have c1 : w1.cell? ⟨w.heap.size, 1, none⟩ = some (.int .u64 (0)) := (K1.cell (by simp; omega) k0).trans (by go_simp)
    have c2 : w1.cell? ⟨(w.heap.size + 1), 0, none⟩ = some (.int .i64 (0)) := (K1.cell (by simp) k1).trans (by go_simp)
    have f0 : w1.frozen? ⟨w.heap.size, 0, none⟩ = false := (K1.frozen (by simp; omega) k0).trans (by go_simp)
    have f1 : w1.frozen? ⟨w.heap.size, 1, none⟩ = false := (K1.frozen (by simp; omega) k0).trans (by go_simp)
    have f2 : w1.frozen? ⟨(w.heap.size + 1), 0, none⟩ = false := (K1.frozen (by simp) k1).trans (by go_simp)
    have HN := hid hN; clear hN
    go_wp2_with fail
    refine leaves_cons (f := 54) (args := #[.pointer (some ⟨w.heap.size, 0, none⟩), .pointer (some ⟨(w.heap.size + 1), 0, none⟩)]) (by simp) (by simp [go_sem]) ?_
    refine (catch_ovf _ _ _ _ _ _ c0 c1 c2 f0 f1 f2 (by omega)).mono ?_
    rintro e u' w'' ⟨rfl, rfl, rfl⟩
    simp only [Leaves, settle]
    refine ⟨.tuple #[.agg #[(.int .u64 (0)), (.int .u64 (0))], (.int .i64 (110))], by simp [results, Tryd.results36, go_sem, c0, c1, c2], ?_, Or.inr ⟨Int.not_lt.2 HN.out, rfl⟩⟩
    have q : Keeps K w w1 := (((Keeps.refl K w).alloc _).alloc _).trans K1
    exact ((q.setCell (Or.inl (Nat.le_refl _)) _).setCell (Or.inl (Nat.le_refl _)) _).setCell (Or.inl (by simp)) _

/-- what Add, Sub, Mul, Sum, Read's reckoning come to. -/
def Checked (N : Int) (w : World) (e : Ending) (w' : World) : Prop :=
  Below w.heap.size w w' ∧ ((N < M * M ∧ ∃ h l, e = .returned (.tuple #[.agg #[.int .u64 h, .int .u64 l], .int .i64 0]) ∧ U64 h ∧ U64 l ∧ W128 h l = N) ∨
    (¬ N < M * M ∧ e = .returned (.tuple #[.agg #[.int .u64 0, .int .u64 0], .int .i64 110])))

theorem checked_any (g : FuncId) (cap : Array Value) (N : Int) (w : World)
    (hinv : ∀ w, (callFunc g cap).run Tryd.prog w = .ok (.enter g cap) w)
    (hdoes : ∀ w1, Below w.heap.size w w1 → Calls Tryd.prog g cap w1 (WideOr N w1)) :
    Calls Tryd.prog 36 #[.func (.func g) #[] cap] w (Checked N w) :=
  (checked_k (fun _ => True) g cap N w (fun _ _ => trivial) hinv (fun w1 h => (hdoes w1 h).mono fun _ _ => WideOr.k)).mono fun _ _ h => ⟨h.1.below, h.2⟩

set_option maxRecDepth 100000 in
theorem add1 (a b c d : Int) (p q : Nat) (w : World) (ha : U64 a) (hb : U64 b) (hc : U64 c) (hd : U64 d) 
    (a0 : w.cell? ⟨p, 0, none⟩ = some (.int .u64 (a))) (a1 : w.cell? ⟨p, 1, none⟩ = some (.int .u64 (b))) (b0 : w.cell? ⟨q, 0, none⟩ = some (.int .u64 (c))) (b1 : w.cell? ⟨q, 1, none⟩ = some (.int .u64 (d)))
    (hp : p < w.heap.size) (hq : q < w.heap.size) :
    Calls Tryd.prog 42 #[.pointer (some ⟨p, 0, none⟩), .pointer (some ⟨q, 0, none⟩)] w (WideOr (W128 a b + W128 c d) w) := by
  go_enter Tryd.func42, Tryd.ntmps42
  go_wp2_with fail
  ((with_reducible refine (plus_any _ _ _ _ _ ha hb hc hd).mono ?_); rintro e w1 ⟨B1, ⟨hN, h, l, rfl, u1, u2, u3⟩ | ⟨hN, rfl⟩⟩)
  · obtain ⟨k_0, k_1, k_f0, k_f1⟩ := keep2 B1 (b := w.heap.size) (x0 := (.int .u64 (0))) (x1 := (.int .u64 (0))) (by first | omega | (simp <;> omega)) (by first | assumption | go_simp) (by first | assumption | go_simp) (by first | assumption | go_simp) (by first | assumption | go_simp)
    have U3 := hid u3; clear u3
    have HN := hid hN; clear hN
    go_wp2_with fail
    refine bodyPost_ret (v := .agg #[(.int .u64 (h)), (.int .u64 (l))]) (by simp [results, Tryd.results42, go_sem, k_0, k_1]) rfl ⟨?_, Or.inl ⟨HN.out, _, _, rfl, u1, u2, U3.out⟩⟩
    have zz0 := B1.size; try simp at zz0
    repeat' (first | exact Below.refl _ _ | with_reducible refine Below.alloc ?_ ?_ _ | with_reducible refine Below.setCell ?_ ?_ _ | with_reducible refine Below.drew ?_ | with_reducible refine below_drewN ?_ _ | refine Below.trans ?_ (Below.mono (by assumption) ?_))
    all_goals (first | omega | (simp <;> omega))
  · refine ⟨rfl, ?_, Or.inr ⟨hN, rfl⟩⟩
    have zz0 := B1.size; try simp at zz0
    repeat' (first | exact Below.refl _ _ | with_reducible refine Below.alloc ?_ ?_ _ | with_reducible refine Below.setCell ?_ ?_ _ | with_reducible refine Below.drew ?_ | with_reducible refine below_drewN ?_ _ | refine Below.trans ?_ (Below.mono (by assumption) ?_))
    all_goals (first | omega | (simp <;> omega))

set_option maxRecDepth 100000 in
theorem mul1 (a b c d : Int) (p q : Nat) (w : World) (ha : U64 a) (hb : U64 b) (hc : U64 c) (hd : U64 d) 
    (a0 : w.cell? ⟨p, 0, none⟩ = some (.int .u64 (a))) (a1 : w.cell? ⟨p, 1, none⟩ = some (.int .u64 (b))) (b0 : w.cell? ⟨q, 0, none⟩ = some (.int .u64 (c))) (b1 : w.cell? ⟨q, 1, none⟩ = some (.int .u64 (d)))
    (hp : p < w.heap.size) (hq : q < w.heap.size) :
    Calls Tryd.prog 46 #[.pointer (some ⟨p, 0, none⟩), .pointer (some ⟨q, 0, none⟩)] w (WideOr (W128 a b * W128 c d) w) := by
  go_enter Tryd.func46, Tryd.ntmps46
  go_wp2_with fail
  ((with_reducible refine (times_any _ _ _ _ _ ha hb hc hd).mono ?_); rintro e w1 ⟨B1, ⟨hN, h, l, rfl, u1, u2, u3⟩ | ⟨hN, rfl⟩⟩)
  · obtain ⟨k_0, k_1, k_f0, k_f1⟩ := keep2 B1 (b := w.heap.size) (x0 := (.int .u64 (0))) (x1 := (.int .u64 (0))) (by first | omega | (simp <;> omega)) (by first | assumption | go_simp) (by first | assumption | go_simp) (by first | assumption | go_simp) (by first | assumption | go_simp)
    have U3 := hid u3; clear u3
    have HN := hid hN; clear hN
    go_wp2_with fail
    refine bodyPost_ret (v := .agg #[(.int .u64 (h)), (.int .u64 (l))]) (by simp [results, Tryd.results46, go_sem, k_0, k_1]) rfl ⟨?_, Or.inl ⟨HN.out, _, _, rfl, u1, u2, U3.out⟩⟩
    have zz0 := B1.size; try simp at zz0
    repeat' (first | exact Below.refl _ _ | with_reducible refine Below.alloc ?_ ?_ _ | with_reducible refine Below.setCell ?_ ?_ _ | with_reducible refine Below.drew ?_ | with_reducible refine below_drewN ?_ _ | refine Below.trans ?_ (Below.mono (by assumption) ?_))
    all_goals (first | omega | (simp <;> omega))
  · refine ⟨rfl, ?_, Or.inr ⟨hN, rfl⟩⟩
    have zz0 := B1.size; try simp at zz0
    repeat' (first | exact Below.refl _ _ | with_reducible refine Below.alloc ?_ ?_ _ | with_reducible refine Below.setCell ?_ ?_ _ | with_reducible refine Below.drew ?_ | with_reducible refine below_drewN ?_ _ | refine Below.trans ?_ (Below.mono (by assumption) ?_))
    all_goals (first | omega | (simp <;> omega))

/-- a difference: below 0 it is an overflow. -/
def SubPost (N : Int) (w : World) (e : Ending) (w' : World) : Prop :=
  Below w.heap.size w w' ∧ ((0 ≤ N ∧ ∃ h l, e = .returned (.agg #[.int .u64 h, .int .u64 l]) ∧ U64 h ∧ U64 l ∧ W128 h l = N) ∨ (N < 0 ∧ e = .panicked ovf))
def SubNum (N : Int) : Int := if 0 ≤ N then N else M * M

set_option maxRecDepth 100000 in
theorem sub1 (a b c d : Int) (p q : Nat) (w : World) (ha : U64 a) (hb : U64 b) (hc : U64 c) (hd : U64 d) 
    (a0 : w.cell? ⟨p, 0, none⟩ = some (.int .u64 (a))) (a1 : w.cell? ⟨p, 1, none⟩ = some (.int .u64 (b))) (b0 : w.cell? ⟨q, 0, none⟩ = some (.int .u64 (c))) (b1 : w.cell? ⟨q, 1, none⟩ = some (.int .u64 (d)))
    (hp : p < w.heap.size) (hq : q < w.heap.size) :
    Calls Tryd.prog 43 #[.pointer (some ⟨p, 0, none⟩), .pointer (some ⟨q, 0, none⟩)] w (SubPost (W128 a b - W128 c d) w) := by
  unfold U64 at *
  have A1 := fun w => sub64 b d 0 (by omega) (by omega) (by omega) (by omega) (by omega) (by omega) w
  have A2 := fun w => sub64 a c (1 - (b + M - d - 0) / M) (by omega) (by omega) (by omega) (by omega) (by rw [M_eq] at *; omega) (by rw [M_eq] at *; omega) w
  rw [Int.sub_zero] at A1 A2
  have hhi : Hid ((1 - (a + M - c - (1 - (b + M - d) / M)) / M = 0 ∧ 0 ≤ W128 a b - W128 c d ∧ W128 ((a + M - c - (1 - (b + M - d) / M)) % M) ((b + M - d) % M) = W128 a b - W128 c d) ∨ 
     (¬ 1 - (a + M - c - (1 - (b + M - d) / M)) / M = 0 ∧ W128 a b - W128 c d < 0)) := by
    show _ ∨ _
    unfold W128; rw [M_eq] at *; omega
  by_cases h0 : 1 - (a + M - c - (1 - (b + M - d) / M)) / M = 0
  · have A3 : (1 - (a + M - c - (1 - (b + M - d) / M)) / M == 0) = true := beq_iff_eq.2 h0
    clear h0
    go_enter Tryd.func43, Tryd.ntmps43
    go_wp2_with fail
    ((with_reducible refine (need_yes _).mono ?_); rintro e w' ⟨rfl, rfl⟩)
    go_wp2_with fail
    refine bodyPost_ret (v := .agg #[(.int .u64 ((a + M - c - (1 - (b + M - d) / M)) % M)), (.int .u64 ((b + M - d) % M))]) (by simp [results, Tryd.results43, go_sem]) rfl ⟨?_, Or.inl ?_⟩
    · repeat' (first | exact Below.refl _ _ | with_reducible refine Below.alloc ?_ ?_ _ | with_reducible refine Below.setCell ?_ ?_ _ | with_reducible refine Below.drew ?_ | with_reducible refine below_drewN ?_ _ | refine Below.trans ?_ (Below.mono (by assumption) ?_))
      all_goals (first | omega | (simp <;> omega))
    · rcases hhi.out with ⟨h1, h2, h3⟩ | ⟨h1, h2⟩
      · exact ⟨h2, _, _, rfl, U64.mod _, U64.mod _, h3⟩
      · exact absurd (beq_iff_eq.1 A3) h1
  · have A3 : (1 - (a + M - c - (1 - (b + M - d) / M)) / M == 0) = false := beq_eq_false_iff_ne.2 h0
    clear h0
    go_enter Tryd.func43, Tryd.ntmps43
    go_wp2_with fail
    ((with_reducible refine (need_no _).mono ?_); rintro e w' ⟨rfl, rfl⟩)
    refine ⟨rfl, ?_, Or.inr ⟨?_, rfl⟩⟩
    · repeat' (first | exact Below.refl _ _ | with_reducible refine Below.alloc ?_ ?_ _ | with_reducible refine Below.setCell ?_ ?_ _ | with_reducible refine Below.drew ?_ | with_reducible refine below_drewN ?_ _ | refine Below.trans ?_ (Below.mono (by assumption) ?_))
      all_goals (first | omega | (simp <;> omega))
    · rcases hhi.out with ⟨h1, h2, h3⟩ | ⟨h1, h2⟩
      · rw [h1] at A3; simp at A3
      · exact h2
end Go.Proofs.YtdpcfpmlkhdmkaaDoor
