/- wide: contracts of need, plus, Add64, Sub64. -/
import Derived.WalkKit
import Derived.WalkLawsBesides
import Derived.LoopN
import Derived.Recover
import Derived.Shelf.Spec.BitsCarry
import Derived.Test.YtdpcfpmlkhdmkaaDoorRows
import Derived.Test.YtdpcfpmlkhdmkaaDoorShelf
namespace Go.Proofs.YtdpcfpmlkhdmkaaDoor
open Go.RowKit

theorem bcell {W w1 : World} (hb : Below W.heap.size W w1) : (∀ b o, b < W.heap.size → w1.cell? ⟨b, o, none⟩ = W.cell? ⟨b, o, none⟩) ∧ (∀ b o, b < W.heap.size → w1.frozen? ⟨b, o, none⟩ = W.frozen? ⟨b, o, none⟩) :=
  ⟨fun b o h => hb.cell (p := ⟨b, o, none⟩) h, fun b o h => hb.frozen (p := ⟨b, o, none⟩) h⟩
theorem later {W w1 : World} {B : Nat} (hb : Below B W w1) (K : Nat) (hK : K ≤ B) (hW : K ≤ W.heap.size) :
    (∀ b o, b < K → w1.cell? ⟨b, o, none⟩ = W.cell? ⟨b, o, none⟩) ∧ (∀ b o, b < K → w1.frozen? ⟨b, o, none⟩ = W.frozen? ⟨b, o, none⟩) ∧
    (∀ b, b < K → (b < w1.heap.size) = True) ∧ (∀ b, b < K → (b = w1.heap.size) = False) ∧ (∀ b, b < K → (w1.heap.size = b) = False) := by
  have := hb.size
  refine ⟨fun b o h => hb.cell (p := ⟨b, o, none⟩) (show b < B by omega), fun b o h => hb.frozen (p := ⟨b, o, none⟩) (show b < B by omega), fun b h => ?_, fun b h => ?_, fun b h => ?_⟩
  all_goals simp; omega
theorem keep1 {W w1 : World} {B b : Nat} {x0 : Value} (hb : Below B W w1) (h : b < B) (h0 : W.cell? ⟨b, 0, none⟩ = some x0) (f0 : W.frozen? ⟨b, 0, none⟩ = false) :
    w1.cell? ⟨b, 0, none⟩ = some x0 ∧ w1.frozen? ⟨b, 0, none⟩ = false :=
  ⟨(hb.cell (p := ⟨b, 0, none⟩) h).trans h0, (hb.frozen (p := ⟨b, 0, none⟩) h).trans f0⟩
theorem keep2 {W w1 : World} {B b : Nat} {x0 x1 : Value} (hb : Below B W w1) (h : b < B) (h0 : W.cell? ⟨b, 0, none⟩ = some x0) (h1 : W.cell? ⟨b, 1, none⟩ = some x1)
    (f0 : W.frozen? ⟨b, 0, none⟩ = false) (f1 : W.frozen? ⟨b, 1, none⟩ = false) :
    w1.cell? ⟨b, 0, none⟩ = some x0 ∧ w1.cell? ⟨b, 1, none⟩ = some x1 ∧ w1.frozen? ⟨b, 0, none⟩ = false ∧ w1.frozen? ⟨b, 1, none⟩ = false :=
  ⟨(hb.cell (p := ⟨b, 0, none⟩) h).trans h0, (hb.cell (p := ⟨b, 1, none⟩) h).trans h1, (hb.frozen (p := ⟨b, 0, none⟩) h).trans f0, (hb.frozen (p := ⟨b, 1, none⟩) h).trans f1⟩
theorem keepr1 {W w1 : World} {B b : Nat} {x0 : Value} (hb : Below B W w1) (h : b < B) (h0 : W.cell? ⟨b, 0, none⟩ = some x0) : w1.cell? ⟨b, 0, none⟩ = some x0 :=
  (hb.cell (p := ⟨b, 0, none⟩) h).trans h0
theorem keepr2 {W w1 : World} {B b : Nat} {x0 x1 : Value} (hb : Below B W w1) (h : b < B) (h0 : W.cell? ⟨b, 0, none⟩ = some x0) (h1 : W.cell? ⟨b, 1, none⟩ = some x1) :
    w1.cell? ⟨b, 0, none⟩ = some x0 ∧ w1.cell? ⟨b, 1, none⟩ = some x1 :=
  ⟨(hb.cell (p := ⟨b, 0, none⟩) h).trans h0, (hb.cell (p := ⟨b, 1, none⟩) h).trans h1⟩
/-- sizes behind a call: what lies below K lies below the new size. -/
theorem sizes {W w1 : World} {B : Nat} (hb : Below B W w1) (K : Nat) (hK : K ≤ W.heap.size) :
    (∀ b, b < K → (b < w1.heap.size) = True) ∧ (∀ b, b < K → (b = w1.heap.size) = False) ∧ (∀ b, b < K → (w1.heap.size = b) = False) := by
  have := hb.size
  refine ⟨fun b h => ?_, fun b h => ?_, fun b h => ?_⟩
  all_goals simp; omega
theorem hid {p : Prop} (h : p) : Hid p := h
def M : Int := 18446744073709551616
theorem M_eq : M = 18446744073709551616 := rfl
def U64 (x : Int) : Prop := 0 ≤ x ∧ x < M
def W128 (h l : Int) : Int := h * M + l

theorem need_yes (w : World) : Calls Tryd.prog 45 #[.bool true] w fun e w' => e = .returned (.tuple #[]) ∧ w = w' := by
  go_enter Tryd.func45, Tryd.ntmps45
  go_wp2
  go_end0
  exact ⟨rfl, rfl⟩

def ovf : List PanicEntry := [{ v := .iface 30 (.int .i64 110), recovered := false }]

theorem need_no (w : World) : Calls Tryd.prog 45 #[.bool false] w fun e w' => e = .panicked ovf ∧ w = w' := by
  go_enter Tryd.func45, Tryd.ntmps45
  go_wp2
  exact ⟨rfl, rfl, rfl⟩

theorem add64 (x y c : Int) (hx : 0 ≤ x) (hy : 0 ≤ y) (hc0 : 0 ≤ c) (hc : c ≤ 1) (w : World) :
    (callFunc 56 #[.int .u64 x, .int .u64 y, .int .u64 c]).run Tryd.prog w =
      .ok (.value (.tuple #[.int .u64 ((x + y + c) % M), .int .u64 ((x + y + c) / M)])) w := by
  rw [run_callFunc_extern Tryd.func56 (by kernel_rfl) (by kernel_rfl) (by kernel_rfl) (e := add64Entry) (by kernel_rfl), run_add64 x y c hx hy hc0 hc]
  rfl

theorem sub64 (x y c : Int) (hx : 0 ≤ x) (hx' : x < M) (hy : 0 ≤ y) (hy' : y < M) (hc0 : 0 ≤ c) (hc : c ≤ 1) (w : World) :
    (callFunc 44 #[.int .u64 x, .int .u64 y, .int .u64 c]).run Tryd.prog w =
      .ok (.value (.tuple #[.int .u64 ((x + M - y - c) % M), .int .u64 (1 - (x + M - y - c) / M)])) w := by
  obtain ⟨x, rfl⟩ := Int.eq_ofNat_of_zero_le hx
  obtain ⟨y, rfl⟩ := Int.eq_ofNat_of_zero_le hy
  obtain ⟨c, rfl⟩ := Int.eq_ofNat_of_zero_le hc0
  rw [run_callFunc_extern Tryd.func44 (by kernel_rfl) (by kernel_rfl) (by kernel_rfl) (e := sub64Entry) (by kernel_rfl), run_sub64 x y c (by omega)]
  simp only [M_eq] at *
  have e1 : (((x + 18446744073709551616 - y - c) % 18446744073709551616 : Nat) : Int) = ((x : Int) + 18446744073709551616 - y - c) % 18446744073709551616 := by omega
  have e2 : ((if x < y + c then 1 else 0 : Nat) : Int) = 1 - ((x : Int) + 18446744073709551616 - y - c) / 18446744073709551616 := by
    split <;> omega
  rw [e1, e2]
  rfl

theorem plus_go (a b c d : Int) (w : World) (ha : U64 a) (hb : U64 b) (hc : U64 c) (hd : U64 d) (h : W128 a b + W128 c d < M * M) :
   Calls Tryd.prog 41 #[.agg #[.int .u64 a, .int .u64 b], .agg #[.int .u64 c, .int .u64 d]] w fun e w' =>
    (∃ h l, e = .returned (.agg #[.int .u64 h, .int .u64 l]) ∧ U64 h ∧ U64 l ∧ W128 h l = W128 a b + W128 c d) ∧ Below w.heap.size w w' := by
  unfold U64 W128 at *
  have hm : Hid (M = 18446744073709551616) := rfl
  have A1 := fun w => add64 b d 0 (by omega) (by omega) (by omega) (by omega) w
  have A2 := fun w => add64 a c ((b + d + 0) / M) (by omega) (by omega) (by rw [M_eq] at *; omega) (by rw [M_eq] at *; omega) w
  rw [Int.add_zero] at A1 A2
  have A3 : ((a + c + (b + d) / M) / M == 0) = true := by rw [beq_iff_eq]; rw [M_eq] at *; omega
  go_enter Tryd.func41, Tryd.ntmps41
  go_wp2_with (go_at_call 45; refine (need_yes _).mono ?_; rintro e w' ⟨rfl, rfl⟩)
  refine bodyPost_ret (v := .agg #[.int .u64 ((a + c + (b + d) / M) % M), .int .u64 ((b + d) % M)]) (by simp [results, Tryd.results41, go_sem]) rfl ⟨⟨_, _, rfl, ?_, ?_, ?_⟩, ?_⟩
  · rw [M_eq] at *; omega
  · rw [M_eq] at *; omega
  · rw [M_eq] at *; rw [beq_iff_eq] at A3; omega
  · exact (((Below.refl _ _).alloc (Nat.le_refl _) _).alloc (by simp) _).alloc (by simp; omega) _

theorem plus_no (a b c d : Int) (w : World) (ha : U64 a) (hb : U64 b) (hc : U64 c) (hd : U64 d) (h : ¬ W128 a b + W128 c d < M * M) :
   Calls Tryd.prog 41 #[.agg #[.int .u64 a, .int .u64 b], .agg #[.int .u64 c, .int .u64 d]] w fun e w' =>
    e = .panicked ovf ∧ Below w.heap.size w w' := by
  unfold U64 W128 at *
  have A1 := fun w => add64 b d 0 (by omega) (by omega) (by omega) (by omega) w
  have A2 := fun w => add64 a c ((b + d + 0) / M) (by omega) (by omega) (by rw [M_eq] at *; omega) (by rw [M_eq] at *; omega) w
  rw [Int.add_zero] at A1 A2
  have A3 : ((a + c + (b + d) / M) / M == 0) = false := by rw [beq_eq_false_iff_ne]; rw [M_eq] at *; omega
  go_enter Tryd.func41, Tryd.ntmps41
  go_wp2_with (go_at_call 45; refine (need_no _).mono ?_; rintro e w' ⟨rfl, rfl⟩)
  exact ⟨rfl, rfl, (((Below.refl _ _).alloc (Nat.le_refl _) _).alloc (by simp) _).alloc (by simp; omega) _⟩

/-- what an operation on wide numbers comes to: the number, or the panic of an overflow; nothing old is turned. -/
def WideOr (N : Int) (w : World) (e : Ending) (w' : World) : Prop :=
  Below w.heap.size w w' ∧ ((N < M * M ∧ ∃ h l, e = .returned (.agg #[.int .u64 h, .int .u64 l]) ∧ U64 h ∧ U64 l ∧ W128 h l = N) ∨ (¬ N < M * M ∧ e = .panicked ovf))

theorem plus_any (a b c d : Int) (w : World) (ha : U64 a) (hb : U64 b) (hc : U64 c) (hd : U64 d) :
   Calls Tryd.prog 41 #[.agg #[.int .u64 a, .int .u64 b], .agg #[.int .u64 c, .int .u64 d]] w (WideOr (W128 a b + W128 c d) w) := by
  by_cases h : W128 a b + W128 c d < M * M
  · exact (plus_go a b c d w ha hb hc hd h).mono fun e w' ⟨⟨x, y, h1, h2, h3, h4⟩, h5⟩ => ⟨h5, Or.inl ⟨h, x, y, h1, h2, h3, h4⟩⟩
  · exact (plus_no a b c d w ha hb hc hd h).mono fun e w' ⟨h1, h2⟩ => ⟨h2, Or.inr ⟨h, h1⟩⟩
end Go.Proofs.YtdpcfpmlkhdmkaaDoor
