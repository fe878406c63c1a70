/- the law WideRead: its walk. -/
import Derived.Test.YtdpcfpmlkhdmkaaDoorW19
import Derived.Test.YtdpcfpmlkhdmkaaDoorL2
namespace Go.Proofs.YtdpcfpmlkhdmkaaDoor
open Go.RowKit

set_option maxRecDepth 100000 in
set_option maxHeartbeats 2000000 in
theorem readlaw_any (a b : Int) (s : ByteArray) (w : World) (ua : U64 a) (ub : U64 b) (g : One w) : Calls Tryd.prog 7 #[.agg #[(.int .u64 (a)), (.int .u64 (b))], .string s] w fun e w' => e = .returned (.bool true) ∧ Below w.heap.size w w' := by
  obtain ⟨n, hn⟩ := Int.eq_ofNat_of_zero_le (W128.lt ua ub).1
  have HN := hid hn
  have HLT : Hid ((n : Int) < M * M) := by show _ < _; rw [← hn]; exact (W128.lt ua ub).2
  have G1 := hid (g.below g.1 (below_alloc w (.cells #[(.int .u64 (a)), (.int .u64 (b))] 27)))
  have b2 := hid (Bx.new w a b 27)
  have BEL := hid (below_alloc w (.cells #[(.int .u64 (a)), (.int .u64 (b))] 27))
  clear hn g
  go_enter Tryd.func7, Tryd.ntmps7
  go_wp2_with fail
  refine (wakes_any _ G1.out).mono ?_
  rintro e w1 ⟨rfl, B⟩
  replace BEL := hid (bel_step BEL.out B)
  replace b2 := hid (b2.out.keep B)
  clear B
  obtain ⟨b2_0, b2_1, b2_s⟩ := b2.out
  go_wp2_with fail
  refine (text_of a b n _ ua ub HN.out).mono ?_
  rintro e w2 ⟨rfl, B⟩
  replace BEL := hid (bel_step BEL.out B)
  replace b2 := hid (b2.out.keep B)
  clear B
  clear b2_0 b2_1 b2_s
  go_wp2_with fail
  refine (read_any _ _).mono ?_
  rintro e w3 hq
  obtain ⟨-, hq⟩ | ⟨hq, -⟩ := hq
  rotate_left
  · exact absurd (textOf_good n (MM_39 HLT.out)).1 hq
  rw [(textOf_good n (MM_39 HLT.out)).2] at hq
  obtain ⟨B, x, y, c, rfl, q⟩ := hq.got
  obtain ⟨-, rfl, ux, uy, exy⟩ | ⟨q, -⟩ := q
  rotate_left
  · exact absurd HLT.out q
  obtain ⟨rfl, rfl⟩ := W128.inj' ux uy ua ub (by rw [exy, HN.out])
  clear hq exy ux uy
  replace BEL := hid (bel_step BEL.out B)
  replace b2 := hid (b2.out.keep B)
  clear B
  obtain ⟨b2_0, b2_1, b2_s⟩ := b2.out
  go_wp2_with fail
  generalize s.extract 0 (min (s.size : Int) 60).toNat = t at *
  replace BEL := hid (bel_step BEL.out (below_alloc w3 (.cells #[(.int .u64 (x)), (.int .u64 (y))] 27)))
  generalize (w3.alloc (.cells #[(.int .u64 (x)), (.int .u64 (y))] 27)) = W4 at *
  clear b2 b2_0 b2_1 b2_s
  refine (read_any t _).mono ?_
  rintro e w5 hq
  obtain ⟨hg, hq⟩ | ⟨-, rfl, B⟩ := hq
  · obtain ⟨B, x', y', c, rfl, q⟩ := hq.got
    obtain ⟨hlt, rfl, ux, uy, exy⟩ | ⟨-, rfl, rfl, rfl⟩ := q
    · have TX := hid (good_textOf hg (MM_39 hlt))
      have EX := hid exy
      clear hq hg hlt exy
      replace BEL := hid (bel_step BEL.out B)
      clear B
      go_wp2_with fail
      refine (text_of x' y' _ _ ux uy EX.out).mono ?_
      rintro e w6 ⟨rfl, B⟩
      rw [TX.out]
      replace BEL := hid (bel_step BEL.out (below_alloc w5 (.cells #[(.int .u64 (x')), (.int .u64 (y'))] 27)))
      replace BEL := hid (bel_step BEL.out B)
      clear B
      go_wp2_with fail
      go_ret
      exact ⟨rfl, BEL.out⟩
    · clear hq
      replace BEL := hid (bel_step BEL.out B)
      clear B
      go_wp2_with fail
      go_ret
      exact ⟨rfl, BEL.out.alloc BEL.out.size _⟩
  · replace BEL := hid (bel_step BEL.out B)
    clear B
    go_wp2_with fail
    go_ret
    exact ⟨rfl, BEL.out.alloc BEL.out.size _⟩
end Go.Proofs.YtdpcfpmlkhdmkaaDoor
