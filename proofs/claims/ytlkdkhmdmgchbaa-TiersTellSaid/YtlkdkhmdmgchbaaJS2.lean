/- slices.Grow of the library at tiers, laid in plain words. -/
import Derived.Shelf.Spec.SlicesGrow
import Derived.Test.YtlkdkhmdmgchbaaB0
namespace Go.Proofs
set_option linter.unusedSimpArgs false
set_option linter.unusedVariables false
open Go.Shelf
def Try.growTr_ren : Go.Shelf.Ren := ⟨fun | 4 => 164 | n => n, fun | 22 => 40 | 25 => 24 | n => n, fun | n => n⟩
theorem Try.growTr : Go.Proofs.Lays8.n4 Try.prog Try.growTr_ren := {
  mixed := by kernel_rfl
  f4 := ⟨Try.f164.name, by decide, Try.func164.trans (congrArg some (by kernel_rfl))⟩
  t0 := Try.underlying0
  a0 := Try.isAgg0
  z0 := Try.sizeOf0
  v0 := Try.zeroValue0
  t3 := Try.underlying3
  a3 := Try.isAgg3
  z3 := Try.sizeOf3
  v3 := Try.zeroValue3
  t4 := Try.underlying4
  a4 := Try.isAgg4
  z4 := Try.sizeOf4
  v4 := Try.zeroValue4
  t9 := Try.underlying9
  a9 := Try.isAgg9
  z9 := Try.sizeOf9
  v9 := Try.zeroValue9
  t20 := Try.underlying20
  a20 := Try.isAgg20
  z20 := Try.sizeOf20
  v20 := Try.zeroValue20
  t22 := Try.underlying40
  a22 := Try.isAgg40
  z22 := Try.sizeOf40
  v22 := Try.zeroValue40
}
end Go.Proofs
