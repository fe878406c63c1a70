/-
  No cell of these rows narrows 'for every input' (looked for: loops, veiled, ifaces, maps, wideKeys, modest, calm, conditions, laid).
  DERIVED. THE GIVEN ROWS OF THIS SEAT. 21 by the template 'for every input the law returns true; each argument reads behind the call as it read before'; 0 by the template 'total and deterministic' (their statements: YtlkdkhmdmgchbaaTotals.lean).
  GIVEN WITH THE SEED: the statements are not yours to turn. If you find one false, say at which input.
  Laid BY PROGRAM, IN A SANDBOX (cutbox-rows.mjs): the forced cells as the released guide's own fill.sh prints them over the translation 34623b7fa7ef7e23… (all of the seat's roots in one cut). By AI agents, Wed Nov 11 2026. No macro, syntax, notation, axiom, sorry.
-/
import Derived.Test.YtlkdkhmdmgchbaaChecked
import GoSem.Claim
import GoSem.ClaimJoined
import GoSem.ClaimMapViews
import Derived.JoinedTies
import Derived.KernelRfl
namespace Go.Proofs.Ytlkdkhmdmgchbaa
/- THE CELL 'sum', in the pinned program and in every row, IS THE sha256 OF THE DUMP (.gsa) THAT YtlkdkhmdmgchbaaProg.lean LOADS. Nothing in Lean hashes anything: it is a label: what it is worth is what the hold of that sum in a sandbox is worth. -/
noncomputable def Try.pinned : Pinned := { name := "ytlkdkhmdmgchbaa", sum := "34623b7fa7ef7e23567ea9f6c586a36155e381c16a31a40e392863bc80f3ac2d", checked := Try.checked }
namespace Rows
def none {H : Type} : Left H := { results := [], args := [] }

/-- 'colanderlaw12.MergeSteps': WHATEVER THE INPUT: true; the input reads as it did. -/
def mergeStepsSpec : ChangeSpec := { name := "mergeSteps", fn := fun _ => fun
  | [d1, d2] => { results := [.lit (.bool true)], args := [d1, d2] }
  | _ => none }
def mergeStepsRow : OpenClaim := { program := "ytlkdkhmdmgchbaa", sum := "34623b7fa7ef7e23567ea9f6c586a36155e381c16a31a40e392863bc80f3ac2d", func := "colander/colanderlaw12.MergeSteps", spec := "mergeSteps", unfollowed := true, recurses := true, plainKeys := false, apart := false }
def MergeStepsSaid : Prop := mergeStepsRow.holds Try.pinned (OpenSpec.ofChange mergeStepsSpec)

/-- ITS FALSE NEIGHBOUR: 'it returns false'. Refute it at one input. -/
def mergeStepsWrong : ChangeSpec := { name := "mergeSteps", fn := fun _ => fun
  | [d1, d2] => { results := [.lit (.bool false)], args := [d1, d2] }
  | _ => none }
def MergeStepsWrongFalsely : Prop := mergeStepsRow.holds Try.pinned (OpenSpec.ofChange mergeStepsWrong)

/-- 'colanderlaw12.MergeMay': WHATEVER THE INPUT: true; the input reads as it did. -/
def mergeMaySpec : ChangeSpec := { name := "mergeMay", fn := fun _ => fun
  | [d1, d2] => { results := [.lit (.bool true)], args := [d1, d2] }
  | _ => none }
def mergeMayRow : OpenClaim := { program := "ytlkdkhmdmgchbaa", sum := "34623b7fa7ef7e23567ea9f6c586a36155e381c16a31a40e392863bc80f3ac2d", func := "colander/colanderlaw12.MergeMay", spec := "mergeMay", unfollowed := true, recurses := true, plainKeys := false, apart := false }
def MergeMaySaid : Prop := mergeMayRow.holds Try.pinned (OpenSpec.ofChange mergeMaySpec)

/-- ITS FALSE NEIGHBOUR: 'it returns false'. Refute it at one input. -/
def mergeMayWrong : ChangeSpec := { name := "mergeMay", fn := fun _ => fun
  | [d1, d2] => { results := [.lit (.bool false)], args := [d1, d2] }
  | _ => none }
def MergeMayWrongFalsely : Prop := mergeMayRow.holds Try.pinned (OpenSpec.ofChange mergeMayWrong)

/-- 'colanderlaw12.MergeParts': WHATEVER THE INPUT: true; the input reads as it did. -/
def mergePartsSpec : ChangeSpec := { name := "mergeParts", fn := fun _ => fun
  | [d1, d2, d3] => { results := [.lit (.bool true)], args := [d1, d2, d3] }
  | _ => none }
def mergePartsRow : OpenClaim := { program := "ytlkdkhmdmgchbaa", sum := "34623b7fa7ef7e23567ea9f6c586a36155e381c16a31a40e392863bc80f3ac2d", func := "colander/colanderlaw12.MergeParts", spec := "mergeParts", unfollowed := true, recurses := true, plainKeys := false, apart := false }
def MergePartsSaid : Prop := mergePartsRow.holds Try.pinned (OpenSpec.ofChange mergePartsSpec)

/-- ITS FALSE NEIGHBOUR: 'it returns false'. Refute it at one input. -/
def mergePartsWrong : ChangeSpec := { name := "mergeParts", fn := fun _ => fun
  | [d1, d2, d3] => { results := [.lit (.bool false)], args := [d1, d2, d3] }
  | _ => none }
def MergePartsWrongFalsely : Prop := mergePartsRow.holds Try.pinned (OpenSpec.ofChange mergePartsWrong)

/-- 'colanderlaw13.ViewGoes': WHATEVER THE INPUT: true; the input reads as it did. -/
def viewGoesSpec : ChangeSpec := { name := "viewGoes", fn := fun _ => fun
  | [d1, d2] => { results := [.lit (.bool true)], args := [d1, d2] }
  | _ => none }
def viewGoesRow : OpenClaim := { program := "ytlkdkhmdmgchbaa", sum := "34623b7fa7ef7e23567ea9f6c586a36155e381c16a31a40e392863bc80f3ac2d", func := "colander/colanderlaw13.ViewGoes", spec := "viewGoes", unfollowed := true, recurses := true, plainKeys := false, apart := false }
def ViewGoesSaid : Prop := viewGoesRow.holds Try.pinned (OpenSpec.ofChange viewGoesSpec)

/-- ITS FALSE NEIGHBOUR: 'it returns false'. Refute it at one input. -/
def viewGoesWrong : ChangeSpec := { name := "viewGoes", fn := fun _ => fun
  | [d1, d2] => { results := [.lit (.bool false)], args := [d1, d2] }
  | _ => none }
def ViewGoesWrongFalsely : Prop := viewGoesRow.holds Try.pinned (OpenSpec.ofChange viewGoesWrong)

/-- 'colanderlaw13.ViewCopies': WHATEVER THE INPUT: true; the input reads as it did. -/
def viewCopiesSpec : ChangeSpec := { name := "viewCopies", fn := fun _ => fun
  | [d1, d2, d3] => { results := [.lit (.bool true)], args := [d1, d2, d3] }
  | _ => none }
def viewCopiesRow : OpenClaim := { program := "ytlkdkhmdmgchbaa", sum := "34623b7fa7ef7e23567ea9f6c586a36155e381c16a31a40e392863bc80f3ac2d", func := "colander/colanderlaw13.ViewCopies", spec := "viewCopies", unfollowed := true, recurses := true, plainKeys := false, apart := false }
def ViewCopiesSaid : Prop := viewCopiesRow.holds Try.pinned (OpenSpec.ofChange viewCopiesSpec)

/-- ITS FALSE NEIGHBOUR: 'it returns false'. Refute it at one input. -/
def viewCopiesWrong : ChangeSpec := { name := "viewCopies", fn := fun _ => fun
  | [d1, d2, d3] => { results := [.lit (.bool false)], args := [d1, d2, d3] }
  | _ => none }
def ViewCopiesWrongFalsely : Prop := viewCopiesRow.holds Try.pinned (OpenSpec.ofChange viewCopiesWrong)

/-- 'colanderlaw13.ViewSeeks': WHATEVER THE INPUT: true; the input reads as it did. -/
def viewSeeksSpec : ChangeSpec := { name := "viewSeeks", fn := fun _ => fun
  | [d1, d2, d3] => { results := [.lit (.bool true)], args := [d1, d2, d3] }
  | _ => none }
def viewSeeksRow : OpenClaim := { program := "ytlkdkhmdmgchbaa", sum := "34623b7fa7ef7e23567ea9f6c586a36155e381c16a31a40e392863bc80f3ac2d", func := "colander/colanderlaw13.ViewSeeks", spec := "viewSeeks", unfollowed := true, recurses := true, plainKeys := false, apart := false }
def ViewSeeksSaid : Prop := viewSeeksRow.holds Try.pinned (OpenSpec.ofChange viewSeeksSpec)

/-- ITS FALSE NEIGHBOUR: 'it returns false'. Refute it at one input. -/
def viewSeeksWrong : ChangeSpec := { name := "viewSeeks", fn := fun _ => fun
  | [d1, d2, d3] => { results := [.lit (.bool false)], args := [d1, d2, d3] }
  | _ => none }
def ViewSeeksWrongFalsely : Prop := viewSeeksRow.holds Try.pinned (OpenSpec.ofChange viewSeeksWrong)

/-- 'colanderlaw03.RunMay': WHATEVER THE INPUT: true; the input reads as it did. -/
def runMaySpec : ChangeSpec := { name := "runMay", fn := fun _ => fun
  | [d] => { results := [.lit (.bool true)], args := [d] }
  | _ => none }
def runMayRow : OpenClaim := { program := "ytlkdkhmdmgchbaa", sum := "34623b7fa7ef7e23567ea9f6c586a36155e381c16a31a40e392863bc80f3ac2d", func := "colander/colanderlaw03.RunMay", spec := "runMay", unfollowed := true, recurses := true, plainKeys := false, apart := false }
def RunMaySaid : Prop := runMayRow.holds Try.pinned (OpenSpec.ofChange runMaySpec)

/-- ITS FALSE NEIGHBOUR: 'it returns false'. Refute it at one input. -/
def runMayWrong : ChangeSpec := { name := "runMay", fn := fun _ => fun
  | [d] => { results := [.lit (.bool false)], args := [d] }
  | _ => none }
def RunMayWrongFalsely : Prop := runMayRow.holds Try.pinned (OpenSpec.ofChange runMayWrong)

/-- 'colanderlaw03.RunTurns': WHATEVER THE INPUT: true; the input reads as it did. -/
def runTurnsSpec : ChangeSpec := { name := "runTurns", fn := fun _ => fun
  | [d] => { results := [.lit (.bool true)], args := [d] }
  | _ => none }
def runTurnsRow : OpenClaim := { program := "ytlkdkhmdmgchbaa", sum := "34623b7fa7ef7e23567ea9f6c586a36155e381c16a31a40e392863bc80f3ac2d", func := "colander/colanderlaw03.RunTurns", spec := "runTurns", unfollowed := true, recurses := true, plainKeys := false, apart := false }
def RunTurnsSaid : Prop := runTurnsRow.holds Try.pinned (OpenSpec.ofChange runTurnsSpec)

/-- ITS FALSE NEIGHBOUR: 'it returns false'. Refute it at one input. -/
def runTurnsWrong : ChangeSpec := { name := "runTurns", fn := fun _ => fun
  | [d] => { results := [.lit (.bool false)], args := [d] }
  | _ => none }
def RunTurnsWrongFalsely : Prop := runTurnsRow.holds Try.pinned (OpenSpec.ofChange runTurnsWrong)

/-- 'colanderlaw03.RunTells': WHATEVER THE INPUT: true; the input reads as it did. -/
def runTellsSpec : ChangeSpec := { name := "runTells", fn := fun _ => fun
  | [d1, d2, d3] => { results := [.lit (.bool true)], args := [d1, d2, d3] }
  | _ => none }
def runTellsRow : OpenClaim := { program := "ytlkdkhmdmgchbaa", sum := "34623b7fa7ef7e23567ea9f6c586a36155e381c16a31a40e392863bc80f3ac2d", func := "colander/colanderlaw03.RunTells", spec := "runTells", unfollowed := true, recurses := true, plainKeys := false, apart := false }
def RunTellsSaid : Prop := runTellsRow.holds Try.pinned (OpenSpec.ofChange runTellsSpec)

/-- ITS FALSE NEIGHBOUR: 'it returns false'. Refute it at one input. -/
def runTellsWrong : ChangeSpec := { name := "runTells", fn := fun _ => fun
  | [d1, d2, d3] => { results := [.lit (.bool false)], args := [d1, d2, d3] }
  | _ => none }
def RunTellsWrongFalsely : Prop := runTellsRow.holds Try.pinned (OpenSpec.ofChange runTellsWrong)

/-- 'colanderlaw03.RunJoins': WHATEVER THE INPUT: true; the input reads as it did. -/
def runJoinsSpec : ChangeSpec := { name := "runJoins", fn := fun _ => fun
  | [d1, d2] => { results := [.lit (.bool true)], args := [d1, d2] }
  | _ => none }
def runJoinsRow : OpenClaim := { program := "ytlkdkhmdmgchbaa", sum := "34623b7fa7ef7e23567ea9f6c586a36155e381c16a31a40e392863bc80f3ac2d", func := "colander/colanderlaw03.RunJoins", spec := "runJoins", unfollowed := true, recurses := true, plainKeys := false, apart := false }
def RunJoinsSaid : Prop := runJoinsRow.holds Try.pinned (OpenSpec.ofChange runJoinsSpec)

/-- ITS FALSE NEIGHBOUR: 'it returns false'. Refute it at one input. -/
def runJoinsWrong : ChangeSpec := { name := "runJoins", fn := fun _ => fun
  | [d1, d2] => { results := [.lit (.bool false)], args := [d1, d2] }
  | _ => none }
def RunJoinsWrongFalsely : Prop := runJoinsRow.holds Try.pinned (OpenSpec.ofChange runJoinsWrong)

/-- 'colanderlaw03.RunParts': WHATEVER THE INPUT: true; the input reads as it did. -/
def runPartsSpec : ChangeSpec := { name := "runParts", fn := fun _ => fun
  | [d1, d2] => { results := [.lit (.bool true)], args := [d1, d2] }
  | _ => none }
def runPartsRow : OpenClaim := { program := "ytlkdkhmdmgchbaa", sum := "34623b7fa7ef7e23567ea9f6c586a36155e381c16a31a40e392863bc80f3ac2d", func := "colander/colanderlaw03.RunParts", spec := "runParts", unfollowed := true, recurses := true, plainKeys := false, apart := false }
def RunPartsSaid : Prop := runPartsRow.holds Try.pinned (OpenSpec.ofChange runPartsSpec)

/-- ITS FALSE NEIGHBOUR: 'it returns false'. Refute it at one input. -/
def runPartsWrong : ChangeSpec := { name := "runParts", fn := fun _ => fun
  | [d1, d2] => { results := [.lit (.bool false)], args := [d1, d2] }
  | _ => none }
def RunPartsWrongFalsely : Prop := runPartsRow.holds Try.pinned (OpenSpec.ofChange runPartsWrong)

/-- 'colanderlaw03.RunWhole': WHATEVER THE INPUT: true; the input reads as it did. -/
def runWholeSpec : ChangeSpec := { name := "runWhole", fn := fun _ => fun
  | [d1, d2, d3] => { results := [.lit (.bool true)], args := [d1, d2, d3] }
  | _ => none }
def runWholeRow : OpenClaim := { program := "ytlkdkhmdmgchbaa", sum := "34623b7fa7ef7e23567ea9f6c586a36155e381c16a31a40e392863bc80f3ac2d", func := "colander/colanderlaw03.RunWhole", spec := "runWhole", unfollowed := true, recurses := true, plainKeys := false, apart := false }
def RunWholeSaid : Prop := runWholeRow.holds Try.pinned (OpenSpec.ofChange runWholeSpec)

/-- ITS FALSE NEIGHBOUR: 'it returns false'. Refute it at one input. -/
def runWholeWrong : ChangeSpec := { name := "runWhole", fn := fun _ => fun
  | [d1, d2, d3] => { results := [.lit (.bool false)], args := [d1, d2, d3] }
  | _ => none }
def RunWholeWrongFalsely : Prop := runWholeRow.holds Try.pinned (OpenSpec.ofChange runWholeWrong)

/-- 'colanderlaw11.TiersPush': WHATEVER THE INPUT: true; the input reads as it did. -/
def tiersPushSpec : ChangeSpec := { name := "tiersPush", fn := fun _ => fun
  | [d1, d2, d3] => { results := [.lit (.bool true)], args := [d1, d2, d3] }
  | _ => none }
def tiersPushRow : OpenClaim := { program := "ytlkdkhmdmgchbaa", sum := "34623b7fa7ef7e23567ea9f6c586a36155e381c16a31a40e392863bc80f3ac2d", func := "colander/colanderlaw11.TiersPush", spec := "tiersPush", unfollowed := true, recurses := true, plainKeys := false, apart := false }
def TiersPushSaid : Prop := tiersPushRow.holds Try.pinned (OpenSpec.ofChange tiersPushSpec)

/-- ITS FALSE NEIGHBOUR: 'it returns false'. Refute it at one input. -/
def tiersPushWrong : ChangeSpec := { name := "tiersPush", fn := fun _ => fun
  | [d1, d2, d3] => { results := [.lit (.bool false)], args := [d1, d2, d3] }
  | _ => none }
def TiersPushWrongFalsely : Prop := tiersPushRow.holds Try.pinned (OpenSpec.ofChange tiersPushWrong)

/-- 'colanderlaw11.TiersNews': WHATEVER THE INPUT: true; the input reads as it did. -/
def tiersNewsSpec : ChangeSpec := { name := "tiersNews", fn := fun _ => fun
  | [d1, d2, d3] => { results := [.lit (.bool true)], args := [d1, d2, d3] }
  | _ => none }
def tiersNewsRow : OpenClaim := { program := "ytlkdkhmdmgchbaa", sum := "34623b7fa7ef7e23567ea9f6c586a36155e381c16a31a40e392863bc80f3ac2d", func := "colander/colanderlaw11.TiersNews", spec := "tiersNews", unfollowed := true, recurses := true, plainKeys := false, apart := false }
def TiersNewsSaid : Prop := tiersNewsRow.holds Try.pinned (OpenSpec.ofChange tiersNewsSpec)

/-- ITS FALSE NEIGHBOUR: 'it returns false'. Refute it at one input. -/
def tiersNewsWrong : ChangeSpec := { name := "tiersNews", fn := fun _ => fun
  | [d1, d2, d3] => { results := [.lit (.bool false)], args := [d1, d2, d3] }
  | _ => none }
def TiersNewsWrongFalsely : Prop := tiersNewsRow.holds Try.pinned (OpenSpec.ofChange tiersNewsWrong)

/-- 'colanderlaw11.TiersSquash': WHATEVER THE INPUT: true; the input reads as it did. -/
def tiersSquashSpec : ChangeSpec := { name := "tiersSquash", fn := fun _ => fun
  | [d1, d2, d3] => { results := [.lit (.bool true)], args := [d1, d2, d3] }
  | _ => none }
def tiersSquashRow : OpenClaim := { program := "ytlkdkhmdmgchbaa", sum := "34623b7fa7ef7e23567ea9f6c586a36155e381c16a31a40e392863bc80f3ac2d", func := "colander/colanderlaw11.TiersSquash", spec := "tiersSquash", unfollowed := true, recurses := true, plainKeys := false, apart := false }
def TiersSquashSaid : Prop := tiersSquashRow.holds Try.pinned (OpenSpec.ofChange tiersSquashSpec)

/-- ITS FALSE NEIGHBOUR: 'it returns false'. Refute it at one input. -/
def tiersSquashWrong : ChangeSpec := { name := "tiersSquash", fn := fun _ => fun
  | [d1, d2, d3] => { results := [.lit (.bool false)], args := [d1, d2, d3] }
  | _ => none }
def TiersSquashWrongFalsely : Prop := tiersSquashRow.holds Try.pinned (OpenSpec.ofChange tiersSquashWrong)

/-- 'colanderlaw12.MergeContent': WHATEVER THE INPUT: true; the input reads as it did. -/
def mergeContentSpec : ChangeSpec := { name := "mergeContent", fn := fun _ => fun
  | [d1, d2, d3] => { results := [.lit (.bool true)], args := [d1, d2, d3] }
  | _ => none }
def mergeContentRow : OpenClaim := { program := "ytlkdkhmdmgchbaa", sum := "34623b7fa7ef7e23567ea9f6c586a36155e381c16a31a40e392863bc80f3ac2d", func := "colander/colanderlaw12.MergeContent", spec := "mergeContent", unfollowed := true, recurses := true, plainKeys := false, apart := false }
def MergeContentSaid : Prop := mergeContentRow.holds Try.pinned (OpenSpec.ofChange mergeContentSpec)

/-- ITS FALSE NEIGHBOUR: 'it returns false'. Refute it at one input. -/
def mergeContentWrong : ChangeSpec := { name := "mergeContent", fn := fun _ => fun
  | [d1, d2, d3] => { results := [.lit (.bool false)], args := [d1, d2, d3] }
  | _ => none }
def MergeContentWrongFalsely : Prop := mergeContentRow.holds Try.pinned (OpenSpec.ofChange mergeContentWrong)

/-- 'colanderlaw11.TiersThree': WHATEVER THE INPUT: true; the input reads as it did. -/
def tiersThreeSpec : ChangeSpec := { name := "tiersThree", fn := fun _ => fun
  | [d1, d2] => { results := [.lit (.bool true)], args := [d1, d2] }
  | _ => none }
def tiersThreeRow : OpenClaim := { program := "ytlkdkhmdmgchbaa", sum := "34623b7fa7ef7e23567ea9f6c586a36155e381c16a31a40e392863bc80f3ac2d", func := "colander/colanderlaw11.TiersThree", spec := "tiersThree", unfollowed := true, recurses := true, plainKeys := false, apart := false }
def TiersThreeSaid : Prop := tiersThreeRow.holds Try.pinned (OpenSpec.ofChange tiersThreeSpec)

/-- ITS FALSE NEIGHBOUR: 'it returns false'. Refute it at one input. -/
def tiersThreeWrong : ChangeSpec := { name := "tiersThree", fn := fun _ => fun
  | [d1, d2] => { results := [.lit (.bool false)], args := [d1, d2] }
  | _ => none }
def TiersThreeWrongFalsely : Prop := tiersThreeRow.holds Try.pinned (OpenSpec.ofChange tiersThreeWrong)

/-- 'colanderlaw11.TiersTell': WHATEVER THE INPUT: true; the input reads as it did. -/
def tiersTellSpec : ChangeSpec := { name := "tiersTell", fn := fun _ => fun
  | [d1, d2, d3] => { results := [.lit (.bool true)], args := [d1, d2, d3] }
  | _ => none }
def tiersTellRow : OpenClaim := { program := "ytlkdkhmdmgchbaa", sum := "34623b7fa7ef7e23567ea9f6c586a36155e381c16a31a40e392863bc80f3ac2d", func := "colander/colanderlaw11.TiersTell", spec := "tiersTell", unfollowed := true, recurses := true, plainKeys := false, apart := false }
def TiersTellSaid : Prop := tiersTellRow.holds Try.pinned (OpenSpec.ofChange tiersTellSpec)

/-- ITS FALSE NEIGHBOUR: 'it returns false'. Refute it at one input. -/
def tiersTellWrong : ChangeSpec := { name := "tiersTell", fn := fun _ => fun
  | [d1, d2, d3] => { results := [.lit (.bool false)], args := [d1, d2, d3] }
  | _ => none }
def TiersTellWrongFalsely : Prop := tiersTellRow.holds Try.pinned (OpenSpec.ofChange tiersTellWrong)

/-- 'colanderlaw11.TiersStay': WHATEVER THE INPUT: true; the input reads as it did. -/
def tiersStaySpec : ChangeSpec := { name := "tiersStay", fn := fun _ => fun
  | [d1, d2] => { results := [.lit (.bool true)], args := [d1, d2] }
  | _ => none }
def tiersStayRow : OpenClaim := { program := "ytlkdkhmdmgchbaa", sum := "34623b7fa7ef7e23567ea9f6c586a36155e381c16a31a40e392863bc80f3ac2d", func := "colander/colanderlaw11.TiersStay", spec := "tiersStay", unfollowed := true, recurses := true, plainKeys := false, apart := false }
def TiersStaySaid : Prop := tiersStayRow.holds Try.pinned (OpenSpec.ofChange tiersStaySpec)

/-- ITS FALSE NEIGHBOUR: 'it returns false'. Refute it at one input. -/
def tiersStayWrong : ChangeSpec := { name := "tiersStay", fn := fun _ => fun
  | [d1, d2] => { results := [.lit (.bool false)], args := [d1, d2] }
  | _ => none }
def TiersStayWrongFalsely : Prop := tiersStayRow.holds Try.pinned (OpenSpec.ofChange tiersStayWrong)

/-- 'colanderlaw12.MergeEnds': WHATEVER THE INPUT: true; the input reads as it did. -/
def mergeEndsSpec : ChangeSpec := { name := "mergeEnds", fn := fun _ => fun
  | [d1, d2, d3] => { results := [.lit (.bool true)], args := [d1, d2, d3] }
  | _ => none }
def mergeEndsRow : OpenClaim := { program := "ytlkdkhmdmgchbaa", sum := "34623b7fa7ef7e23567ea9f6c586a36155e381c16a31a40e392863bc80f3ac2d", func := "colander/colanderlaw12.MergeEnds", spec := "mergeEnds", unfollowed := true, recurses := true, plainKeys := false, apart := false }
def MergeEndsSaid : Prop := mergeEndsRow.holds Try.pinned (OpenSpec.ofChange mergeEndsSpec)

/-- ITS FALSE NEIGHBOUR: 'it returns false'. Refute it at one input. -/
def mergeEndsWrong : ChangeSpec := { name := "mergeEnds", fn := fun _ => fun
  | [d1, d2, d3] => { results := [.lit (.bool false)], args := [d1, d2, d3] }
  | _ => none }
def MergeEndsWrongFalsely : Prop := mergeEndsRow.holds Try.pinned (OpenSpec.ofChange mergeEndsWrong)

/-- 'colanderlaw13.ViewAll': WHATEVER THE INPUT: true; the input reads as it did. -/
def viewAllSpec : ChangeSpec := { name := "viewAll", fn := fun _ => fun
  | [d] => { results := [.lit (.bool true)], args := [d] }
  | _ => none }
def viewAllRow : OpenClaim := { program := "ytlkdkhmdmgchbaa", sum := "34623b7fa7ef7e23567ea9f6c586a36155e381c16a31a40e392863bc80f3ac2d", func := "colander/colanderlaw13.ViewAll", spec := "viewAll", unfollowed := true, recurses := true, plainKeys := false, apart := false }
def ViewAllSaid : Prop := viewAllRow.holds Try.pinned (OpenSpec.ofChange viewAllSpec)

/-- ITS FALSE NEIGHBOUR: 'it returns false'. Refute it at one input. -/
def viewAllWrong : ChangeSpec := { name := "viewAll", fn := fun _ => fun
  | [d] => { results := [.lit (.bool false)], args := [d] }
  | _ => none }
def ViewAllWrongFalsely : Prop := viewAllRow.holds Try.pinned (OpenSpec.ofChange viewAllWrong)

/- THE SECOND FORM. 'bulk': how many values and letters a reading holds, each counted each time it is reached (what is shared counts as often as it is met; a slice's spare places count too). A statement '..UptoSaid' is the law's where the arguments, and the package variables that the reading takes, are together of bulk at most 1048576: NARROWER than '..Said'. Prove '..Said' where nothing that the law and all that it calls make is longer than what came in: it says more and counts as full. Else prove '..UptoSaid'. A law counts once. -/
mutual
def uptoBulk {H : Type} : DataW H → Nat
  | .lit (.string bytes) => bytes.length + 1
  | .lit _ => 1
  | .nil => 1
  | .ptr d => uptoBulk d + 1
  | .slice elems spare => uptoBulkAll elems + uptoBulkAll spare + 1
  | .agg parts => uptoBulkAll parts + 1
  | .iface _ d => uptoBulk d + 1
  | .map entries => uptoBulkEntries entries + 1
  | .held _ => 1
def uptoBulkAll {H : Type} : List (DataW H) → Nat
  | [] => 0
  | d :: r => uptoBulk d + uptoBulkAll r
def uptoBulkEntries {H : Type} : List (Lit × DataW H) → Nat
  | [] => 0
  | x :: r => uptoBulkEntry x + uptoBulkEntries r
def uptoBulkEntry {H : Type} : Lit × DataW H → Nat
  | (.string bytes, d) => bytes.length + uptoBulk d + 1
  | (_, d) => uptoBulk d + 1
 end
def uptoSmall : (H : Type) → List (DataW H) → Bool := fun _ ds => decide (uptoBulkAll ds ≤ 1048576)
def OpenSpec.upto (s : _root_.Go.ChangeSpec) : _root_.Go.OpenSpec := { _root_.Go.OpenSpec.ofChange s with cond := some uptoSmall }

/-- 'colanderlaw12.MergeSteps', WHERE WHAT IT READS IS OF BULK AT MOST 1048576: true; the input reads as it did. -/
def mergeStepsUptoRow : OpenClaim := { program := "ytlkdkhmdmgchbaa", sum := "34623b7fa7ef7e23567ea9f6c586a36155e381c16a31a40e392863bc80f3ac2d", func := "colander/colanderlaw12.MergeSteps", spec := "mergeSteps", unfollowed := true, recurses := true, plainKeys := false, apart := false, narrowed := true }
def MergeStepsUptoSaid : Prop := mergeStepsUptoRow.holds Try.pinned (OpenSpec.upto mergeStepsSpec)

/-- 'colanderlaw12.MergeMay', WHERE WHAT IT READS IS OF BULK AT MOST 1048576: true; the input reads as it did. -/
def mergeMayUptoRow : OpenClaim := { program := "ytlkdkhmdmgchbaa", sum := "34623b7fa7ef7e23567ea9f6c586a36155e381c16a31a40e392863bc80f3ac2d", func := "colander/colanderlaw12.MergeMay", spec := "mergeMay", unfollowed := true, recurses := true, plainKeys := false, apart := false, narrowed := true }
def MergeMayUptoSaid : Prop := mergeMayUptoRow.holds Try.pinned (OpenSpec.upto mergeMaySpec)

/-- 'colanderlaw12.MergeParts', WHERE WHAT IT READS IS OF BULK AT MOST 1048576: true; the input reads as it did. -/
def mergePartsUptoRow : OpenClaim := { program := "ytlkdkhmdmgchbaa", sum := "34623b7fa7ef7e23567ea9f6c586a36155e381c16a31a40e392863bc80f3ac2d", func := "colander/colanderlaw12.MergeParts", spec := "mergeParts", unfollowed := true, recurses := true, plainKeys := false, apart := false, narrowed := true }
def MergePartsUptoSaid : Prop := mergePartsUptoRow.holds Try.pinned (OpenSpec.upto mergePartsSpec)

/-- 'colanderlaw13.ViewGoes', WHERE WHAT IT READS IS OF BULK AT MOST 1048576: true; the input reads as it did. -/
def viewGoesUptoRow : OpenClaim := { program := "ytlkdkhmdmgchbaa", sum := "34623b7fa7ef7e23567ea9f6c586a36155e381c16a31a40e392863bc80f3ac2d", func := "colander/colanderlaw13.ViewGoes", spec := "viewGoes", unfollowed := true, recurses := true, plainKeys := false, apart := false, narrowed := true }
def ViewGoesUptoSaid : Prop := viewGoesUptoRow.holds Try.pinned (OpenSpec.upto viewGoesSpec)

/-- 'colanderlaw13.ViewCopies', WHERE WHAT IT READS IS OF BULK AT MOST 1048576: true; the input reads as it did. -/
def viewCopiesUptoRow : OpenClaim := { program := "ytlkdkhmdmgchbaa", sum := "34623b7fa7ef7e23567ea9f6c586a36155e381c16a31a40e392863bc80f3ac2d", func := "colander/colanderlaw13.ViewCopies", spec := "viewCopies", unfollowed := true, recurses := true, plainKeys := false, apart := false, narrowed := true }
def ViewCopiesUptoSaid : Prop := viewCopiesUptoRow.holds Try.pinned (OpenSpec.upto viewCopiesSpec)

/-- 'colanderlaw13.ViewSeeks', WHERE WHAT IT READS IS OF BULK AT MOST 1048576: true; the input reads as it did. -/
def viewSeeksUptoRow : OpenClaim := { program := "ytlkdkhmdmgchbaa", sum := "34623b7fa7ef7e23567ea9f6c586a36155e381c16a31a40e392863bc80f3ac2d", func := "colander/colanderlaw13.ViewSeeks", spec := "viewSeeks", unfollowed := true, recurses := true, plainKeys := false, apart := false, narrowed := true }
def ViewSeeksUptoSaid : Prop := viewSeeksUptoRow.holds Try.pinned (OpenSpec.upto viewSeeksSpec)

/-- 'colanderlaw03.RunMay', WHERE WHAT IT READS IS OF BULK AT MOST 1048576: true; the input reads as it did. -/
def runMayUptoRow : OpenClaim := { program := "ytlkdkhmdmgchbaa", sum := "34623b7fa7ef7e23567ea9f6c586a36155e381c16a31a40e392863bc80f3ac2d", func := "colander/colanderlaw03.RunMay", spec := "runMay", unfollowed := true, recurses := true, plainKeys := false, apart := false, narrowed := true }
def RunMayUptoSaid : Prop := runMayUptoRow.holds Try.pinned (OpenSpec.upto runMaySpec)

/-- 'colanderlaw03.RunTurns', WHERE WHAT IT READS IS OF BULK AT MOST 1048576: true; the input reads as it did. -/
def runTurnsUptoRow : OpenClaim := { program := "ytlkdkhmdmgchbaa", sum := "34623b7fa7ef7e23567ea9f6c586a36155e381c16a31a40e392863bc80f3ac2d", func := "colander/colanderlaw03.RunTurns", spec := "runTurns", unfollowed := true, recurses := true, plainKeys := false, apart := false, narrowed := true }
def RunTurnsUptoSaid : Prop := runTurnsUptoRow.holds Try.pinned (OpenSpec.upto runTurnsSpec)

/-- 'colanderlaw03.RunTells', WHERE WHAT IT READS IS OF BULK AT MOST 1048576: true; the input reads as it did. -/
def runTellsUptoRow : OpenClaim := { program := "ytlkdkhmdmgchbaa", sum := "34623b7fa7ef7e23567ea9f6c586a36155e381c16a31a40e392863bc80f3ac2d", func := "colander/colanderlaw03.RunTells", spec := "runTells", unfollowed := true, recurses := true, plainKeys := false, apart := false, narrowed := true }
def RunTellsUptoSaid : Prop := runTellsUptoRow.holds Try.pinned (OpenSpec.upto runTellsSpec)

/-- 'colanderlaw03.RunJoins', WHERE WHAT IT READS IS OF BULK AT MOST 1048576: true; the input reads as it did. -/
def runJoinsUptoRow : OpenClaim := { program := "ytlkdkhmdmgchbaa", sum := "34623b7fa7ef7e23567ea9f6c586a36155e381c16a31a40e392863bc80f3ac2d", func := "colander/colanderlaw03.RunJoins", spec := "runJoins", unfollowed := true, recurses := true, plainKeys := false, apart := false, narrowed := true }
def RunJoinsUptoSaid : Prop := runJoinsUptoRow.holds Try.pinned (OpenSpec.upto runJoinsSpec)

/-- 'colanderlaw03.RunParts', WHERE WHAT IT READS IS OF BULK AT MOST 1048576: true; the input reads as it did. -/
def runPartsUptoRow : OpenClaim := { program := "ytlkdkhmdmgchbaa", sum := "34623b7fa7ef7e23567ea9f6c586a36155e381c16a31a40e392863bc80f3ac2d", func := "colander/colanderlaw03.RunParts", spec := "runParts", unfollowed := true, recurses := true, plainKeys := false, apart := false, narrowed := true }
def RunPartsUptoSaid : Prop := runPartsUptoRow.holds Try.pinned (OpenSpec.upto runPartsSpec)

/-- 'colanderlaw03.RunWhole', WHERE WHAT IT READS IS OF BULK AT MOST 1048576: true; the input reads as it did. -/
def runWholeUptoRow : OpenClaim := { program := "ytlkdkhmdmgchbaa", sum := "34623b7fa7ef7e23567ea9f6c586a36155e381c16a31a40e392863bc80f3ac2d", func := "colander/colanderlaw03.RunWhole", spec := "runWhole", unfollowed := true, recurses := true, plainKeys := false, apart := false, narrowed := true }
def RunWholeUptoSaid : Prop := runWholeUptoRow.holds Try.pinned (OpenSpec.upto runWholeSpec)

/-- 'colanderlaw11.TiersPush', WHERE WHAT IT READS IS OF BULK AT MOST 1048576: true; the input reads as it did. -/
def tiersPushUptoRow : OpenClaim := { program := "ytlkdkhmdmgchbaa", sum := "34623b7fa7ef7e23567ea9f6c586a36155e381c16a31a40e392863bc80f3ac2d", func := "colander/colanderlaw11.TiersPush", spec := "tiersPush", unfollowed := true, recurses := true, plainKeys := false, apart := false, narrowed := true }
def TiersPushUptoSaid : Prop := tiersPushUptoRow.holds Try.pinned (OpenSpec.upto tiersPushSpec)

/-- 'colanderlaw11.TiersNews', WHERE WHAT IT READS IS OF BULK AT MOST 1048576: true; the input reads as it did. -/
def tiersNewsUptoRow : OpenClaim := { program := "ytlkdkhmdmgchbaa", sum := "34623b7fa7ef7e23567ea9f6c586a36155e381c16a31a40e392863bc80f3ac2d", func := "colander/colanderlaw11.TiersNews", spec := "tiersNews", unfollowed := true, recurses := true, plainKeys := false, apart := false, narrowed := true }
def TiersNewsUptoSaid : Prop := tiersNewsUptoRow.holds Try.pinned (OpenSpec.upto tiersNewsSpec)

/-- 'colanderlaw11.TiersSquash', WHERE WHAT IT READS IS OF BULK AT MOST 1048576: true; the input reads as it did. -/
def tiersSquashUptoRow : OpenClaim := { program := "ytlkdkhmdmgchbaa", sum := "34623b7fa7ef7e23567ea9f6c586a36155e381c16a31a40e392863bc80f3ac2d", func := "colander/colanderlaw11.TiersSquash", spec := "tiersSquash", unfollowed := true, recurses := true, plainKeys := false, apart := false, narrowed := true }
def TiersSquashUptoSaid : Prop := tiersSquashUptoRow.holds Try.pinned (OpenSpec.upto tiersSquashSpec)

/-- 'colanderlaw12.MergeContent', WHERE WHAT IT READS IS OF BULK AT MOST 1048576: true; the input reads as it did. -/
def mergeContentUptoRow : OpenClaim := { program := "ytlkdkhmdmgchbaa", sum := "34623b7fa7ef7e23567ea9f6c586a36155e381c16a31a40e392863bc80f3ac2d", func := "colander/colanderlaw12.MergeContent", spec := "mergeContent", unfollowed := true, recurses := true, plainKeys := false, apart := false, narrowed := true }
def MergeContentUptoSaid : Prop := mergeContentUptoRow.holds Try.pinned (OpenSpec.upto mergeContentSpec)

/-- 'colanderlaw11.TiersThree', WHERE WHAT IT READS IS OF BULK AT MOST 1048576: true; the input reads as it did. -/
def tiersThreeUptoRow : OpenClaim := { program := "ytlkdkhmdmgchbaa", sum := "34623b7fa7ef7e23567ea9f6c586a36155e381c16a31a40e392863bc80f3ac2d", func := "colander/colanderlaw11.TiersThree", spec := "tiersThree", unfollowed := true, recurses := true, plainKeys := false, apart := false, narrowed := true }
def TiersThreeUptoSaid : Prop := tiersThreeUptoRow.holds Try.pinned (OpenSpec.upto tiersThreeSpec)

/-- 'colanderlaw11.TiersTell', WHERE WHAT IT READS IS OF BULK AT MOST 1048576: true; the input reads as it did. -/
def tiersTellUptoRow : OpenClaim := { program := "ytlkdkhmdmgchbaa", sum := "34623b7fa7ef7e23567ea9f6c586a36155e381c16a31a40e392863bc80f3ac2d", func := "colander/colanderlaw11.TiersTell", spec := "tiersTell", unfollowed := true, recurses := true, plainKeys := false, apart := false, narrowed := true }
def TiersTellUptoSaid : Prop := tiersTellUptoRow.holds Try.pinned (OpenSpec.upto tiersTellSpec)

/-- 'colanderlaw11.TiersStay', WHERE WHAT IT READS IS OF BULK AT MOST 1048576: true; the input reads as it did. -/
def tiersStayUptoRow : OpenClaim := { program := "ytlkdkhmdmgchbaa", sum := "34623b7fa7ef7e23567ea9f6c586a36155e381c16a31a40e392863bc80f3ac2d", func := "colander/colanderlaw11.TiersStay", spec := "tiersStay", unfollowed := true, recurses := true, plainKeys := false, apart := false, narrowed := true }
def TiersStayUptoSaid : Prop := tiersStayUptoRow.holds Try.pinned (OpenSpec.upto tiersStaySpec)

/-- 'colanderlaw12.MergeEnds', WHERE WHAT IT READS IS OF BULK AT MOST 1048576: true; the input reads as it did. -/
def mergeEndsUptoRow : OpenClaim := { program := "ytlkdkhmdmgchbaa", sum := "34623b7fa7ef7e23567ea9f6c586a36155e381c16a31a40e392863bc80f3ac2d", func := "colander/colanderlaw12.MergeEnds", spec := "mergeEnds", unfollowed := true, recurses := true, plainKeys := false, apart := false, narrowed := true }
def MergeEndsUptoSaid : Prop := mergeEndsUptoRow.holds Try.pinned (OpenSpec.upto mergeEndsSpec)

/-- 'colanderlaw13.ViewAll', WHERE WHAT IT READS IS OF BULK AT MOST 1048576: true; the input reads as it did. -/
def viewAllUptoRow : OpenClaim := { program := "ytlkdkhmdmgchbaa", sum := "34623b7fa7ef7e23567ea9f6c586a36155e381c16a31a40e392863bc80f3ac2d", func := "colander/colanderlaw13.ViewAll", spec := "viewAll", unfollowed := true, recurses := true, plainKeys := false, apart := false, narrowed := true }
def ViewAllUptoSaid : Prop := viewAllUptoRow.holds Try.pinned (OpenSpec.upto viewAllSpec)

end Rows
end Go.Proofs.Ytlkdkhmdmgchbaa
