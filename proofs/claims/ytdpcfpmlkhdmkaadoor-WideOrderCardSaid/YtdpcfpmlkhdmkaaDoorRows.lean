/-
  NARROWER THAN 'FOR EVERY INPUT', by the rows' own cells (each row's printed sentence says how): WideMore: laid · WideAdds: laid · WideTexts: laid · WideBack: laid · WideRead: laid · WideOrder: laid.
  DERIVED. THE GIVEN ROWS OF THIS SEAT. 6 by the template 'for every input the law returns true; each argument reads behind the call as it read before'; 0 by the template 'total and deterministic' (their statements: YtdpcfpmlkhdmkaaDoorTotals.lean).
  GIVEN WITH THE SEED: the statements are not yours to turn. If you find one false, say at which input.
  Laid BY PROGRAM, IN A SANDBOX (cutbox-rows.mjs): the forced cells as the released guide's own fill.sh prints them over the translation 3942c4e19adf58f6… (all of the seat's roots in one cut). By AI agents, Wed Nov 11 2026. No macro, syntax, notation, axiom, sorry.
-/
import Derived.Test.YtdpcfpmlkhdmkaaDoorChecked
import GoSem.Claim
import GoSem.ClaimJoined
import GoSem.ClaimMapViews
import Derived.JoinedTies
import Derived.KernelRfl
namespace Go.Proofs.YtdpcfpmlkhdmkaaDoor
/- THE CELL 'sum', in the pinned program and in every row, IS THE sha256 OF THE DUMP (.gsa) THAT YtdpcfpmlkhdmkaaDoorProg.lean LOADS. Nothing in Lean hashes anything: it is a label: what it is worth is what the hold of that sum in a sandbox is worth. -/
noncomputable def Tryd.pinned : Pinned := { name := "ytdpcfpmlkhdmkaadoor", sum := "3942c4e19adf58f6a4382c7261289ad4729981645b20ce153b6954751eb20411", checked := Tryd.checked }
namespace Rows
def none {H : Type} : Left H := { results := [], args := [] }

/- WHAT THE LISTED PACKAGE-LEVEL VARIABLES READ AS WHEN THE CALL BEGINS. Each datum BY PROGRAM (the guide's laid-datum.mjs) off the statement by which the dump's own 'gosem.cut.vars' lays the variable. In a bare row this is a premise. The card (YtdpcfpmlkhdmkaaDoorCards.lean) ties it to the program's text. -/
def laid_colander_wide_one {H : Type} : DataW H := .agg [.lit (.int .u64 0), .lit (.int .u64 1)]

/-- 'colanderlaw01.WideMore': WHATEVER THE INPUT: true; the input reads as it did. -/
def wideMoreSpec : ChangeSpec := { name := "wideMore", fn := fun _ => fun
  | [d1, d2, d3] => { results := [.lit (.bool true)], args := [d1, d2, d3] }
  | _ => none }
def wideMoreRow : OpenClaim := { program := "ytdpcfpmlkhdmkaadoor", sum := "3942c4e19adf58f6a4382c7261289ad4729981645b20ce153b6954751eb20411", func := "colander/colanderlaw01.WideMore", spec := "wideMore", inPlace := ["math/bits.Add64"], unfollowed := true, recurses := true, named := ["math/bits.divideError", "math/bits.overflowError", "colander/wide.one"], apart := false, laid := [("colander/wide.one", laid_colander_wide_one)] }
def WideMoreSaid : Prop := wideMoreRow.holds Tryd.pinned (OpenSpec.ofChange wideMoreSpec)

/-- ITS FALSE NEIGHBOUR: 'it returns false'. Refute it at one input. -/
def wideMoreWrong : ChangeSpec := { name := "wideMore", fn := fun _ => fun
  | [d1, d2, d3] => { results := [.lit (.bool false)], args := [d1, d2, d3] }
  | _ => none }
def WideMoreWrongFalsely : Prop := wideMoreRow.holds Tryd.pinned (OpenSpec.ofChange wideMoreWrong)

/-- 'colanderlaw01.WideAdds': WHATEVER THE INPUT: true; the input reads as it did. -/
def wideAddsSpec : ChangeSpec := { name := "wideAdds", fn := fun _ => fun
  | [d] => { results := [.lit (.bool true)], args := [d] }
  | _ => none }
def wideAddsRow : OpenClaim := { program := "ytdpcfpmlkhdmkaadoor", sum := "3942c4e19adf58f6a4382c7261289ad4729981645b20ce153b6954751eb20411", func := "colander/colanderlaw01.WideAdds", spec := "wideAdds", inPlace := ["math/bits.Add64", "math/bits.Sub64"], unfollowed := true, recurses := true, named := ["math/bits.divideError", "math/bits.overflowError", "colander/wide.one"], apart := false, laid := [("colander/wide.one", laid_colander_wide_one)] }
def WideAddsSaid : Prop := wideAddsRow.holds Tryd.pinned (OpenSpec.ofChange wideAddsSpec)

/-- ITS FALSE NEIGHBOUR: 'it returns false'. Refute it at one input. -/
def wideAddsWrong : ChangeSpec := { name := "wideAdds", fn := fun _ => fun
  | [d] => { results := [.lit (.bool false)], args := [d] }
  | _ => none }
def WideAddsWrongFalsely : Prop := wideAddsRow.holds Tryd.pinned (OpenSpec.ofChange wideAddsWrong)

/-- 'colanderlaw01.WideTexts': WHATEVER THE INPUT: true; the input reads as it did. -/
def wideTextsSpec : ChangeSpec := { name := "wideTexts", fn := fun _ => fun
  | [d1, d2] => { results := [.lit (.bool true)], args := [d1, d2] }
  | _ => none }
def wideTextsRow : OpenClaim := { program := "ytdpcfpmlkhdmkaadoor", sum := "3942c4e19adf58f6a4382c7261289ad4729981645b20ce153b6954751eb20411", func := "colander/colanderlaw01.WideTexts", spec := "wideTexts", inPlace := ["math/bits.Add64"], unfollowed := true, recurses := true, named := ["math/bits.divideError", "math/bits.overflowError", "colander/wide.one"], apart := false, laid := [("colander/wide.one", laid_colander_wide_one)] }
def WideTextsSaid : Prop := wideTextsRow.holds Tryd.pinned (OpenSpec.ofChange wideTextsSpec)

/-- ITS FALSE NEIGHBOUR: 'it returns false'. Refute it at one input. -/
def wideTextsWrong : ChangeSpec := { name := "wideTexts", fn := fun _ => fun
  | [d1, d2] => { results := [.lit (.bool false)], args := [d1, d2] }
  | _ => none }
def WideTextsWrongFalsely : Prop := wideTextsRow.holds Tryd.pinned (OpenSpec.ofChange wideTextsWrong)

/-- 'colanderlaw01.WideBack': WHATEVER THE INPUT: true; the input reads as it did. -/
def wideBackSpec : ChangeSpec := { name := "wideBack", fn := fun _ => fun
  | [d1, d2, d3] => { results := [.lit (.bool true)], args := [d1, d2, d3] }
  | _ => none }
def wideBackRow : OpenClaim := { program := "ytdpcfpmlkhdmkaadoor", sum := "3942c4e19adf58f6a4382c7261289ad4729981645b20ce153b6954751eb20411", func := "colander/colanderlaw01.WideBack", spec := "wideBack", inPlace := ["math/bits.Add64", "math/bits.Sub64"], unfollowed := true, recurses := true, named := ["math/bits.divideError", "math/bits.overflowError", "colander/wide.one"], apart := false, laid := [("colander/wide.one", laid_colander_wide_one)] }
def WideBackSaid : Prop := wideBackRow.holds Tryd.pinned (OpenSpec.ofChange wideBackSpec)

/-- ITS FALSE NEIGHBOUR: 'it returns false'. Refute it at one input. -/
def wideBackWrong : ChangeSpec := { name := "wideBack", fn := fun _ => fun
  | [d1, d2, d3] => { results := [.lit (.bool false)], args := [d1, d2, d3] }
  | _ => none }
def WideBackWrongFalsely : Prop := wideBackRow.holds Tryd.pinned (OpenSpec.ofChange wideBackWrong)

/-- 'colanderlaw01.WideRead': WHATEVER THE INPUT: true; the input reads as it did. -/
def wideReadSpec : ChangeSpec := { name := "wideRead", fn := fun _ => fun
  | [d1, d2] => { results := [.lit (.bool true)], args := [d1, d2] }
  | _ => none }
def wideReadRow : OpenClaim := { program := "ytdpcfpmlkhdmkaadoor", sum := "3942c4e19adf58f6a4382c7261289ad4729981645b20ce153b6954751eb20411", func := "colander/colanderlaw01.WideRead", spec := "wideRead", inPlace := ["math/bits.Add64"], unfollowed := true, recurses := true, named := ["math/bits.divideError", "math/bits.overflowError", "colander/wide.one"], apart := false, laid := [("colander/wide.one", laid_colander_wide_one)] }
def WideReadSaid : Prop := wideReadRow.holds Tryd.pinned (OpenSpec.ofChange wideReadSpec)

/-- ITS FALSE NEIGHBOUR: 'it returns false'. Refute it at one input. -/
def wideReadWrong : ChangeSpec := { name := "wideRead", fn := fun _ => fun
  | [d1, d2] => { results := [.lit (.bool false)], args := [d1, d2] }
  | _ => none }
def WideReadWrongFalsely : Prop := wideReadRow.holds Tryd.pinned (OpenSpec.ofChange wideReadWrong)

/-- 'colanderlaw01.WideOrder': WHATEVER THE INPUT: true; the input reads as it did. -/
def wideOrderSpec : ChangeSpec := { name := "wideOrder", fn := fun _ => fun
  | [d1, d2, d3] => { results := [.lit (.bool true)], args := [d1, d2, d3] }
  | _ => none }
def wideOrderRow : OpenClaim := { program := "ytdpcfpmlkhdmkaadoor", sum := "3942c4e19adf58f6a4382c7261289ad4729981645b20ce153b6954751eb20411", func := "colander/colanderlaw01.WideOrder", spec := "wideOrder", inPlace := ["math/bits.Add64"], unfollowed := true, recurses := true, named := ["math/bits.divideError", "math/bits.overflowError", "colander/wide.one"], apart := false, laid := [("colander/wide.one", laid_colander_wide_one)] }
def WideOrderSaid : Prop := wideOrderRow.holds Tryd.pinned (OpenSpec.ofChange wideOrderSpec)

/-- ITS FALSE NEIGHBOUR: 'it returns false'. Refute it at one input. -/
def wideOrderWrong : ChangeSpec := { name := "wideOrder", fn := fun _ => fun
  | [d1, d2, d3] => { results := [.lit (.bool false)], args := [d1, d2, d3] }
  | _ => none }
def WideOrderWrongFalsely : Prop := wideOrderRow.holds Tryd.pinned (OpenSpec.ofChange wideOrderWrong)

/- THE SECOND FORM. 'bulk': how many values and letters a reading holds, each counted each time it is reached (what is shared counts as often as it is met; a slice's spare places count too). A statement '..UptoSaid' is the law's where the arguments, and the package variables that the reading takes, are together of bulk at most 1048576: NARROWER than '..Said'. Prove '..Said' where nothing that the law and all that it calls make is longer than what came in: it says more and counts as full. Else prove '..UptoSaid'. A law counts once. -/
mutual
def uptoBulk {H : Type} : DataW H → Nat
  | .lit (.string bytes) => bytes.length + 1
  | .lit _ => 1
  | .nil => 1
  | .ptr d => uptoBulk d + 1
  | .slice elems spare => uptoBulkAll elems + uptoBulkAll spare + 1
  | .agg parts => uptoBulkAll parts + 1
  | .iface _ d => uptoBulk d + 1
  | .map entries => uptoBulkEntries entries + 1
  | .held _ => 1
def uptoBulkAll {H : Type} : List (DataW H) → Nat
  | [] => 0
  | d :: r => uptoBulk d + uptoBulkAll r
def uptoBulkEntries {H : Type} : List (Lit × DataW H) → Nat
  | [] => 0
  | x :: r => uptoBulkEntry x + uptoBulkEntries r
def uptoBulkEntry {H : Type} : Lit × DataW H → Nat
  | (.string bytes, d) => bytes.length + uptoBulk d + 1
  | (_, d) => uptoBulk d + 1
 end
def uptoSmall : (H : Type) → List (DataW H) → Bool := fun _ ds => decide (uptoBulkAll ds ≤ 1048576)
def OpenSpec.upto (s : _root_.Go.ChangeSpec) : _root_.Go.OpenSpec := { _root_.Go.OpenSpec.ofChange s with cond := some uptoSmall }

/-- 'colanderlaw01.WideMore', WHERE WHAT IT READS IS OF BULK AT MOST 1048576: true; the input reads as it did. -/
def wideMoreUptoRow : OpenClaim := { program := "ytdpcfpmlkhdmkaadoor", sum := "3942c4e19adf58f6a4382c7261289ad4729981645b20ce153b6954751eb20411", func := "colander/colanderlaw01.WideMore", spec := "wideMore", inPlace := ["math/bits.Add64"], unfollowed := true, recurses := true, named := ["math/bits.divideError", "math/bits.overflowError", "colander/wide.one"], apart := false, laid := [("colander/wide.one", laid_colander_wide_one)], narrowed := true }
def WideMoreUptoSaid : Prop := wideMoreUptoRow.holds Tryd.pinned (OpenSpec.upto wideMoreSpec)

/-- 'colanderlaw01.WideAdds', WHERE WHAT IT READS IS OF BULK AT MOST 1048576: true; the input reads as it did. -/
def wideAddsUptoRow : OpenClaim := { program := "ytdpcfpmlkhdmkaadoor", sum := "3942c4e19adf58f6a4382c7261289ad4729981645b20ce153b6954751eb20411", func := "colander/colanderlaw01.WideAdds", spec := "wideAdds", inPlace := ["math/bits.Add64", "math/bits.Sub64"], unfollowed := true, recurses := true, named := ["math/bits.divideError", "math/bits.overflowError", "colander/wide.one"], apart := false, laid := [("colander/wide.one", laid_colander_wide_one)], narrowed := true }
def WideAddsUptoSaid : Prop := wideAddsUptoRow.holds Tryd.pinned (OpenSpec.upto wideAddsSpec)

/-- 'colanderlaw01.WideTexts', WHERE WHAT IT READS IS OF BULK AT MOST 1048576: true; the input reads as it did. -/
def wideTextsUptoRow : OpenClaim := { program := "ytdpcfpmlkhdmkaadoor", sum := "3942c4e19adf58f6a4382c7261289ad4729981645b20ce153b6954751eb20411", func := "colander/colanderlaw01.WideTexts", spec := "wideTexts", inPlace := ["math/bits.Add64"], unfollowed := true, recurses := true, named := ["math/bits.divideError", "math/bits.overflowError", "colander/wide.one"], apart := false, laid := [("colander/wide.one", laid_colander_wide_one)], narrowed := true }
def WideTextsUptoSaid : Prop := wideTextsUptoRow.holds Tryd.pinned (OpenSpec.upto wideTextsSpec)

/-- 'colanderlaw01.WideBack', WHERE WHAT IT READS IS OF BULK AT MOST 1048576: true; the input reads as it did. -/
def wideBackUptoRow : OpenClaim := { program := "ytdpcfpmlkhdmkaadoor", sum := "3942c4e19adf58f6a4382c7261289ad4729981645b20ce153b6954751eb20411", func := "colander/colanderlaw01.WideBack", spec := "wideBack", inPlace := ["math/bits.Add64", "math/bits.Sub64"], unfollowed := true, recurses := true, named := ["math/bits.divideError", "math/bits.overflowError", "colander/wide.one"], apart := false, laid := [("colander/wide.one", laid_colander_wide_one)], narrowed := true }
def WideBackUptoSaid : Prop := wideBackUptoRow.holds Tryd.pinned (OpenSpec.upto wideBackSpec)

/-- 'colanderlaw01.WideRead', WHERE WHAT IT READS IS OF BULK AT MOST 1048576: true; the input reads as it did. -/
def wideReadUptoRow : OpenClaim := { program := "ytdpcfpmlkhdmkaadoor", sum := "3942c4e19adf58f6a4382c7261289ad4729981645b20ce153b6954751eb20411", func := "colander/colanderlaw01.WideRead", spec := "wideRead", inPlace := ["math/bits.Add64"], unfollowed := true, recurses := true, named := ["math/bits.divideError", "math/bits.overflowError", "colander/wide.one"], apart := false, laid := [("colander/wide.one", laid_colander_wide_one)], narrowed := true }
def WideReadUptoSaid : Prop := wideReadUptoRow.holds Tryd.pinned (OpenSpec.upto wideReadSpec)

/-- 'colanderlaw01.WideOrder', WHERE WHAT IT READS IS OF BULK AT MOST 1048576: true; the input reads as it did. -/
def wideOrderUptoRow : OpenClaim := { program := "ytdpcfpmlkhdmkaadoor", sum := "3942c4e19adf58f6a4382c7261289ad4729981645b20ce153b6954751eb20411", func := "colander/colanderlaw01.WideOrder", spec := "wideOrder", inPlace := ["math/bits.Add64"], unfollowed := true, recurses := true, named := ["math/bits.divideError", "math/bits.overflowError", "colander/wide.one"], apart := false, laid := [("colander/wide.one", laid_colander_wide_one)], narrowed := true }
def WideOrderUptoSaid : Prop := wideOrderUptoRow.holds Tryd.pinned (OpenSpec.upto wideOrderSpec)

end Rows
end Go.Proofs.YtdpcfpmlkhdmkaaDoor
