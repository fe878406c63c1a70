/-
  DERIVED. GIVEN WITH THE SEED: THE CARDS: each row of YtdpcfpmlkhdmkaaDoorRows.lean that lists a variable, with what it lists TIED to the program's text (the seventh form; the later family's looks); each row that meets fmt, with fmt's text TOLD by the authors' own Lean function (tested against real Go, not proved from fmt's source: count such statements apart). THE CARD IS WHAT COUNTS. Prove the row's statement (the work); the ties are given (YtdpcfpmlkhdmkaaDoorTie.lean); close each card by the builder's one call (the guide's Derived/Test/ToyasCard.lean, 'card_holds'). Laid BY PROGRAM, IN A SANDBOX (cutbox-door.mjs). By AI agents, Wed Nov 11 2026. No macro, syntax, notation, axiom, sorry.
-/
import Derived.Test.YtdpcfpmlkhdmkaaDoorRows
import GoSem.ClaimSeven
namespace Go.Proofs.YtdpcfpmlkhdmkaaDoor
namespace Rows

/-- THE TIED CARD OF 'colanderlaw01.WideMore'. -/
def wideMoreCard : Claim7 := { stood := { row := wideMoreRow, standIns := [], harness := (true, "313200b4c53dede5190067f3dcdfc2fb3ba3674c4053a0cf13ebe67d22f63cdc"), looks := true }, kinds := [], alts := [], laidByText := true, laidKinds := [.data], laidTests := true, laidLooks := .later }
def WideMoreCardSaid : Prop := Claim7.holds Tryd.pinned (.plain (OpenSpec.ofChange wideMoreSpec)) wideMoreCard

/-- THE TIED CARD OF 'colanderlaw01.WideAdds'. -/
def wideAddsCard : Claim7 := { stood := { row := wideAddsRow, standIns := [], harness := (true, "313200b4c53dede5190067f3dcdfc2fb3ba3674c4053a0cf13ebe67d22f63cdc"), looks := true }, kinds := [], alts := [], laidByText := true, laidKinds := [.data], laidTests := true, laidLooks := .later }
def WideAddsCardSaid : Prop := Claim7.holds Tryd.pinned (.plain (OpenSpec.ofChange wideAddsSpec)) wideAddsCard

/-- THE TIED CARD OF 'colanderlaw01.WideTexts'. -/
def wideTextsCard : Claim7 := { stood := { row := wideTextsRow, standIns := [], harness := (true, "313200b4c53dede5190067f3dcdfc2fb3ba3674c4053a0cf13ebe67d22f63cdc"), looks := true }, kinds := [], alts := [], laidByText := true, laidKinds := [.data], laidTests := true, laidLooks := .later }
def WideTextsCardSaid : Prop := Claim7.holds Tryd.pinned (.plain (OpenSpec.ofChange wideTextsSpec)) wideTextsCard

/-- THE TIED CARD OF 'colanderlaw01.WideBack'. -/
def wideBackCard : Claim7 := { stood := { row := wideBackRow, standIns := [], harness := (true, "313200b4c53dede5190067f3dcdfc2fb3ba3674c4053a0cf13ebe67d22f63cdc"), looks := true }, kinds := [], alts := [], laidByText := true, laidKinds := [.data], laidTests := true, laidLooks := .later }
def WideBackCardSaid : Prop := Claim7.holds Tryd.pinned (.plain (OpenSpec.ofChange wideBackSpec)) wideBackCard

/-- THE TIED CARD OF 'colanderlaw01.WideRead'. -/
def wideReadCard : Claim7 := { stood := { row := wideReadRow, standIns := [], harness := (true, "313200b4c53dede5190067f3dcdfc2fb3ba3674c4053a0cf13ebe67d22f63cdc"), looks := true }, kinds := [], alts := [], laidByText := true, laidKinds := [.data], laidTests := true, laidLooks := .later }
def WideReadCardSaid : Prop := Claim7.holds Tryd.pinned (.plain (OpenSpec.ofChange wideReadSpec)) wideReadCard

/-- THE TIED CARD OF 'colanderlaw01.WideOrder'. -/
def wideOrderCard : Claim7 := { stood := { row := wideOrderRow, standIns := [], harness := (true, "313200b4c53dede5190067f3dcdfc2fb3ba3674c4053a0cf13ebe67d22f63cdc"), looks := true }, kinds := [], alts := [], laidByText := true, laidKinds := [.data], laidTests := true, laidLooks := .later }
def WideOrderCardSaid : Prop := Claim7.holds Tryd.pinned (.plain (OpenSpec.ofChange wideOrderSpec)) wideOrderCard

/-- THE SECOND FORM's CARD OF 'colanderlaw01.WideMore'. -/
def wideMoreUptoCard : Claim7 := { stood := { row := wideMoreUptoRow, standIns := [], harness := (true, "313200b4c53dede5190067f3dcdfc2fb3ba3674c4053a0cf13ebe67d22f63cdc"), looks := true }, kinds := [], alts := [], laidByText := true, laidKinds := [.data], laidTests := true, laidLooks := .later }
def WideMoreUptoCardSaid : Prop := Claim7.holds Tryd.pinned (.plain (OpenSpec.upto wideMoreSpec)) wideMoreUptoCard

/-- THE SECOND FORM's CARD OF 'colanderlaw01.WideAdds'. -/
def wideAddsUptoCard : Claim7 := { stood := { row := wideAddsUptoRow, standIns := [], harness := (true, "313200b4c53dede5190067f3dcdfc2fb3ba3674c4053a0cf13ebe67d22f63cdc"), looks := true }, kinds := [], alts := [], laidByText := true, laidKinds := [.data], laidTests := true, laidLooks := .later }
def WideAddsUptoCardSaid : Prop := Claim7.holds Tryd.pinned (.plain (OpenSpec.upto wideAddsSpec)) wideAddsUptoCard

/-- THE SECOND FORM's CARD OF 'colanderlaw01.WideTexts'. -/
def wideTextsUptoCard : Claim7 := { stood := { row := wideTextsUptoRow, standIns := [], harness := (true, "313200b4c53dede5190067f3dcdfc2fb3ba3674c4053a0cf13ebe67d22f63cdc"), looks := true }, kinds := [], alts := [], laidByText := true, laidKinds := [.data], laidTests := true, laidLooks := .later }
def WideTextsUptoCardSaid : Prop := Claim7.holds Tryd.pinned (.plain (OpenSpec.upto wideTextsSpec)) wideTextsUptoCard

/-- THE SECOND FORM's CARD OF 'colanderlaw01.WideBack'. -/
def wideBackUptoCard : Claim7 := { stood := { row := wideBackUptoRow, standIns := [], harness := (true, "313200b4c53dede5190067f3dcdfc2fb3ba3674c4053a0cf13ebe67d22f63cdc"), looks := true }, kinds := [], alts := [], laidByText := true, laidKinds := [.data], laidTests := true, laidLooks := .later }
def WideBackUptoCardSaid : Prop := Claim7.holds Tryd.pinned (.plain (OpenSpec.upto wideBackSpec)) wideBackUptoCard

/-- THE SECOND FORM's CARD OF 'colanderlaw01.WideRead'. -/
def wideReadUptoCard : Claim7 := { stood := { row := wideReadUptoRow, standIns := [], harness := (true, "313200b4c53dede5190067f3dcdfc2fb3ba3674c4053a0cf13ebe67d22f63cdc"), looks := true }, kinds := [], alts := [], laidByText := true, laidKinds := [.data], laidTests := true, laidLooks := .later }
def WideReadUptoCardSaid : Prop := Claim7.holds Tryd.pinned (.plain (OpenSpec.upto wideReadSpec)) wideReadUptoCard

/-- THE SECOND FORM's CARD OF 'colanderlaw01.WideOrder'. -/
def wideOrderUptoCard : Claim7 := { stood := { row := wideOrderUptoRow, standIns := [], harness := (true, "313200b4c53dede5190067f3dcdfc2fb3ba3674c4053a0cf13ebe67d22f63cdc"), looks := true }, kinds := [], alts := [], laidByText := true, laidKinds := [.data], laidTests := true, laidLooks := .later }
def WideOrderUptoCardSaid : Prop := Claim7.holds Tryd.pinned (.plain (OpenSpec.upto wideOrderSpec)) wideOrderUptoCard
end Rows
end Go.Proofs.YtdpcfpmlkhdmkaaDoor
