/-
  DERIVED. GIVEN WITH THE SEED: THE CARDS: each row of YtlmnojbghgnniaaDoorRows.lean that lists a variable, with what it lists TIED to the program's text (the seventh form; the later family's looks); each row that meets fmt, with fmt's text TOLD by the authors' own Lean function (tested against real Go, not proved from fmt's source: count such statements apart). THE CARD IS WHAT COUNTS. Prove the row's statement (the work); the ties are given (YtlmnojbghgnniaaDoorTie.lean); close each card by the builder's one call (the guide's Derived/Test/ToyasCard.lean, 'card_holds'). Laid BY PROGRAM, IN A SANDBOX (cutbox-door.mjs). By AI agents, Wed Nov 11 2026. No macro, syntax, notation, axiom, sorry.
-/
import Derived.Test.YtlmnojbghgnniaaDoorRows
import GoSem.ClaimSeven
namespace Go.Proofs.YtlmnojbghgnniaaDoor
namespace Rows

/-- THE TIED CARD OF 'bulkheadlaw12.OnlineRule'. -/
def onlineRuleCard : Claim7 := { stood := { row := onlineRuleRow, standIns := [], harness := (true, "98881b52ef2b35b7040bd60c705469075a455fc1eb3a386444fc9b623500b960"), looks := true }, kinds := [], alts := [], laidByText := true, laidKinds := [.handle], laidTests := true, laidLooks := .later }
def OnlineRuleCardSaid : Prop := Claim7.holds Tryd.pinned (.plain (OpenSpec.ofChange onlineRuleSpec)) onlineRuleCard

/-- THE TIED CARD OF 'bulkheadlaw12.OnlineSteps'. -/
def onlineStepsCard : Claim7 := { stood := { row := onlineStepsRow, standIns := [], harness := (true, "98881b52ef2b35b7040bd60c705469075a455fc1eb3a386444fc9b623500b960"), looks := true }, kinds := [], alts := [], laidByText := true, laidKinds := [.handle], laidTests := true, laidLooks := .later }
def OnlineStepsCardSaid : Prop := Claim7.holds Tryd.pinned (.plain (OpenSpec.ofChange onlineStepsSpec)) onlineStepsCard

/-- THE TIED CARD OF 'bulkheadlaw12.OnlineAgain'. -/
def onlineAgainCard : Claim7 := { stood := { row := onlineAgainRow, standIns := [], harness := (true, "98881b52ef2b35b7040bd60c705469075a455fc1eb3a386444fc9b623500b960"), looks := true }, kinds := [], alts := [], laidByText := true, laidKinds := [.handle], laidTests := true, laidLooks := .later }
def OnlineAgainCardSaid : Prop := Claim7.holds Tryd.pinned (.plain (OpenSpec.ofChange onlineAgainSpec)) onlineAgainCard

/-- THE TIED CARD OF 'bulkheadlaw12.OnlineApart'. -/
def onlineApartCard : Claim7 := { stood := { row := onlineApartRow, standIns := [], harness := (true, "98881b52ef2b35b7040bd60c705469075a455fc1eb3a386444fc9b623500b960"), looks := true }, kinds := [], alts := [], laidByText := true, laidKinds := [.handle], laidTests := true, laidLooks := .later }
def OnlineApartCardSaid : Prop := Claim7.holds Tryd.pinned (.plain (OpenSpec.ofChange onlineApartSpec)) onlineApartCard

/-- THE SECOND FORM's CARD OF 'bulkheadlaw12.OnlineRule'. -/
def onlineRuleUptoCard : Claim7 := { stood := { row := onlineRuleUptoRow, standIns := [], harness := (true, "98881b52ef2b35b7040bd60c705469075a455fc1eb3a386444fc9b623500b960"), looks := true }, kinds := [], alts := [], laidByText := true, laidKinds := [.handle], laidTests := true, laidLooks := .later }
def OnlineRuleUptoCardSaid : Prop := Claim7.holds Tryd.pinned (.plain (OpenSpec.upto onlineRuleSpec)) onlineRuleUptoCard

/-- THE SECOND FORM's CARD OF 'bulkheadlaw12.OnlineSteps'. -/
def onlineStepsUptoCard : Claim7 := { stood := { row := onlineStepsUptoRow, standIns := [], harness := (true, "98881b52ef2b35b7040bd60c705469075a455fc1eb3a386444fc9b623500b960"), looks := true }, kinds := [], alts := [], laidByText := true, laidKinds := [.handle], laidTests := true, laidLooks := .later }
def OnlineStepsUptoCardSaid : Prop := Claim7.holds Tryd.pinned (.plain (OpenSpec.upto onlineStepsSpec)) onlineStepsUptoCard

/-- THE SECOND FORM's CARD OF 'bulkheadlaw12.OnlineAgain'. -/
def onlineAgainUptoCard : Claim7 := { stood := { row := onlineAgainUptoRow, standIns := [], harness := (true, "98881b52ef2b35b7040bd60c705469075a455fc1eb3a386444fc9b623500b960"), looks := true }, kinds := [], alts := [], laidByText := true, laidKinds := [.handle], laidTests := true, laidLooks := .later }
def OnlineAgainUptoCardSaid : Prop := Claim7.holds Tryd.pinned (.plain (OpenSpec.upto onlineAgainSpec)) onlineAgainUptoCard

/-- THE SECOND FORM's CARD OF 'bulkheadlaw12.OnlineApart'. -/
def onlineApartUptoCard : Claim7 := { stood := { row := onlineApartUptoRow, standIns := [], harness := (true, "98881b52ef2b35b7040bd60c705469075a455fc1eb3a386444fc9b623500b960"), looks := true }, kinds := [], alts := [], laidByText := true, laidKinds := [.handle], laidTests := true, laidLooks := .later }
def OnlineApartUptoCardSaid : Prop := Claim7.holds Tryd.pinned (.plain (OpenSpec.upto onlineApartSpec)) onlineApartUptoCard
end Rows
end Go.Proofs.YtlmnojbghgnniaaDoor
