/-
  DERIVED. GIVEN WITH THE SEED: THE CARDS: each row of YtlmnojbghgnniaaGreatDoorRows.lean that lists a variable, with what it lists TIED to the program's text (the seventh form; the later family's looks); each row that meets fmt, with fmt's text TOLD by the authors' own Lean function (tested against real Go, not proved from fmt's source: count such statements apart). THE CARD IS WHAT COUNTS. Prove the row's statement (the work); the ties are given (YtlmnojbghgnniaaGreatDoorTie.lean); close each card by the builder's one call (the guide's Derived/Test/ToyasCard.lean, 'card_holds'). Laid BY PROGRAM, IN A SANDBOX (cutbox-door.mjs). By AI agents, Wed Nov 11 2026. No macro, syntax, notation, axiom, sorry.
-/
import Derived.Test.YtlmnojbghgnniaaGreatDoorRows
import GoSem.ClaimSeven
namespace Go.Proofs.YtlmnojbghgnniaaGreatDoor
namespace Rows

/-- THE TIED CARD OF 'bulkheadlaw12.OnlineExact'. -/
def onlineExactCard : Claim7 := { stood := { row := onlineExactRow, standIns := [], harness := (true, "ba6c56004b53bfc51c128e7313bd011b4aa1508d9e0b4232af97cdd241cc278f"), looks := true }, kinds := [], alts := [], laidByText := true, laidKinds := [.handle], laidTests := true, laidLooks := .later }
def OnlineExactCardSaid : Prop := Claim7.holds Tryz.pinned (.plain (OpenSpec.ofChange onlineExactSpec)) onlineExactCard

/-- THE TIED CARD OF 'bulkheadlaw12.OnlineFollows'. -/
def onlineFollowsCard : Claim7 := { stood := { row := onlineFollowsRow, standIns := [], harness := (true, "ba6c56004b53bfc51c128e7313bd011b4aa1508d9e0b4232af97cdd241cc278f"), looks := true }, kinds := [], alts := [], laidByText := true, laidKinds := [.handle], laidTests := true, laidLooks := .later }
def OnlineFollowsCardSaid : Prop := Claim7.holds Tryz.pinned (.plain (OpenSpec.ofChange onlineFollowsSpec)) onlineFollowsCard

/-- THE SECOND FORM's CARD OF 'bulkheadlaw12.OnlineExact'. -/
def onlineExactUptoCard : Claim7 := { stood := { row := onlineExactUptoRow, standIns := [], harness := (true, "ba6c56004b53bfc51c128e7313bd011b4aa1508d9e0b4232af97cdd241cc278f"), looks := true }, kinds := [], alts := [], laidByText := true, laidKinds := [.handle], laidTests := true, laidLooks := .later }
def OnlineExactUptoCardSaid : Prop := Claim7.holds Tryz.pinned (.plain (OpenSpec.upto onlineExactSpec)) onlineExactUptoCard

/-- THE SECOND FORM's CARD OF 'bulkheadlaw12.OnlineFollows'. -/
def onlineFollowsUptoCard : Claim7 := { stood := { row := onlineFollowsUptoRow, standIns := [], harness := (true, "ba6c56004b53bfc51c128e7313bd011b4aa1508d9e0b4232af97cdd241cc278f"), looks := true }, kinds := [], alts := [], laidByText := true, laidKinds := [.handle], laidTests := true, laidLooks := .later }
def OnlineFollowsUptoCardSaid : Prop := Claim7.holds Tryz.pinned (.plain (OpenSpec.upto onlineFollowsSpec)) onlineFollowsUptoCard
end Rows
end Go.Proofs.YtlmnojbghgnniaaGreatDoor
