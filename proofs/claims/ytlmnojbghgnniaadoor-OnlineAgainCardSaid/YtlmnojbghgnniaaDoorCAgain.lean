/- OnlineAgain holds of the given program: from tick H on the occupants come again with H, from 2 H on the rests do, whatever the servers and the tick. No condition but what the card itself lists: errors.errorType, tied to the program's text. -/
import Derived.Test.YtlmnojbghgnniaaDoorPAgain
import Derived.Test.YtlmnojbghgnniaaDoorCards
import Derived.Test.YtlmnojbghgnniaaDoorTie
import Derived.SevenTiedAt
namespace Go.Proofs.YtlmnojbghgnniaaDoor
open Go

theorem again_card : Rows.OnlineAgainCardSaid :=
  Claim7.holds_tied_plain_at .later [] [.handle] true (true, "98881b52ef2b35b7040bd60c705469075a455fc1eb3a386444fc9b623500b960") true
    again_holds (fun _ h => by cases h) (by kernel_rfl) (fun _ h => by cases h) onlineAgain_row_tie rfl ⟨rfl, rfl⟩ (by kernel_rfl) rfl
    (fun f fn hf hfn => by
      obtain rfl : f = 5 := Option.some.inj ((show Tryd.prog.funcNamed "bulkhead/bulkheadlaw12.OnlineAgain" = some 5 by kernel_rfl).symm.trans hf) |>.symm
      obtain rfl : fn = Tryd.f5 := (Option.some.inj (Tryd.func5.symm.trans hfn)).symm
      exact ⟨by kernel_rfl, fun j t ht => by
        rw [Tryd.params5] at ht
        have h3 : t = 22 ∨ t = 3 := by
          rcases j with _ | _ | j
          · left; simpa using ht.symm
          · right; simpa using ht.symm
          · simp at ht
        rcases h3 with rfl | rfl
        · exact (show Tryd.prog.wantsStandIn 22 = false by kernel_rfl)
        · exact (show Tryd.prog.wantsStandIn 3 = false by kernel_rfl)⟩)
    (by kernel_rfl)
#print axioms again_card
end Go.Proofs.YtlmnojbghgnniaaDoor
