/- OnlineApart holds of the given program: two dispatchers that are led in turns do not know of one another, nor of the lists that were handed in or told. No condition but what the card itself lists: errors.errorType, tied to the program's text. -/
import Derived.Test.YtlmnojbghgnniaaDoorPApart
import Derived.Test.YtlmnojbghgnniaaDoorCards
import Derived.Test.YtlmnojbghgnniaaDoorTie
import Derived.SevenTiedAt
namespace Go.Proofs.YtlmnojbghgnniaaDoor
open Go

theorem apart_card : Rows.OnlineApartCardSaid :=
  Claim7.holds_tied_plain_at .later [] [.handle] true (true, "98881b52ef2b35b7040bd60c705469075a455fc1eb3a386444fc9b623500b960") true
    apart_holds (fun _ h => by cases h) (by kernel_rfl) (fun _ h => by cases h) onlineApart_row_tie rfl ⟨rfl, rfl⟩ (by kernel_rfl) rfl
    (fun f fn hf hfn => by
      obtain rfl : f = 6 := Option.some.inj ((show Tryd.prog.funcNamed "bulkhead/bulkheadlaw12.OnlineApart" = some 6 by kernel_rfl).symm.trans hf) |>.symm
      obtain rfl : fn = Tryd.f6 := (Option.some.inj (Tryd.func6.symm.trans hfn)).symm
      exact ⟨by kernel_rfl, fun j t ht => by
        rw [Tryd.params6] at ht
        have h3 : t = 22 ∨ t = 29 := by
          rcases j with _ | _ | _ | j
          · left; simpa using ht.symm
          · left; simpa using ht.symm
          · right; simpa using ht.symm
          · simp at ht
        rcases h3 with rfl | rfl
        · exact (show Tryd.prog.wantsStandIn 22 = false by kernel_rfl)
        · exact (show Tryd.prog.wantsStandIn 29 = false by kernel_rfl)⟩)
    (by kernel_rfl)
#print axioms apart_card
end Go.Proofs.YtlmnojbghgnniaaDoor
