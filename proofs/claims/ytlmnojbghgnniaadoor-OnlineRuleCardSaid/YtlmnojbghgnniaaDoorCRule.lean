/- OnlineRule holds of the given program: tick by tick the dispatcher is the rule: rests, releases, the greatest priority, Until, whatever the servers and the ticks. No condition but what the card itself lists: errors.errorType, tied to the program's text. -/
import Derived.Test.YtlmnojbghgnniaaDoorPRule
import Derived.Test.YtlmnojbghgnniaaDoorCards
import Derived.Test.YtlmnojbghgnniaaDoorTie
import Derived.SevenTiedAt
namespace Go.Proofs.YtlmnojbghgnniaaDoor
open Go

theorem rule_card : Rows.OnlineRuleCardSaid :=
  Claim7.holds_tied_plain_at .later [] [.handle] true (true, "98881b52ef2b35b7040bd60c705469075a455fc1eb3a386444fc9b623500b960") true
    rule_holds (fun _ h => by cases h) (by kernel_rfl) (fun _ h => by cases h) onlineRule_row_tie rfl ⟨rfl, rfl⟩ (by kernel_rfl) rfl
    (fun f fn hf hfn => by
      obtain rfl : f = 3 := Option.some.inj ((show Tryd.prog.funcNamed "bulkhead/bulkheadlaw12.OnlineRule" = some 3 by kernel_rfl).symm.trans hf) |>.symm
      obtain rfl : fn = Tryd.f3 := (Option.some.inj (Tryd.func3.symm.trans hfn)).symm
      exact ⟨by kernel_rfl, fun j t ht => by
        rw [Tryd.params3] at ht
        have h3 : t = 22 ∨ t = 3 := by
          rcases j with _ | _ | _ | j
          · left; simpa using ht.symm
          · right; simpa using ht.symm
          · right; simpa using ht.symm
          · simp at ht
        rcases h3 with rfl | rfl
        · exact (show Tryd.prog.wantsStandIn 22 = false by kernel_rfl)
        · exact (show Tryd.prog.wantsStandIn 3 = false by kernel_rfl)⟩)
    (by kernel_rfl)
#print axioms rule_card
end Go.Proofs.YtlmnojbghgnniaaDoor
