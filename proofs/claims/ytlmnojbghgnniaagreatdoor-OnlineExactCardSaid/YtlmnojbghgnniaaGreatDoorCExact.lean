/- OnlineExact holds of the given program: a dispatcher of any servers, led to any ticks, answers at each step as the document's; the servers that are handed in are left as they are, what is told is new. No condition but what the card itself lists: errors.errorType, tied to the program's text. -/
import Derived.Test.YtlmnojbghgnniaaGreatDoorPExact
import Derived.Test.YtlmnojbghgnniaaGreatDoorCards
import Derived.Test.YtlmnojbghgnniaaGreatDoorTie
import Derived.SevenTiedAt
namespace Go.Proofs.YtlmnojbghgnniaaGreatDoor
open Go

theorem exact_card : Rows.OnlineExactCardSaid :=
  Claim7.holds_tied_plain_at .later [] [.handle] true (true, "ba6c56004b53bfc51c128e7313bd011b4aa1508d9e0b4232af97cdd241cc278f") true
    exact_holds (fun _ h => by cases h) (by kernel_rfl) (fun _ h => by cases h) onlineExact_row_tie rfl ⟨rfl, rfl⟩ (by kernel_rfl) rfl
    (fun f fn hf hfn => by
      obtain rfl : f = 3 := Option.some.inj ((show Tryz.prog.funcNamed "bulkhead/bulkheadlaw12.OnlineExact" = some 3 by kernel_rfl).symm.trans hf) |>.symm
      obtain rfl : fn = Tryz.f3 := (Option.some.inj (Tryz.func3.symm.trans hfn)).symm
      exact ⟨by kernel_rfl, fun j t ht => by
        rw [Tryz.params3] at ht
        have h3 : t = 22 ∨ t = 23 := by
          rcases j with _ | _ | j
          · left; simpa using ht.symm
          · right; simpa using ht.symm
          · simp at ht
        rcases h3 with rfl | rfl
        · exact (show Tryz.prog.wantsStandIn 22 = false by kernel_rfl)
        · exact (show Tryz.prog.wantsStandIn 23 = false by kernel_rfl)⟩)
    (by kernel_rfl)
#print axioms exact_card
end Go.Proofs.YtlmnojbghgnniaaGreatDoor
