/-
  NARROWER THAN 'FOR EVERY INPUT', by the rows' own cells (each row's printed sentence says how): OnlineRule: laid · OnlineSteps: laid · OnlineAgain: laid · OnlineApart: laid.
  DERIVED. THE GIVEN ROWS OF THIS SEAT. 4 by the template 'for every input the law returns true; each argument reads behind the call as it read before'; 0 by the template 'total and deterministic' (their statements: YtlmnojbghgnniaaDoorTotals.lean).
  GIVEN WITH THE SEED: the statements are not yours to turn. If you find one false, say at which input.
  Laid BY PROGRAM, IN A SANDBOX (cutbox-rows.mjs): the forced cells as the released guide's own fill.sh prints them over the translation c3b1a4468587336a… (all of the seat's roots in one cut). By AI agents, Wed Nov 11 2026. No macro, syntax, notation, axiom, sorry.
-/
import Derived.Test.YtlmnojbghgnniaaDoorChecked
import GoSem.Claim
import GoSem.ClaimJoined
import GoSem.ClaimMapViews
import Derived.JoinedTies
import Derived.KernelRfl
namespace Go.Proofs.YtlmnojbghgnniaaDoor
/- THE CELL 'sum', in the pinned program and in every row, IS THE sha256 OF THE DUMP (.gsa) THAT YtlmnojbghgnniaaDoorProg.lean LOADS. Nothing in Lean hashes anything: it is a label: what it is worth is what the hold of that sum in a sandbox is worth. -/
noncomputable def Tryd.pinned : Pinned := { name := "ytlmnojbghgnniaadoor", sum := "c3b1a4468587336a0e22aa9dc2b9e838a9ba5ca63e82bc749e760aec114e9b86", checked := Tryd.checked }
namespace Rows
def none {H : Type} : Left H := { results := [], args := [] }

/- WHAT THE LISTED PACKAGE-LEVEL VARIABLES READ AS WHEN THE CALL BEGINS. Each datum BY PROGRAM (the guide's laid-datum.mjs) off the statement by which the dump's own 'gosem.cut.vars' lays the variable. In a bare row this is a premise. The card (YtlmnojbghgnniaaDoorCards.lean) ties it to the program's text. -/
def laid_errors_errorType {H : Type} : DataW H := .iface "internal/reflectlite.rtype" (.agg [.ptr (.lit (.string [101, 114, 114, 111, 114]))])

/-- 'bulkheadlaw12.OnlineRule': WHATEVER THE INPUT: true; the input reads as it did. -/
def onlineRuleSpec : ChangeSpec := { name := "onlineRule", fn := fun _ => fun
  | [d1, d2, d3] => { results := [.lit (.bool true)], args := [d1, d2, d3] }
  | _ => none }
def onlineRuleRow : OpenClaim := { program := "ytlmnojbghgnniaadoor", sum := "c3b1a4468587336a0e22aa9dc2b9e838a9ba5ca63e82bc749e760aec114e9b86", func := "bulkhead/bulkheadlaw12.OnlineRule", spec := "onlineRule", inPlace := ["internal/reflectlite.ValueOf", "(internal/reflectlite.Value).Type", "(internal/reflectlite.Value).IsNil", "internal/reflectlite.TypeOf", "(internal/reflectlite.Value).Elem", "(internal/reflectlite.Value).Set"], unfollowed := true, recurses := true, named := ["errors.errorType"], apart := false, laid := [("errors.errorType", laid_errors_errorType)] }
def OnlineRuleSaid : Prop := onlineRuleRow.holds Tryd.pinned (OpenSpec.ofChange onlineRuleSpec)

/-- ITS FALSE NEIGHBOUR: 'it returns false'. Refute it at one input. -/
def onlineRuleWrong : ChangeSpec := { name := "onlineRule", fn := fun _ => fun
  | [d1, d2, d3] => { results := [.lit (.bool false)], args := [d1, d2, d3] }
  | _ => none }
def OnlineRuleWrongFalsely : Prop := onlineRuleRow.holds Tryd.pinned (OpenSpec.ofChange onlineRuleWrong)

/-- 'bulkheadlaw12.OnlineSteps': WHATEVER THE INPUT: true; the input reads as it did. -/
def onlineStepsSpec : ChangeSpec := { name := "onlineSteps", fn := fun _ => fun
  | [d1, d2] => { results := [.lit (.bool true)], args := [d1, d2] }
  | _ => none }
def onlineStepsRow : OpenClaim := { program := "ytlmnojbghgnniaadoor", sum := "c3b1a4468587336a0e22aa9dc2b9e838a9ba5ca63e82bc749e760aec114e9b86", func := "bulkhead/bulkheadlaw12.OnlineSteps", spec := "onlineSteps", inPlace := ["internal/reflectlite.ValueOf", "(internal/reflectlite.Value).Type", "(internal/reflectlite.Value).IsNil", "internal/reflectlite.TypeOf", "(internal/reflectlite.Value).Elem", "(internal/reflectlite.Value).Set"], unfollowed := true, recurses := true, named := ["errors.errorType"], apart := false, laid := [("errors.errorType", laid_errors_errorType)] }
def OnlineStepsSaid : Prop := onlineStepsRow.holds Tryd.pinned (OpenSpec.ofChange onlineStepsSpec)

/-- ITS FALSE NEIGHBOUR: 'it returns false'. Refute it at one input. -/
def onlineStepsWrong : ChangeSpec := { name := "onlineSteps", fn := fun _ => fun
  | [d1, d2] => { results := [.lit (.bool false)], args := [d1, d2] }
  | _ => none }
def OnlineStepsWrongFalsely : Prop := onlineStepsRow.holds Tryd.pinned (OpenSpec.ofChange onlineStepsWrong)

/-- 'bulkheadlaw12.OnlineAgain': WHATEVER THE INPUT: true; the input reads as it did. -/
def onlineAgainSpec : ChangeSpec := { name := "onlineAgain", fn := fun _ => fun
  | [d1, d2] => { results := [.lit (.bool true)], args := [d1, d2] }
  | _ => none }
def onlineAgainRow : OpenClaim := { program := "ytlmnojbghgnniaadoor", sum := "c3b1a4468587336a0e22aa9dc2b9e838a9ba5ca63e82bc749e760aec114e9b86", func := "bulkhead/bulkheadlaw12.OnlineAgain", spec := "onlineAgain", inPlace := ["internal/reflectlite.ValueOf", "(internal/reflectlite.Value).Type", "(internal/reflectlite.Value).IsNil", "internal/reflectlite.TypeOf", "(internal/reflectlite.Value).Elem", "(internal/reflectlite.Value).Set"], unfollowed := true, recurses := true, named := ["errors.errorType"], apart := false, laid := [("errors.errorType", laid_errors_errorType)] }
def OnlineAgainSaid : Prop := onlineAgainRow.holds Tryd.pinned (OpenSpec.ofChange onlineAgainSpec)

/-- ITS FALSE NEIGHBOUR: 'it returns false'. Refute it at one input. -/
def onlineAgainWrong : ChangeSpec := { name := "onlineAgain", fn := fun _ => fun
  | [d1, d2] => { results := [.lit (.bool false)], args := [d1, d2] }
  | _ => none }
def OnlineAgainWrongFalsely : Prop := onlineAgainRow.holds Tryd.pinned (OpenSpec.ofChange onlineAgainWrong)

/-- 'bulkheadlaw12.OnlineApart': WHATEVER THE INPUT: true; the input reads as it did. -/
def onlineApartSpec : ChangeSpec := { name := "onlineApart", fn := fun _ => fun
  | [d1, d2, d3] => { results := [.lit (.bool true)], args := [d1, d2, d3] }
  | _ => none }
def onlineApartRow : OpenClaim := { program := "ytlmnojbghgnniaadoor", sum := "c3b1a4468587336a0e22aa9dc2b9e838a9ba5ca63e82bc749e760aec114e9b86", func := "bulkhead/bulkheadlaw12.OnlineApart", spec := "onlineApart", inPlace := ["internal/reflectlite.ValueOf", "(internal/reflectlite.Value).Type", "(internal/reflectlite.Value).IsNil", "internal/reflectlite.TypeOf", "(internal/reflectlite.Value).Elem", "(internal/reflectlite.Value).Set"], unfollowed := true, recurses := true, named := ["errors.errorType"], apart := false, laid := [("errors.errorType", laid_errors_errorType)] }
def OnlineApartSaid : Prop := onlineApartRow.holds Tryd.pinned (OpenSpec.ofChange onlineApartSpec)

/-- ITS FALSE NEIGHBOUR: 'it returns false'. Refute it at one input. -/
def onlineApartWrong : ChangeSpec := { name := "onlineApart", fn := fun _ => fun
  | [d1, d2, d3] => { results := [.lit (.bool false)], args := [d1, d2, d3] }
  | _ => none }
def OnlineApartWrongFalsely : Prop := onlineApartRow.holds Tryd.pinned (OpenSpec.ofChange onlineApartWrong)

/- THE SECOND FORM. 'bulk': how many values and letters a reading holds, each counted each time it is reached (what is shared counts as often as it is met; a slice's spare places count too). A statement '..UptoSaid' is the law's where the arguments, and the package variables that the reading takes, are together of bulk at most 1048576: NARROWER than '..Said'. Prove '..Said' where nothing that the law and all that it calls make is longer than what came in: it says more and counts as full. Else prove '..UptoSaid'. A law counts once. -/
mutual
def uptoBulk {H : Type} : DataW H → Nat
  | .lit (.string bytes) => bytes.length + 1
  | .lit _ => 1
  | .nil => 1
  | .ptr d => uptoBulk d + 1
  | .slice elems spare => uptoBulkAll elems + uptoBulkAll spare + 1
  | .agg parts => uptoBulkAll parts + 1
  | .iface _ d => uptoBulk d + 1
  | .map entries => uptoBulkEntries entries + 1
  | .held _ => 1
def uptoBulkAll {H : Type} : List (DataW H) → Nat
  | [] => 0
  | d :: r => uptoBulk d + uptoBulkAll r
def uptoBulkEntries {H : Type} : List (Lit × DataW H) → Nat
  | [] => 0
  | x :: r => uptoBulkEntry x + uptoBulkEntries r
def uptoBulkEntry {H : Type} : Lit × DataW H → Nat
  | (.string bytes, d) => bytes.length + uptoBulk d + 1
  | (_, d) => uptoBulk d + 1
 end
def uptoSmall : (H : Type) → List (DataW H) → Bool := fun _ ds => decide (uptoBulkAll ds ≤ 1048576)
def OpenSpec.upto (s : _root_.Go.ChangeSpec) : _root_.Go.OpenSpec := { _root_.Go.OpenSpec.ofChange s with cond := some uptoSmall }

/-- 'bulkheadlaw12.OnlineRule', WHERE WHAT IT READS IS OF BULK AT MOST 1048576: true; the input reads as it did. -/
def onlineRuleUptoRow : OpenClaim := { program := "ytlmnojbghgnniaadoor", sum := "c3b1a4468587336a0e22aa9dc2b9e838a9ba5ca63e82bc749e760aec114e9b86", func := "bulkhead/bulkheadlaw12.OnlineRule", spec := "onlineRule", inPlace := ["internal/reflectlite.ValueOf", "(internal/reflectlite.Value).Type", "(internal/reflectlite.Value).IsNil", "internal/reflectlite.TypeOf", "(internal/reflectlite.Value).Elem", "(internal/reflectlite.Value).Set"], unfollowed := true, recurses := true, named := ["errors.errorType"], apart := false, laid := [("errors.errorType", laid_errors_errorType)], narrowed := true }
def OnlineRuleUptoSaid : Prop := onlineRuleUptoRow.holds Tryd.pinned (OpenSpec.upto onlineRuleSpec)

/-- 'bulkheadlaw12.OnlineSteps', WHERE WHAT IT READS IS OF BULK AT MOST 1048576: true; the input reads as it did. -/
def onlineStepsUptoRow : OpenClaim := { program := "ytlmnojbghgnniaadoor", sum := "c3b1a4468587336a0e22aa9dc2b9e838a9ba5ca63e82bc749e760aec114e9b86", func := "bulkhead/bulkheadlaw12.OnlineSteps", spec := "onlineSteps", inPlace := ["internal/reflectlite.ValueOf", "(internal/reflectlite.Value).Type", "(internal/reflectlite.Value).IsNil", "internal/reflectlite.TypeOf", "(internal/reflectlite.Value).Elem", "(internal/reflectlite.Value).Set"], unfollowed := true, recurses := true, named := ["errors.errorType"], apart := false, laid := [("errors.errorType", laid_errors_errorType)], narrowed := true }
def OnlineStepsUptoSaid : Prop := onlineStepsUptoRow.holds Tryd.pinned (OpenSpec.upto onlineStepsSpec)

/-- 'bulkheadlaw12.OnlineAgain', WHERE WHAT IT READS IS OF BULK AT MOST 1048576: true; the input reads as it did. -/
def onlineAgainUptoRow : OpenClaim := { program := "ytlmnojbghgnniaadoor", sum := "c3b1a4468587336a0e22aa9dc2b9e838a9ba5ca63e82bc749e760aec114e9b86", func := "bulkhead/bulkheadlaw12.OnlineAgain", spec := "onlineAgain", inPlace := ["internal/reflectlite.ValueOf", "(internal/reflectlite.Value).Type", "(internal/reflectlite.Value).IsNil", "internal/reflectlite.TypeOf", "(internal/reflectlite.Value).Elem", "(internal/reflectlite.Value).Set"], unfollowed := true, recurses := true, named := ["errors.errorType"], apart := false, laid := [("errors.errorType", laid_errors_errorType)], narrowed := true }
def OnlineAgainUptoSaid : Prop := onlineAgainUptoRow.holds Tryd.pinned (OpenSpec.upto onlineAgainSpec)

/-- 'bulkheadlaw12.OnlineApart', WHERE WHAT IT READS IS OF BULK AT MOST 1048576: true; the input reads as it did. -/
def onlineApartUptoRow : OpenClaim := { program := "ytlmnojbghgnniaadoor", sum := "c3b1a4468587336a0e22aa9dc2b9e838a9ba5ca63e82bc749e760aec114e9b86", func := "bulkhead/bulkheadlaw12.OnlineApart", spec := "onlineApart", inPlace := ["internal/reflectlite.ValueOf", "(internal/reflectlite.Value).Type", "(internal/reflectlite.Value).IsNil", "internal/reflectlite.TypeOf", "(internal/reflectlite.Value).Elem", "(internal/reflectlite.Value).Set"], unfollowed := true, recurses := true, named := ["errors.errorType"], apart := false, laid := [("errors.errorType", laid_errors_errorType)], narrowed := true }
def OnlineApartUptoSaid : Prop := onlineApartUptoRow.holds Tryd.pinned (OpenSpec.upto onlineApartSpec)

end Rows
end Go.Proofs.YtlmnojbghgnniaaDoor
