/-
  NARROWER THAN 'FOR EVERY INPUT', by the rows' own cells (each row's printed sentence says how): NetworkExecution: laid · PhasekingAgree: laid · BroadcastMatchesReference: laid · VSSDealHonestDealer: laid · VSSDealComplaints: laid · VSSDealIndependence: laid · VSSDealSecrecy: laid.
  DERIVED. THE GIVEN ROWS OF THIS SEAT. 7 by the template 'for every input the law returns true; each argument reads behind the call as it read before'; 0 by the template 'total and deterministic' (their statements: YtchhpagkdaaglaaDoorTotals.lean).
  GIVEN WITH THE SEED: the statements are not yours to turn. If you find one false, say at which input.
  Laid BY PROGRAM, IN A SANDBOX (cutbox-rows.mjs): the forced cells as the released guide's own fill.sh prints them over the translation 688af67e92d72c08… (all of the seat's roots in one cut). By AI agents, Wed Nov 11 2026. No macro, syntax, notation, axiom, sorry.
-/
import Derived.Test.YtchhpagkdaaglaaDoorChecked
import GoSem.Claim
import GoSem.ClaimJoined
import GoSem.ClaimMapViews
import Derived.JoinedTies
import Derived.KernelRfl
namespace Go.Proofs.YtchhpagkdaaglaaDoor
/- THE CELL 'sum', in the pinned program and in every row, IS THE sha256 OF THE DUMP (.gsa) THAT YtchhpagkdaaglaaDoorProg.lean LOADS. Nothing in Lean hashes anything: it is a label: what it is worth is what the hold of that sum in a sandbox is worth. -/
noncomputable def Tryd.pinned : Pinned := { name := "ytchhpagkdaaglaadoor", sum := "688af67e92d72c0866a643435d674d764449a7b8d7c63f91df4e0d73a1766ca6", checked := Tryd.checked }
namespace Rows
def none {H : Type} : Left H := { results := [], args := [] }

/- WHAT THE LISTED PACKAGE-LEVEL VARIABLES READ AS WHEN THE CALL BEGINS. Each datum BY PROGRAM (the guide's laid-datum.mjs) off the statement by which the dump's own 'gosem.cut.vars' lays the variable. In a bare row this is a premise. The card (YtchhpagkdaaglaaDoorCards.lean) ties it to the program's text. -/
def laid_privity_field_exps {H : Type} : DataW H := .agg [.lit (.int .i64 5), .lit (.int .i64 7), .lit (.int .i64 13), .lit (.int .i64 17), .lit (.int .i64 19), .lit (.int .i64 31), .lit (.int .i64 61)]

/-- 'privitylaw14.NetworkExecution': WHATEVER THE INPUT: true; the input reads as it did. -/
def networkExecutionSpec : ChangeSpec := { name := "networkExecution", fn := fun _ => fun
  | [d] => { results := [.lit (.bool true)], args := [d] }
  | _ => none }
def networkExecutionRow : OpenClaim := { program := "ytchhpagkdaaglaadoor", sum := "688af67e92d72c0866a643435d674d764449a7b8d7c63f91df4e0d73a1766ca6", func := "privity/privitylaw14.NetworkExecution", spec := "networkExecution", inPlace := ["math/bits.Add64"], unfollowed := true, recurses := true, named := ["privity/field.exps"], apart := false, laid := [("privity/field.exps", laid_privity_field_exps)] }
def NetworkExecutionSaid : Prop := networkExecutionRow.holds Tryd.pinned (OpenSpec.ofChange networkExecutionSpec)

/-- ITS FALSE NEIGHBOUR: 'it returns false'. Refute it at one input. -/
def networkExecutionWrong : ChangeSpec := { name := "networkExecution", fn := fun _ => fun
  | [d] => { results := [.lit (.bool false)], args := [d] }
  | _ => none }
def NetworkExecutionWrongFalsely : Prop := networkExecutionRow.holds Tryd.pinned (OpenSpec.ofChange networkExecutionWrong)

/-- 'privitylaw16.PhasekingAgree': WHATEVER THE INPUT: true; the input reads as it did. -/
def phasekingAgreeSpec : ChangeSpec := { name := "phasekingAgree", fn := fun _ => fun
  | [d] => { results := [.lit (.bool true)], args := [d] }
  | _ => none }
def phasekingAgreeRow : OpenClaim := { program := "ytchhpagkdaaglaadoor", sum := "688af67e92d72c0866a643435d674d764449a7b8d7c63f91df4e0d73a1766ca6", func := "privity/privitylaw16.PhasekingAgree", spec := "phasekingAgree", inPlace := ["math/bits.Add64"], unfollowed := true, recurses := true, named := ["privity/field.exps"], apart := false, laid := [("privity/field.exps", laid_privity_field_exps)] }
def PhasekingAgreeSaid : Prop := phasekingAgreeRow.holds Tryd.pinned (OpenSpec.ofChange phasekingAgreeSpec)

/-- ITS FALSE NEIGHBOUR: 'it returns false'. Refute it at one input. -/
def phasekingAgreeWrong : ChangeSpec := { name := "phasekingAgree", fn := fun _ => fun
  | [d] => { results := [.lit (.bool false)], args := [d] }
  | _ => none }
def PhasekingAgreeWrongFalsely : Prop := phasekingAgreeRow.holds Tryd.pinned (OpenSpec.ofChange phasekingAgreeWrong)

/-- 'privitylaw17.BroadcastMatchesReference': WHATEVER THE INPUT: true; the input reads as it did. -/
def broadcastMatchesReferenceSpec : ChangeSpec := { name := "broadcastMatchesReference", fn := fun _ => fun
  | [d] => { results := [.lit (.bool true)], args := [d] }
  | _ => none }
def broadcastMatchesReferenceRow : OpenClaim := { program := "ytchhpagkdaaglaadoor", sum := "688af67e92d72c0866a643435d674d764449a7b8d7c63f91df4e0d73a1766ca6", func := "privity/privitylaw17.BroadcastMatchesReference", spec := "broadcastMatchesReference", inPlace := ["math/bits.Add64"], unfollowed := true, recurses := true, named := ["privity/field.exps"], apart := false, laid := [("privity/field.exps", laid_privity_field_exps)] }
def BroadcastMatchesReferenceSaid : Prop := broadcastMatchesReferenceRow.holds Tryd.pinned (OpenSpec.ofChange broadcastMatchesReferenceSpec)

/-- ITS FALSE NEIGHBOUR: 'it returns false'. Refute it at one input. -/
def broadcastMatchesReferenceWrong : ChangeSpec := { name := "broadcastMatchesReference", fn := fun _ => fun
  | [d] => { results := [.lit (.bool false)], args := [d] }
  | _ => none }
def BroadcastMatchesReferenceWrongFalsely : Prop := broadcastMatchesReferenceRow.holds Tryd.pinned (OpenSpec.ofChange broadcastMatchesReferenceWrong)

/-- 'privitylaw18.VSSDealHonestDealer': WHATEVER THE INPUT: true; the input reads as it did. -/
def vSSDealHonestDealerSpec : ChangeSpec := { name := "vSSDealHonestDealer", fn := fun _ => fun
  | [d] => { results := [.lit (.bool true)], args := [d] }
  | _ => none }
def vSSDealHonestDealerRow : OpenClaim := { program := "ytchhpagkdaaglaadoor", sum := "688af67e92d72c0866a643435d674d764449a7b8d7c63f91df4e0d73a1766ca6", func := "privity/privitylaw18.VSSDealHonestDealer", spec := "vSSDealHonestDealer", inPlace := ["math/bits.Add64"], unfollowed := true, recurses := true, named := ["privity/field.exps"], apart := false, laid := [("privity/field.exps", laid_privity_field_exps)] }
def VSSDealHonestDealerSaid : Prop := vSSDealHonestDealerRow.holds Tryd.pinned (OpenSpec.ofChange vSSDealHonestDealerSpec)

/-- ITS FALSE NEIGHBOUR: 'it returns false'. Refute it at one input. -/
def vSSDealHonestDealerWrong : ChangeSpec := { name := "vSSDealHonestDealer", fn := fun _ => fun
  | [d] => { results := [.lit (.bool false)], args := [d] }
  | _ => none }
def VSSDealHonestDealerWrongFalsely : Prop := vSSDealHonestDealerRow.holds Tryd.pinned (OpenSpec.ofChange vSSDealHonestDealerWrong)

/-- 'privitylaw18.VSSDealComplaints': WHATEVER THE INPUT: true; the input reads as it did. -/
def vSSDealComplaintsSpec : ChangeSpec := { name := "vSSDealComplaints", fn := fun _ => fun
  | [d] => { results := [.lit (.bool true)], args := [d] }
  | _ => none }
def vSSDealComplaintsRow : OpenClaim := { program := "ytchhpagkdaaglaadoor", sum := "688af67e92d72c0866a643435d674d764449a7b8d7c63f91df4e0d73a1766ca6", func := "privity/privitylaw18.VSSDealComplaints", spec := "vSSDealComplaints", inPlace := ["math/bits.Add64"], unfollowed := true, recurses := true, named := ["privity/field.exps"], apart := false, laid := [("privity/field.exps", laid_privity_field_exps)] }
def VSSDealComplaintsSaid : Prop := vSSDealComplaintsRow.holds Tryd.pinned (OpenSpec.ofChange vSSDealComplaintsSpec)

/-- ITS FALSE NEIGHBOUR: 'it returns false'. Refute it at one input. -/
def vSSDealComplaintsWrong : ChangeSpec := { name := "vSSDealComplaints", fn := fun _ => fun
  | [d] => { results := [.lit (.bool false)], args := [d] }
  | _ => none }
def VSSDealComplaintsWrongFalsely : Prop := vSSDealComplaintsRow.holds Tryd.pinned (OpenSpec.ofChange vSSDealComplaintsWrong)

/-- 'privitylaw18.VSSDealIndependence': WHATEVER THE INPUT: true; the input reads as it did. -/
def vSSDealIndependenceSpec : ChangeSpec := { name := "vSSDealIndependence", fn := fun _ => fun
  | [d1, d2, d3] => { results := [.lit (.bool true)], args := [d1, d2, d3] }
  | _ => none }
def vSSDealIndependenceRow : OpenClaim := { program := "ytchhpagkdaaglaadoor", sum := "688af67e92d72c0866a643435d674d764449a7b8d7c63f91df4e0d73a1766ca6", func := "privity/privitylaw18.VSSDealIndependence", spec := "vSSDealIndependence", inPlace := ["math/bits.Add64"], unfollowed := true, recurses := true, named := ["privity/field.exps"], apart := false, laid := [("privity/field.exps", laid_privity_field_exps)] }
def VSSDealIndependenceSaid : Prop := vSSDealIndependenceRow.holds Tryd.pinned (OpenSpec.ofChange vSSDealIndependenceSpec)

/-- ITS FALSE NEIGHBOUR: 'it returns false'. Refute it at one input. -/
def vSSDealIndependenceWrong : ChangeSpec := { name := "vSSDealIndependence", fn := fun _ => fun
  | [d1, d2, d3] => { results := [.lit (.bool false)], args := [d1, d2, d3] }
  | _ => none }
def VSSDealIndependenceWrongFalsely : Prop := vSSDealIndependenceRow.holds Tryd.pinned (OpenSpec.ofChange vSSDealIndependenceWrong)

/-- 'privitylaw18.VSSDealSecrecy': WHATEVER THE INPUT: true; the input reads as it did. -/
def vSSDealSecrecySpec : ChangeSpec := { name := "vSSDealSecrecy", fn := fun _ => fun
  | [d1, d2, d3] => { results := [.lit (.bool true)], args := [d1, d2, d3] }
  | _ => none }
def vSSDealSecrecyRow : OpenClaim := { program := "ytchhpagkdaaglaadoor", sum := "688af67e92d72c0866a643435d674d764449a7b8d7c63f91df4e0d73a1766ca6", func := "privity/privitylaw18.VSSDealSecrecy", spec := "vSSDealSecrecy", inPlace := ["math/bits.Add64"], unfollowed := true, recurses := true, named := ["privity/field.exps"], apart := false, laid := [("privity/field.exps", laid_privity_field_exps)] }
def VSSDealSecrecySaid : Prop := vSSDealSecrecyRow.holds Tryd.pinned (OpenSpec.ofChange vSSDealSecrecySpec)

/-- ITS FALSE NEIGHBOUR: 'it returns false'. Refute it at one input. -/
def vSSDealSecrecyWrong : ChangeSpec := { name := "vSSDealSecrecy", fn := fun _ => fun
  | [d1, d2, d3] => { results := [.lit (.bool false)], args := [d1, d2, d3] }
  | _ => none }
def VSSDealSecrecyWrongFalsely : Prop := vSSDealSecrecyRow.holds Tryd.pinned (OpenSpec.ofChange vSSDealSecrecyWrong)

/- THE SECOND FORM. 'bulk': how many values and letters a reading holds, each counted each time it is reached (what is shared counts as often as it is met; a slice's spare places count too). A statement '..UptoSaid' is the law's where the arguments, and the package variables that the reading takes, are together of bulk at most 1048576: NARROWER than '..Said'. Prove '..Said' where nothing that the law and all that it calls make is longer than what came in: it says more and counts as full. Else prove '..UptoSaid'. A law counts once. -/
mutual
def uptoBulk {H : Type} : DataW H → Nat
  | .lit (.string bytes) => bytes.length + 1
  | .lit _ => 1
  | .nil => 1
  | .ptr d => uptoBulk d + 1
  | .slice elems spare => uptoBulkAll elems + uptoBulkAll spare + 1
  | .agg parts => uptoBulkAll parts + 1
  | .iface _ d => uptoBulk d + 1
  | .map entries => uptoBulkEntries entries + 1
  | .held _ => 1
def uptoBulkAll {H : Type} : List (DataW H) → Nat
  | [] => 0
  | d :: r => uptoBulk d + uptoBulkAll r
def uptoBulkEntries {H : Type} : List (Lit × DataW H) → Nat
  | [] => 0
  | x :: r => uptoBulkEntry x + uptoBulkEntries r
def uptoBulkEntry {H : Type} : Lit × DataW H → Nat
  | (.string bytes, d) => bytes.length + uptoBulk d + 1
  | (_, d) => uptoBulk d + 1
 end
def uptoSmall : (H : Type) → List (DataW H) → Bool := fun _ ds => decide (uptoBulkAll ds ≤ 1048576)
def OpenSpec.upto (s : _root_.Go.ChangeSpec) : _root_.Go.OpenSpec := { _root_.Go.OpenSpec.ofChange s with cond := some uptoSmall }

/-- 'privitylaw14.NetworkExecution', WHERE WHAT IT READS IS OF BULK AT MOST 1048576: true; the input reads as it did. -/
def networkExecutionUptoRow : OpenClaim := { program := "ytchhpagkdaaglaadoor", sum := "688af67e92d72c0866a643435d674d764449a7b8d7c63f91df4e0d73a1766ca6", func := "privity/privitylaw14.NetworkExecution", spec := "networkExecution", inPlace := ["math/bits.Add64"], unfollowed := true, recurses := true, named := ["privity/field.exps"], apart := false, laid := [("privity/field.exps", laid_privity_field_exps)], narrowed := true }
def NetworkExecutionUptoSaid : Prop := networkExecutionUptoRow.holds Tryd.pinned (OpenSpec.upto networkExecutionSpec)

/-- 'privitylaw16.PhasekingAgree', WHERE WHAT IT READS IS OF BULK AT MOST 1048576: true; the input reads as it did. -/
def phasekingAgreeUptoRow : OpenClaim := { program := "ytchhpagkdaaglaadoor", sum := "688af67e92d72c0866a643435d674d764449a7b8d7c63f91df4e0d73a1766ca6", func := "privity/privitylaw16.PhasekingAgree", spec := "phasekingAgree", inPlace := ["math/bits.Add64"], unfollowed := true, recurses := true, named := ["privity/field.exps"], apart := false, laid := [("privity/field.exps", laid_privity_field_exps)], narrowed := true }
def PhasekingAgreeUptoSaid : Prop := phasekingAgreeUptoRow.holds Tryd.pinned (OpenSpec.upto phasekingAgreeSpec)

/-- 'privitylaw17.BroadcastMatchesReference', WHERE WHAT IT READS IS OF BULK AT MOST 1048576: true; the input reads as it did. -/
def broadcastMatchesReferenceUptoRow : OpenClaim := { program := "ytchhpagkdaaglaadoor", sum := "688af67e92d72c0866a643435d674d764449a7b8d7c63f91df4e0d73a1766ca6", func := "privity/privitylaw17.BroadcastMatchesReference", spec := "broadcastMatchesReference", inPlace := ["math/bits.Add64"], unfollowed := true, recurses := true, named := ["privity/field.exps"], apart := false, laid := [("privity/field.exps", laid_privity_field_exps)], narrowed := true }
def BroadcastMatchesReferenceUptoSaid : Prop := broadcastMatchesReferenceUptoRow.holds Tryd.pinned (OpenSpec.upto broadcastMatchesReferenceSpec)

/-- 'privitylaw18.VSSDealHonestDealer', WHERE WHAT IT READS IS OF BULK AT MOST 1048576: true; the input reads as it did. -/
def vSSDealHonestDealerUptoRow : OpenClaim := { program := "ytchhpagkdaaglaadoor", sum := "688af67e92d72c0866a643435d674d764449a7b8d7c63f91df4e0d73a1766ca6", func := "privity/privitylaw18.VSSDealHonestDealer", spec := "vSSDealHonestDealer", inPlace := ["math/bits.Add64"], unfollowed := true, recurses := true, named := ["privity/field.exps"], apart := false, laid := [("privity/field.exps", laid_privity_field_exps)], narrowed := true }
def VSSDealHonestDealerUptoSaid : Prop := vSSDealHonestDealerUptoRow.holds Tryd.pinned (OpenSpec.upto vSSDealHonestDealerSpec)

/-- 'privitylaw18.VSSDealComplaints', WHERE WHAT IT READS IS OF BULK AT MOST 1048576: true; the input reads as it did. -/
def vSSDealComplaintsUptoRow : OpenClaim := { program := "ytchhpagkdaaglaadoor", sum := "688af67e92d72c0866a643435d674d764449a7b8d7c63f91df4e0d73a1766ca6", func := "privity/privitylaw18.VSSDealComplaints", spec := "vSSDealComplaints", inPlace := ["math/bits.Add64"], unfollowed := true, recurses := true, named := ["privity/field.exps"], apart := false, laid := [("privity/field.exps", laid_privity_field_exps)], narrowed := true }
def VSSDealComplaintsUptoSaid : Prop := vSSDealComplaintsUptoRow.holds Tryd.pinned (OpenSpec.upto vSSDealComplaintsSpec)

/-- 'privitylaw18.VSSDealIndependence', WHERE WHAT IT READS IS OF BULK AT MOST 1048576: true; the input reads as it did. -/
def vSSDealIndependenceUptoRow : OpenClaim := { program := "ytchhpagkdaaglaadoor", sum := "688af67e92d72c0866a643435d674d764449a7b8d7c63f91df4e0d73a1766ca6", func := "privity/privitylaw18.VSSDealIndependence", spec := "vSSDealIndependence", inPlace := ["math/bits.Add64"], unfollowed := true, recurses := true, named := ["privity/field.exps"], apart := false, laid := [("privity/field.exps", laid_privity_field_exps)], narrowed := true }
def VSSDealIndependenceUptoSaid : Prop := vSSDealIndependenceUptoRow.holds Tryd.pinned (OpenSpec.upto vSSDealIndependenceSpec)

/-- 'privitylaw18.VSSDealSecrecy', WHERE WHAT IT READS IS OF BULK AT MOST 1048576: true; the input reads as it did. -/
def vSSDealSecrecyUptoRow : OpenClaim := { program := "ytchhpagkdaaglaadoor", sum := "688af67e92d72c0866a643435d674d764449a7b8d7c63f91df4e0d73a1766ca6", func := "privity/privitylaw18.VSSDealSecrecy", spec := "vSSDealSecrecy", inPlace := ["math/bits.Add64"], unfollowed := true, recurses := true, named := ["privity/field.exps"], apart := false, laid := [("privity/field.exps", laid_privity_field_exps)], narrowed := true }
def VSSDealSecrecyUptoSaid : Prop := vSSDealSecrecyUptoRow.holds Tryd.pinned (OpenSpec.upto vSSDealSecrecySpec)

end Rows
end Go.Proofs.YtchhpagkdaaglaaDoor
