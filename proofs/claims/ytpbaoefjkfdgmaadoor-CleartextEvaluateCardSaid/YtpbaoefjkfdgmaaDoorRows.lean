/-
  NARROWER THAN 'FOR EVERY INPUT', by the rows' own cells (each row's printed sentence says how): CleartextEvaluate: laid.
  DERIVED. THE GIVEN ROWS OF THIS SEAT. 1 by the template 'for every input the law returns true; each argument reads behind the call as it read before'; 0 by the template 'total and deterministic' (their statements: YtpbaoefjkfdgmaaDoorTotals.lean).
  GIVEN WITH THE SEED: the statements are not yours to turn. If you find one false, say at which input.
  Laid BY PROGRAM, IN A SANDBOX (cutbox-rows.mjs): the forced cells as the released guide's own fill.sh prints them over the translation f1c895fc84bd84d2… (all of the seat's roots in one cut). By AI agents, Wed Nov 11 2026. No macro, syntax, notation, axiom, sorry.
-/
import Derived.Test.YtpbaoefjkfdgmaaDoorChecked
import GoSem.Claim
import GoSem.ClaimJoined
import GoSem.ClaimMapViews
import Derived.JoinedTies
import Derived.KernelRfl
namespace Go.Proofs.YtpbaoefjkfdgmaaDoor
/- THE CELL 'sum', in the pinned program and in every row, IS THE sha256 OF THE DUMP (.gsa) THAT YtpbaoefjkfdgmaaDoorProg.lean LOADS. Nothing in Lean hashes anything: it is a label: what it is worth is what the hold of that sum in a sandbox is worth. -/
noncomputable def Tryd.pinned : Pinned := { name := "ytpbaoefjkfdgmaadoor", sum := "f1c895fc84bd84d26f7324fe17bc2dc770472d2002e18df486a3d8180d9b747b", checked := Tryd.checked }
namespace Rows
def none {H : Type} : Left H := { results := [], args := [] }

/- WHAT THE LISTED PACKAGE-LEVEL VARIABLES READ AS WHEN THE CALL BEGINS. Each datum BY PROGRAM (the guide's laid-datum.mjs) off the statement by which the dump's own 'gosem.cut.vars' lays the variable. In a bare row this is a premise. The card (YtpbaoefjkfdgmaaDoorCards.lean) ties it to the program's text. -/
def laid_privity_field_exps {H : Type} : DataW H := .agg [.lit (.int .i64 5), .lit (.int .i64 7), .lit (.int .i64 13), .lit (.int .i64 17), .lit (.int .i64 19), .lit (.int .i64 31), .lit (.int .i64 61)]
def laid_privity_circuit_forms {H : Type} : DataW H := .agg [.agg [.lit (.string [105, 110]), .lit (.int .i64 1), .lit (.bool true), .lit (.bool false), .lit (.bool false), .lit (.bool false), .lit (.bool false)], .agg [.lit (.string [98, 105, 116]), .lit (.int .i64 1), .lit (.bool true), .lit (.bool false), .lit (.bool false), .lit (.bool false), .lit (.bool true)], .agg [.lit (.string [99, 111, 110, 115, 116]), .lit (.int .i64 2), .lit (.bool false), .lit (.bool true), .lit (.bool false), .lit (.bool false), .lit (.bool false)], .agg [.lit (.string [97, 100, 100]), .lit (.int .i64 3), .lit (.bool false), .lit (.bool false), .lit (.bool true), .lit (.bool true), .lit (.bool false)], .agg [.lit (.string [115, 117, 98]), .lit (.int .i64 4), .lit (.bool false), .lit (.bool false), .lit (.bool true), .lit (.bool true), .lit (.bool false)], .agg [.lit (.string [115, 99, 97, 108, 101]), .lit (.int .i64 5), .lit (.bool false), .lit (.bool true), .lit (.bool true), .lit (.bool false), .lit (.bool false)], .agg [.lit (.string [109, 117, 108]), .lit (.int .i64 6), .lit (.bool false), .lit (.bool false), .lit (.bool true), .lit (.bool true), .lit (.bool false)]]
def laid_privity_cleartext_gates {H : Type} : DataW H := .iface "func table" (.agg [.nil, .iface "func" (.lit (.string [112, 114, 105, 118, 105, 116, 121, 47, 99, 108, 101, 97, 114, 116, 101, 120, 116, 46, 103, 97, 116, 101, 115, 36, 49])), .iface "func" (.lit (.string [112, 114, 105, 118, 105, 116, 121, 47, 99, 108, 101, 97, 114, 116, 101, 120, 116, 46, 103, 97, 116, 101, 115, 36, 50])), .iface "func" (.lit (.string [112, 114, 105, 118, 105, 116, 121, 47, 99, 108, 101, 97, 114, 116, 101, 120, 116, 46, 103, 97, 116, 101, 115, 36, 51])), .iface "func" (.lit (.string [112, 114, 105, 118, 105, 116, 121, 47, 99, 108, 101, 97, 114, 116, 101, 120, 116, 46, 103, 97, 116, 101, 115, 36, 52])), .iface "func" (.lit (.string [112, 114, 105, 118, 105, 116, 121, 47, 99, 108, 101, 97, 114, 116, 101, 120, 116, 46, 103, 97, 116, 101, 115, 36, 53])), .iface "func" (.lit (.string [112, 114, 105, 118, 105, 116, 121, 47, 99, 108, 101, 97, 114, 116, 101, 120, 116, 46, 103, 97, 116, 101, 115, 36, 54]))])

/-- 'privitylaw33.CleartextEvaluate': WHATEVER THE INPUT: true; the input reads as it did. -/
def cleartextEvaluateSpec : ChangeSpec := { name := "cleartextEvaluate", fn := fun _ => fun
  | [d1, d2] => { results := [.lit (.bool true)], args := [d1, d2] }
  | _ => none }
def cleartextEvaluateRow : OpenClaim := { program := "ytpbaoefjkfdgmaadoor", sum := "f1c895fc84bd84d26f7324fe17bc2dc770472d2002e18df486a3d8180d9b747b", func := "privity/privitylaw33.CleartextEvaluate", spec := "cleartextEvaluate", unfollowed := true, recurses := true, named := ["privity/cleartext.gates", "privity/field.exps", "privity/circuit.forms"], apart := false, laid := [("privity/field.exps", laid_privity_field_exps), ("privity/circuit.forms", laid_privity_circuit_forms), ("privity/cleartext.gates", laid_privity_cleartext_gates)] }
def CleartextEvaluateSaid : Prop := cleartextEvaluateRow.holds Tryd.pinned (OpenSpec.ofChange cleartextEvaluateSpec)

/-- ITS FALSE NEIGHBOUR: 'it returns false'. Refute it at one input. -/
def cleartextEvaluateWrong : ChangeSpec := { name := "cleartextEvaluate", fn := fun _ => fun
  | [d1, d2] => { results := [.lit (.bool false)], args := [d1, d2] }
  | _ => none }
def CleartextEvaluateWrongFalsely : Prop := cleartextEvaluateRow.holds Tryd.pinned (OpenSpec.ofChange cleartextEvaluateWrong)

/- THE SECOND FORM. 'bulk': how many values and letters a reading holds, each counted each time it is reached (what is shared counts as often as it is met; a slice's spare places count too). A statement '..UptoSaid' is the law's where the arguments, and the package variables that the reading takes, are together of bulk at most 1048576: NARROWER than '..Said'. Prove '..Said' where nothing that the law and all that it calls make is longer than what came in: it says more and counts as full. Else prove '..UptoSaid'. A law counts once. -/
mutual
def uptoBulk {H : Type} : DataW H → Nat
  | .lit (.string bytes) => bytes.length + 1
  | .lit _ => 1
  | .nil => 1
  | .ptr d => uptoBulk d + 1
  | .slice elems spare => uptoBulkAll elems + uptoBulkAll spare + 1
  | .agg parts => uptoBulkAll parts + 1
  | .iface _ d => uptoBulk d + 1
  | .map entries => uptoBulkEntries entries + 1
  | .held _ => 1
def uptoBulkAll {H : Type} : List (DataW H) → Nat
  | [] => 0
  | d :: r => uptoBulk d + uptoBulkAll r
def uptoBulkEntries {H : Type} : List (Lit × DataW H) → Nat
  | [] => 0
  | x :: r => uptoBulkEntry x + uptoBulkEntries r
def uptoBulkEntry {H : Type} : Lit × DataW H → Nat
  | (.string bytes, d) => bytes.length + uptoBulk d + 1
  | (_, d) => uptoBulk d + 1
 end
def uptoSmall : (H : Type) → List (DataW H) → Bool := fun _ ds => decide (uptoBulkAll ds ≤ 1048576)
def OpenSpec.upto (s : _root_.Go.ChangeSpec) : _root_.Go.OpenSpec := { _root_.Go.OpenSpec.ofChange s with cond := some uptoSmall }

/-- 'privitylaw33.CleartextEvaluate', WHERE WHAT IT READS IS OF BULK AT MOST 1048576: true; the input reads as it did. -/
def cleartextEvaluateUptoRow : OpenClaim := { program := "ytpbaoefjkfdgmaadoor", sum := "f1c895fc84bd84d26f7324fe17bc2dc770472d2002e18df486a3d8180d9b747b", func := "privity/privitylaw33.CleartextEvaluate", spec := "cleartextEvaluate", unfollowed := true, recurses := true, named := ["privity/cleartext.gates", "privity/field.exps", "privity/circuit.forms"], apart := false, laid := [("privity/field.exps", laid_privity_field_exps), ("privity/circuit.forms", laid_privity_circuit_forms), ("privity/cleartext.gates", laid_privity_cleartext_gates)], narrowed := true }
def CleartextEvaluateUptoSaid : Prop := cleartextEvaluateUptoRow.holds Tryd.pinned (OpenSpec.upto cleartextEvaluateSpec)

end Rows
end Go.Proofs.YtpbaoefjkfdgmaaDoor
