/-
  DERIVED. GIVEN WITH THE SEED: THE CARDS: each row of YtpbaoefjkfdgmaaDoorRows.lean that lists a variable, with what it lists TIED to the program's text (the seventh form; the later family's looks); each row that meets fmt, with fmt's text TOLD by the authors' own Lean function (tested against real Go, not proved from fmt's source: count such statements apart). THE CARD IS WHAT COUNTS. Prove the row's statement (the work); the ties are given (YtpbaoefjkfdgmaaDoorTie.lean); close each card by the builder's one call (the guide's Derived/Test/ToyasCard.lean, 'card_holds'). Laid BY PROGRAM, IN A SANDBOX (cutbox-door.mjs). By AI agents, Wed Nov 11 2026. No macro, syntax, notation, axiom, sorry.
-/
import Derived.Test.YtpbaoefjkfdgmaaDoorRows
import GoSem.ClaimSeven
namespace Go.Proofs.YtpbaoefjkfdgmaaDoor
namespace Rows

/-- THE TIED CARD OF 'privitylaw33.CleartextEvaluate'. -/
def cleartextEvaluateCard : Claim7 := { stood := { row := cleartextEvaluateRow, standIns := [], harness := (true, "fcf0465e0d6b2e385ed8170b07208f1d1d9a1bb8b1d21cf26bb102169e0e0247"), looks := false }, kinds := [], alts := [], laidByText := true, laidKinds := [.data, .data, .funcs], laidTests := true, laidLooks := .later }
def CleartextEvaluateCardSaid : Prop := Claim7.holds Tryd.pinned (.plain (OpenSpec.ofChange cleartextEvaluateSpec)) cleartextEvaluateCard

/-- THE SECOND FORM's CARD OF 'privitylaw33.CleartextEvaluate'. -/
def cleartextEvaluateUptoCard : Claim7 := { stood := { row := cleartextEvaluateUptoRow, standIns := [], harness := (true, "fcf0465e0d6b2e385ed8170b07208f1d1d9a1bb8b1d21cf26bb102169e0e0247"), looks := false }, kinds := [], alts := [], laidByText := true, laidKinds := [.data, .data, .funcs], laidTests := true, laidLooks := .later }
def CleartextEvaluateUptoCardSaid : Prop := Claim7.holds Tryd.pinned (.plain (OpenSpec.upto cleartextEvaluateSpec)) cleartextEvaluateUptoCard
end Rows
end Go.Proofs.YtpbaoefjkfdgmaaDoor
