/-
  DERIVED. GIVEN WITH THE SEED: THE CARDS: each row of YtchhpagkdaaglaaDoorRows.lean that lists a variable, with what it lists TIED to the program's text (the seventh form; the later family's looks); each row that meets fmt, with fmt's text TOLD by the authors' own Lean function (tested against real Go, not proved from fmt's source: count such statements apart). THE CARD IS WHAT COUNTS. Prove the row's statement (the work); the ties are given (YtchhpagkdaaglaaDoorTie.lean); close each card by the builder's one call (the guide's Derived/Test/ToyasCard.lean, 'card_holds'). Laid BY PROGRAM, IN A SANDBOX (cutbox-door.mjs). By AI agents, Wed Nov 11 2026. No macro, syntax, notation, axiom, sorry.
-/
import Derived.Test.YtchhpagkdaaglaaDoorRows
import GoSem.ClaimSeven
namespace Go.Proofs.YtchhpagkdaaglaaDoor
namespace Rows

/-- THE TIED CARD OF 'privitylaw14.NetworkExecution'. -/
def networkExecutionCard : Claim7 := { stood := { row := networkExecutionRow, standIns := [], harness := (true, "8c6290ccec6478055050a462ee5a344618ffc4fd485f6bcfa5caf66673961ed3"), looks := false }, kinds := [], alts := [], laidByText := true, laidKinds := [.data], laidTests := true, laidLooks := .later }
def NetworkExecutionCardSaid : Prop := Claim7.holds Tryd.pinned (.plain (OpenSpec.ofChange networkExecutionSpec)) networkExecutionCard

/-- THE TIED CARD OF 'privitylaw16.PhasekingAgree'. -/
def phasekingAgreeCard : Claim7 := { stood := { row := phasekingAgreeRow, standIns := [], harness := (true, "8c6290ccec6478055050a462ee5a344618ffc4fd485f6bcfa5caf66673961ed3"), looks := false }, kinds := [], alts := [], laidByText := true, laidKinds := [.data], laidTests := true, laidLooks := .later }
def PhasekingAgreeCardSaid : Prop := Claim7.holds Tryd.pinned (.plain (OpenSpec.ofChange phasekingAgreeSpec)) phasekingAgreeCard

/-- THE TIED CARD OF 'privitylaw17.BroadcastMatchesReference'. -/
def broadcastMatchesReferenceCard : Claim7 := { stood := { row := broadcastMatchesReferenceRow, standIns := [], harness := (true, "8c6290ccec6478055050a462ee5a344618ffc4fd485f6bcfa5caf66673961ed3"), looks := false }, kinds := [], alts := [], laidByText := true, laidKinds := [.data], laidTests := true, laidLooks := .later }
def BroadcastMatchesReferenceCardSaid : Prop := Claim7.holds Tryd.pinned (.plain (OpenSpec.ofChange broadcastMatchesReferenceSpec)) broadcastMatchesReferenceCard

/-- THE TIED CARD OF 'privitylaw18.VSSDealHonestDealer'. -/
def vSSDealHonestDealerCard : Claim7 := { stood := { row := vSSDealHonestDealerRow, standIns := [], harness := (true, "8c6290ccec6478055050a462ee5a344618ffc4fd485f6bcfa5caf66673961ed3"), looks := false }, kinds := [], alts := [], laidByText := true, laidKinds := [.data], laidTests := true, laidLooks := .later }
def VSSDealHonestDealerCardSaid : Prop := Claim7.holds Tryd.pinned (.plain (OpenSpec.ofChange vSSDealHonestDealerSpec)) vSSDealHonestDealerCard

/-- THE TIED CARD OF 'privitylaw18.VSSDealComplaints'. -/
def vSSDealComplaintsCard : Claim7 := { stood := { row := vSSDealComplaintsRow, standIns := [], harness := (true, "8c6290ccec6478055050a462ee5a344618ffc4fd485f6bcfa5caf66673961ed3"), looks := false }, kinds := [], alts := [], laidByText := true, laidKinds := [.data], laidTests := true, laidLooks := .later }
def VSSDealComplaintsCardSaid : Prop := Claim7.holds Tryd.pinned (.plain (OpenSpec.ofChange vSSDealComplaintsSpec)) vSSDealComplaintsCard

/-- THE TIED CARD OF 'privitylaw18.VSSDealIndependence'. -/
def vSSDealIndependenceCard : Claim7 := { stood := { row := vSSDealIndependenceRow, standIns := [], harness := (true, "8c6290ccec6478055050a462ee5a344618ffc4fd485f6bcfa5caf66673961ed3"), looks := false }, kinds := [], alts := [], laidByText := true, laidKinds := [.data], laidTests := true, laidLooks := .later }
def VSSDealIndependenceCardSaid : Prop := Claim7.holds Tryd.pinned (.plain (OpenSpec.ofChange vSSDealIndependenceSpec)) vSSDealIndependenceCard

/-- THE TIED CARD OF 'privitylaw18.VSSDealSecrecy'. -/
def vSSDealSecrecyCard : Claim7 := { stood := { row := vSSDealSecrecyRow, standIns := [], harness := (true, "8c6290ccec6478055050a462ee5a344618ffc4fd485f6bcfa5caf66673961ed3"), looks := false }, kinds := [], alts := [], laidByText := true, laidKinds := [.data], laidTests := true, laidLooks := .later }
def VSSDealSecrecyCardSaid : Prop := Claim7.holds Tryd.pinned (.plain (OpenSpec.ofChange vSSDealSecrecySpec)) vSSDealSecrecyCard

/-- THE SECOND FORM's CARD OF 'privitylaw14.NetworkExecution'. -/
def networkExecutionUptoCard : Claim7 := { stood := { row := networkExecutionUptoRow, standIns := [], harness := (true, "8c6290ccec6478055050a462ee5a344618ffc4fd485f6bcfa5caf66673961ed3"), looks := false }, kinds := [], alts := [], laidByText := true, laidKinds := [.data], laidTests := true, laidLooks := .later }
def NetworkExecutionUptoCardSaid : Prop := Claim7.holds Tryd.pinned (.plain (OpenSpec.upto networkExecutionSpec)) networkExecutionUptoCard

/-- THE SECOND FORM's CARD OF 'privitylaw16.PhasekingAgree'. -/
def phasekingAgreeUptoCard : Claim7 := { stood := { row := phasekingAgreeUptoRow, standIns := [], harness := (true, "8c6290ccec6478055050a462ee5a344618ffc4fd485f6bcfa5caf66673961ed3"), looks := false }, kinds := [], alts := [], laidByText := true, laidKinds := [.data], laidTests := true, laidLooks := .later }
def PhasekingAgreeUptoCardSaid : Prop := Claim7.holds Tryd.pinned (.plain (OpenSpec.upto phasekingAgreeSpec)) phasekingAgreeUptoCard

/-- THE SECOND FORM's CARD OF 'privitylaw17.BroadcastMatchesReference'. -/
def broadcastMatchesReferenceUptoCard : Claim7 := { stood := { row := broadcastMatchesReferenceUptoRow, standIns := [], harness := (true, "8c6290ccec6478055050a462ee5a344618ffc4fd485f6bcfa5caf66673961ed3"), looks := false }, kinds := [], alts := [], laidByText := true, laidKinds := [.data], laidTests := true, laidLooks := .later }
def BroadcastMatchesReferenceUptoCardSaid : Prop := Claim7.holds Tryd.pinned (.plain (OpenSpec.upto broadcastMatchesReferenceSpec)) broadcastMatchesReferenceUptoCard

/-- THE SECOND FORM's CARD OF 'privitylaw18.VSSDealHonestDealer'. -/
def vSSDealHonestDealerUptoCard : Claim7 := { stood := { row := vSSDealHonestDealerUptoRow, standIns := [], harness := (true, "8c6290ccec6478055050a462ee5a344618ffc4fd485f6bcfa5caf66673961ed3"), looks := false }, kinds := [], alts := [], laidByText := true, laidKinds := [.data], laidTests := true, laidLooks := .later }
def VSSDealHonestDealerUptoCardSaid : Prop := Claim7.holds Tryd.pinned (.plain (OpenSpec.upto vSSDealHonestDealerSpec)) vSSDealHonestDealerUptoCard

/-- THE SECOND FORM's CARD OF 'privitylaw18.VSSDealComplaints'. -/
def vSSDealComplaintsUptoCard : Claim7 := { stood := { row := vSSDealComplaintsUptoRow, standIns := [], harness := (true, "8c6290ccec6478055050a462ee5a344618ffc4fd485f6bcfa5caf66673961ed3"), looks := false }, kinds := [], alts := [], laidByText := true, laidKinds := [.data], laidTests := true, laidLooks := .later }
def VSSDealComplaintsUptoCardSaid : Prop := Claim7.holds Tryd.pinned (.plain (OpenSpec.upto vSSDealComplaintsSpec)) vSSDealComplaintsUptoCard

/-- THE SECOND FORM's CARD OF 'privitylaw18.VSSDealIndependence'. -/
def vSSDealIndependenceUptoCard : Claim7 := { stood := { row := vSSDealIndependenceUptoRow, standIns := [], harness := (true, "8c6290ccec6478055050a462ee5a344618ffc4fd485f6bcfa5caf66673961ed3"), looks := false }, kinds := [], alts := [], laidByText := true, laidKinds := [.data], laidTests := true, laidLooks := .later }
def VSSDealIndependenceUptoCardSaid : Prop := Claim7.holds Tryd.pinned (.plain (OpenSpec.upto vSSDealIndependenceSpec)) vSSDealIndependenceUptoCard

/-- THE SECOND FORM's CARD OF 'privitylaw18.VSSDealSecrecy'. -/
def vSSDealSecrecyUptoCard : Claim7 := { stood := { row := vSSDealSecrecyUptoRow, standIns := [], harness := (true, "8c6290ccec6478055050a462ee5a344618ffc4fd485f6bcfa5caf66673961ed3"), looks := false }, kinds := [], alts := [], laidByText := true, laidKinds := [.data], laidTests := true, laidLooks := .later }
def VSSDealSecrecyUptoCardSaid : Prop := Claim7.holds Tryd.pinned (.plain (OpenSpec.upto vSSDealSecrecySpec)) vSSDealSecrecyUptoCard
end Rows
end Go.Proofs.YtchhpagkdaaglaaDoor
