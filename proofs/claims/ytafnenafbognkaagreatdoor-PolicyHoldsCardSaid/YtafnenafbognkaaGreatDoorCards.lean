/-
  DERIVED. GIVEN WITH THE SEED: THE CARDS: each row of YtafnenafbognkaaGreatDoorRows.lean that lists a variable, with what it lists TIED to the program's text (the seventh form; the later family's looks); each row that meets fmt, with fmt's text TOLD by the authors' own Lean function (tested against real Go, not proved from fmt's source: count such statements apart). THE CARD IS WHAT COUNTS. Prove the row's statement (the work); the ties are given (YtafnenafbognkaaGreatDoorTie.lean); close each card by the builder's one call (the guide's Derived/Test/ToyasCard.lean, 'card_holds'). Laid BY PROGRAM, IN A SANDBOX (cutbox-door.mjs). By AI agents, Wed Nov 11 2026. No macro, syntax, notation, axiom, sorry.
-/
import Derived.Test.YtafnenafbognkaaGreatDoorRows
import GoSem.ClaimSeven
namespace Go.Proofs.YtafnenafbognkaaGreatDoor
namespace Rows

/-- THE TIED CARD OF 'speculumlaw14.PolicyRight'. -/
def policyRightCard : Claim7 := { stood := { row := policyRightRow, standIns := [], harness := (true, "269723ab6ddbc2ea19d73f886d79fb3cf57e8dbab20851490aa697f6bf9ff87a"), looks := false }, kinds := [], alts := [], laidByText := true, laidKinds := [.data], laidTests := true, laidLooks := .later }
def PolicyRightCardSaid : Prop := Claim7.holds Tryz.pinned (.plain (OpenSpec.ofChange policyRightSpec)) policyRightCard

/-- THE TIED CARD OF 'speculumlaw14.PolicyHolds'. -/
def policyHoldsCard : Claim7 := { stood := { row := policyHoldsRow, standIns := [], harness := (true, "269723ab6ddbc2ea19d73f886d79fb3cf57e8dbab20851490aa697f6bf9ff87a"), looks := false }, kinds := [], alts := [], laidByText := true, laidKinds := [.data], laidTests := true, laidLooks := .later }
def PolicyHoldsCardSaid : Prop := Claim7.holds Tryz.pinned (.plain (OpenSpec.ofChange policyHoldsSpec)) policyHoldsCard

/-- THE TIED CARD OF 'speculumlaw14.PolicyApplies'. -/
def policyAppliesCard : Claim7 := { stood := { row := policyAppliesRow, standIns := [], harness := (true, "269723ab6ddbc2ea19d73f886d79fb3cf57e8dbab20851490aa697f6bf9ff87a"), looks := false }, kinds := [], alts := [], laidByText := true, laidKinds := [.data], laidTests := true, laidLooks := .later }
def PolicyAppliesCardSaid : Prop := Claim7.holds Tryz.pinned (.plain (OpenSpec.ofChange policyAppliesSpec)) policyAppliesCard

/-- THE TIED CARD OF 'speculumlaw14.PolicySplits'. -/
def policySplitsCard : Claim7 := { stood := { row := policySplitsRow, standIns := [], harness := (true, "269723ab6ddbc2ea19d73f886d79fb3cf57e8dbab20851490aa697f6bf9ff87a"), looks := false }, kinds := [], alts := [], laidByText := true, laidKinds := [.data], laidTests := true, laidLooks := .later }
def PolicySplitsCardSaid : Prop := Claim7.holds Tryz.pinned (.plain (OpenSpec.ofChange policySplitsSpec)) policySplitsCard

/-- THE TIED CARD OF 'speculumlaw17.ExportOut'. -/
def exportOutCard : Claim7 := { stood := { row := exportOutRow, standIns := [], harness := (true, "269723ab6ddbc2ea19d73f886d79fb3cf57e8dbab20851490aa697f6bf9ff87a"), looks := false }, kinds := [], alts := [], laidByText := true, laidKinds := [.data], laidTests := true, laidLooks := .later }
def ExportOutCardSaid : Prop := Claim7.holds Tryz.pinned (.plain (OpenSpec.ofChange exportOutSpec)) exportOutCard

/-- THE TIED CARD OF 'speculumlaw17.ExportIn'. -/
def exportInCard : Claim7 := { stood := { row := exportInRow, standIns := [], harness := (true, "269723ab6ddbc2ea19d73f886d79fb3cf57e8dbab20851490aa697f6bf9ff87a"), looks := false }, kinds := [], alts := [], laidByText := true, laidKinds := [.data], laidTests := true, laidLooks := .later }
def ExportInCardSaid : Prop := Claim7.holds Tryz.pinned (.plain (OpenSpec.ofChange exportInSpec)) exportInCard

/-- THE SECOND FORM's CARD OF 'speculumlaw14.PolicyRight'. -/
def policyRightUptoCard : Claim7 := { stood := { row := policyRightUptoRow, standIns := [], harness := (true, "269723ab6ddbc2ea19d73f886d79fb3cf57e8dbab20851490aa697f6bf9ff87a"), looks := false }, kinds := [], alts := [], laidByText := true, laidKinds := [.data], laidTests := true, laidLooks := .later }
def PolicyRightUptoCardSaid : Prop := Claim7.holds Tryz.pinned (.plain (OpenSpec.upto policyRightSpec)) policyRightUptoCard

/-- THE SECOND FORM's CARD OF 'speculumlaw14.PolicyHolds'. -/
def policyHoldsUptoCard : Claim7 := { stood := { row := policyHoldsUptoRow, standIns := [], harness := (true, "269723ab6ddbc2ea19d73f886d79fb3cf57e8dbab20851490aa697f6bf9ff87a"), looks := false }, kinds := [], alts := [], laidByText := true, laidKinds := [.data], laidTests := true, laidLooks := .later }
def PolicyHoldsUptoCardSaid : Prop := Claim7.holds Tryz.pinned (.plain (OpenSpec.upto policyHoldsSpec)) policyHoldsUptoCard

/-- THE SECOND FORM's CARD OF 'speculumlaw14.PolicyApplies'. -/
def policyAppliesUptoCard : Claim7 := { stood := { row := policyAppliesUptoRow, standIns := [], harness := (true, "269723ab6ddbc2ea19d73f886d79fb3cf57e8dbab20851490aa697f6bf9ff87a"), looks := false }, kinds := [], alts := [], laidByText := true, laidKinds := [.data], laidTests := true, laidLooks := .later }
def PolicyAppliesUptoCardSaid : Prop := Claim7.holds Tryz.pinned (.plain (OpenSpec.upto policyAppliesSpec)) policyAppliesUptoCard

/-- THE SECOND FORM's CARD OF 'speculumlaw14.PolicySplits'. -/
def policySplitsUptoCard : Claim7 := { stood := { row := policySplitsUptoRow, standIns := [], harness := (true, "269723ab6ddbc2ea19d73f886d79fb3cf57e8dbab20851490aa697f6bf9ff87a"), looks := false }, kinds := [], alts := [], laidByText := true, laidKinds := [.data], laidTests := true, laidLooks := .later }
def PolicySplitsUptoCardSaid : Prop := Claim7.holds Tryz.pinned (.plain (OpenSpec.upto policySplitsSpec)) policySplitsUptoCard

/-- THE SECOND FORM's CARD OF 'speculumlaw17.ExportOut'. -/
def exportOutUptoCard : Claim7 := { stood := { row := exportOutUptoRow, standIns := [], harness := (true, "269723ab6ddbc2ea19d73f886d79fb3cf57e8dbab20851490aa697f6bf9ff87a"), looks := false }, kinds := [], alts := [], laidByText := true, laidKinds := [.data], laidTests := true, laidLooks := .later }
def ExportOutUptoCardSaid : Prop := Claim7.holds Tryz.pinned (.plain (OpenSpec.upto exportOutSpec)) exportOutUptoCard

/-- THE SECOND FORM's CARD OF 'speculumlaw17.ExportIn'. -/
def exportInUptoCard : Claim7 := { stood := { row := exportInUptoRow, standIns := [], harness := (true, "269723ab6ddbc2ea19d73f886d79fb3cf57e8dbab20851490aa697f6bf9ff87a"), looks := false }, kinds := [], alts := [], laidByText := true, laidKinds := [.data], laidTests := true, laidLooks := .later }
def ExportInUptoCardSaid : Prop := Claim7.holds Tryz.pinned (.plain (OpenSpec.upto exportInSpec)) exportInUptoCard
end Rows
end Go.Proofs.YtafnenafbognkaaGreatDoor
