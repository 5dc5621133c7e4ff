/-
  NARROWER THAN 'FOR EVERY INPUT', by the rows' own cells (each row's printed sentence says how): PolicyRight: laid · PolicyHolds: laid · PolicyApplies: laid · PolicySplits: laid · ExportOut: laid · ExportIn: laid.
  DERIVED. THE GIVEN ROWS OF THIS SEAT. 6 by the template 'for every input the law returns true; each argument reads behind the call as it read before'; 0 by the template 'total and deterministic' (their statements: YtafnenafbognkaaGreatDoorTotals.lean).
  GIVEN WITH THE SEED: the statements are not yours to turn. If you find one false, say at which input.
  Laid BY PROGRAM, IN A SANDBOX (cutbox-rows.mjs): the forced cells as the released guide's own fill.sh prints them over the translation c23d16e4c9d0815b… (all of the seat's roots in one cut). By AI agents, Wed Nov 11 2026. No macro, syntax, notation, axiom, sorry.
-/
import Derived.Test.YtafnenafbognkaaGreatDoorChecked
import GoSem.Claim
import GoSem.ClaimJoined
import GoSem.ClaimMapViews
import Derived.JoinedTies
import Derived.KernelRfl
namespace Go.Proofs.YtafnenafbognkaaGreatDoor
/- THE CELL 'sum', in the pinned program and in every row, IS THE sha256 OF THE DUMP (.gsa) THAT YtafnenafbognkaaGreatDoorProg.lean LOADS. Nothing in Lean hashes anything: it is a label: what it is worth is what the hold of that sum in a sandbox is worth. -/
noncomputable def Tryz.pinned : Pinned := { name := "ytafnenafbognkaagreatdoor", sum := "c23d16e4c9d0815bcea6533b23bf4d567842d9fe758d811107d8ab5bac2c169a", checked := Tryz.checked }
namespace Rows
def none {H : Type} : Left H := { results := [], args := [] }

/- WHAT THE LISTED PACKAGE-LEVEL VARIABLES READ AS WHEN THE CALL BEGINS. Each datum BY PROGRAM (the guide's laid-datum.mjs) off the statement by which the dump's own 'gosem.cut.vars' lays the variable. In a bare row this is a premise. The card (YtafnenafbognkaaGreatDoorCards.lean) ties it to the program's text. -/
def laid_speculum_octet_digits {H : Type} : DataW H := .agg [.lit (.int .u8 48), .lit (.int .u8 49), .lit (.int .u8 50), .lit (.int .u8 51), .lit (.int .u8 52), .lit (.int .u8 53), .lit (.int .u8 54), .lit (.int .u8 55), .lit (.int .u8 56), .lit (.int .u8 57), .lit (.int .u8 97), .lit (.int .u8 98), .lit (.int .u8 99), .lit (.int .u8 100), .lit (.int .u8 101), .lit (.int .u8 102)]

/-- 'speculumlaw14.PolicyRight': WHATEVER THE INPUT: true; the input reads as it did. -/
def policyRightSpec : ChangeSpec := { name := "policyRight", fn := fun _ => fun
  | [d1, d2, d3] => { results := [.lit (.bool true)], args := [d1, d2, d3] }
  | _ => none }
def policyRightRow : OpenClaim := { program := "ytafnenafbognkaagreatdoor", sum := "c23d16e4c9d0815bcea6533b23bf4d567842d9fe758d811107d8ab5bac2c169a", func := "speculum/speculumlaw14.PolicyRight", spec := "policyRight", inPlace := ["slices.overlaps[uint32]", "slices.overlaps[speculum/api.Segment]"], unfollowed := true, recurses := true, named := ["speculum/octet.digits"], apart := false, laid := [("speculum/octet.digits", laid_speculum_octet_digits)] }
def PolicyRightSaid : Prop := policyRightRow.holds Tryz.pinned (OpenSpec.ofChange policyRightSpec)

/-- ITS FALSE NEIGHBOUR: 'it returns false'. Refute it at one input. -/
def policyRightWrong : ChangeSpec := { name := "policyRight", fn := fun _ => fun
  | [d1, d2, d3] => { results := [.lit (.bool false)], args := [d1, d2, d3] }
  | _ => none }
def PolicyRightWrongFalsely : Prop := policyRightRow.holds Tryz.pinned (OpenSpec.ofChange policyRightWrong)

/-- 'speculumlaw14.PolicyHolds': WHATEVER THE INPUT: true; the input reads as it did. -/
def policyHoldsSpec : ChangeSpec := { name := "policyHolds", fn := fun _ => fun
  | [d1, d2, d3] => { results := [.lit (.bool true)], args := [d1, d2, d3] }
  | _ => none }
def policyHoldsRow : OpenClaim := { program := "ytafnenafbognkaagreatdoor", sum := "c23d16e4c9d0815bcea6533b23bf4d567842d9fe758d811107d8ab5bac2c169a", func := "speculum/speculumlaw14.PolicyHolds", spec := "policyHolds", inPlace := ["slices.overlaps[uint32]", "slices.overlaps[speculum/api.Segment]"], unfollowed := true, recurses := true, named := ["speculum/octet.digits"], apart := false, laid := [("speculum/octet.digits", laid_speculum_octet_digits)] }
def PolicyHoldsSaid : Prop := policyHoldsRow.holds Tryz.pinned (OpenSpec.ofChange policyHoldsSpec)

/-- ITS FALSE NEIGHBOUR: 'it returns false'. Refute it at one input. -/
def policyHoldsWrong : ChangeSpec := { name := "policyHolds", fn := fun _ => fun
  | [d1, d2, d3] => { results := [.lit (.bool false)], args := [d1, d2, d3] }
  | _ => none }
def PolicyHoldsWrongFalsely : Prop := policyHoldsRow.holds Tryz.pinned (OpenSpec.ofChange policyHoldsWrong)

/-- 'speculumlaw14.PolicyApplies': WHATEVER THE INPUT: true; the input reads as it did. -/
def policyAppliesSpec : ChangeSpec := { name := "policyApplies", fn := fun _ => fun
  | [d1, d2, d3] => { results := [.lit (.bool true)], args := [d1, d2, d3] }
  | _ => none }
def policyAppliesRow : OpenClaim := { program := "ytafnenafbognkaagreatdoor", sum := "c23d16e4c9d0815bcea6533b23bf4d567842d9fe758d811107d8ab5bac2c169a", func := "speculum/speculumlaw14.PolicyApplies", spec := "policyApplies", inPlace := ["slices.overlaps[uint32]", "slices.overlaps[speculum/api.Segment]"], unfollowed := true, recurses := true, named := ["speculum/octet.digits"], apart := false, laid := [("speculum/octet.digits", laid_speculum_octet_digits)] }
def PolicyAppliesSaid : Prop := policyAppliesRow.holds Tryz.pinned (OpenSpec.ofChange policyAppliesSpec)

/-- ITS FALSE NEIGHBOUR: 'it returns false'. Refute it at one input. -/
def policyAppliesWrong : ChangeSpec := { name := "policyApplies", fn := fun _ => fun
  | [d1, d2, d3] => { results := [.lit (.bool false)], args := [d1, d2, d3] }
  | _ => none }
def PolicyAppliesWrongFalsely : Prop := policyAppliesRow.holds Tryz.pinned (OpenSpec.ofChange policyAppliesWrong)

/-- 'speculumlaw14.PolicySplits': WHATEVER THE INPUT: true; the input reads as it did. -/
def policySplitsSpec : ChangeSpec := { name := "policySplits", fn := fun _ => fun
  | [d1, d2, d3] => { results := [.lit (.bool true)], args := [d1, d2, d3] }
  | _ => none }
def policySplitsRow : OpenClaim := { program := "ytafnenafbognkaagreatdoor", sum := "c23d16e4c9d0815bcea6533b23bf4d567842d9fe758d811107d8ab5bac2c169a", func := "speculum/speculumlaw14.PolicySplits", spec := "policySplits", inPlace := ["slices.overlaps[uint32]", "slices.overlaps[speculum/api.Segment]"], unfollowed := true, recurses := true, named := ["speculum/octet.digits"], apart := false, laid := [("speculum/octet.digits", laid_speculum_octet_digits)] }
def PolicySplitsSaid : Prop := policySplitsRow.holds Tryz.pinned (OpenSpec.ofChange policySplitsSpec)

/-- ITS FALSE NEIGHBOUR: 'it returns false'. Refute it at one input. -/
def policySplitsWrong : ChangeSpec := { name := "policySplits", fn := fun _ => fun
  | [d1, d2, d3] => { results := [.lit (.bool false)], args := [d1, d2, d3] }
  | _ => none }
def PolicySplitsWrongFalsely : Prop := policySplitsRow.holds Tryz.pinned (OpenSpec.ofChange policySplitsWrong)

/-- 'speculumlaw17.ExportOut': WHATEVER THE INPUT: true; the input reads as it did. -/
def exportOutSpec : ChangeSpec := { name := "exportOut", fn := fun _ => fun
  | [d1, d2] => { results := [.lit (.bool true)], args := [d1, d2] }
  | _ => none }
def exportOutRow : OpenClaim := { program := "ytafnenafbognkaagreatdoor", sum := "c23d16e4c9d0815bcea6533b23bf4d567842d9fe758d811107d8ab5bac2c169a", func := "speculum/speculumlaw17.ExportOut", spec := "exportOut", inPlace := ["slices.overlaps[uint32]", "slices.overlaps[speculum/api.Segment]"], unfollowed := true, recurses := true, named := ["speculum/octet.digits"], apart := false, laid := [("speculum/octet.digits", laid_speculum_octet_digits)] }
def ExportOutSaid : Prop := exportOutRow.holds Tryz.pinned (OpenSpec.ofChange exportOutSpec)

/-- ITS FALSE NEIGHBOUR: 'it returns false'. Refute it at one input. -/
def exportOutWrong : ChangeSpec := { name := "exportOut", fn := fun _ => fun
  | [d1, d2] => { results := [.lit (.bool false)], args := [d1, d2] }
  | _ => none }
def ExportOutWrongFalsely : Prop := exportOutRow.holds Tryz.pinned (OpenSpec.ofChange exportOutWrong)

/-- 'speculumlaw17.ExportIn': WHATEVER THE INPUT: true; the input reads as it did. -/
def exportInSpec : ChangeSpec := { name := "exportIn", fn := fun _ => fun
  | [d1, d2] => { results := [.lit (.bool true)], args := [d1, d2] }
  | _ => none }
def exportInRow : OpenClaim := { program := "ytafnenafbognkaagreatdoor", sum := "c23d16e4c9d0815bcea6533b23bf4d567842d9fe758d811107d8ab5bac2c169a", func := "speculum/speculumlaw17.ExportIn", spec := "exportIn", inPlace := ["slices.overlaps[uint32]", "slices.overlaps[speculum/api.Segment]"], unfollowed := true, recurses := true, named := ["speculum/octet.digits"], apart := false, laid := [("speculum/octet.digits", laid_speculum_octet_digits)] }
def ExportInSaid : Prop := exportInRow.holds Tryz.pinned (OpenSpec.ofChange exportInSpec)

/-- ITS FALSE NEIGHBOUR: 'it returns false'. Refute it at one input. -/
def exportInWrong : ChangeSpec := { name := "exportIn", fn := fun _ => fun
  | [d1, d2] => { results := [.lit (.bool false)], args := [d1, d2] }
  | _ => none }
def ExportInWrongFalsely : Prop := exportInRow.holds Tryz.pinned (OpenSpec.ofChange exportInWrong)

/- THE SECOND FORM. 'bulk': how many values and letters a reading holds, each counted each time it is reached (what is shared counts as often as it is met; a slice's spare places count too). A statement '..UptoSaid' is the law's where the arguments, and the package variables that the reading takes, are together of bulk at most 1048576: NARROWER than '..Said'. Prove '..Said' where nothing that the law and all that it calls make is longer than what came in: it says more and counts as full. Else prove '..UptoSaid'. A law counts once. -/
mutual
def uptoBulk {H : Type} : DataW H → Nat
  | .lit (.string bytes) => bytes.length + 1
  | .lit _ => 1
  | .nil => 1
  | .ptr d => uptoBulk d + 1
  | .slice elems spare => uptoBulkAll elems + uptoBulkAll spare + 1
  | .agg parts => uptoBulkAll parts + 1
  | .iface _ d => uptoBulk d + 1
  | .map entries => uptoBulkEntries entries + 1
  | .held _ => 1
def uptoBulkAll {H : Type} : List (DataW H) → Nat
  | [] => 0
  | d :: r => uptoBulk d + uptoBulkAll r
def uptoBulkEntries {H : Type} : List (Lit × DataW H) → Nat
  | [] => 0
  | x :: r => uptoBulkEntry x + uptoBulkEntries r
def uptoBulkEntry {H : Type} : Lit × DataW H → Nat
  | (.string bytes, d) => bytes.length + uptoBulk d + 1
  | (_, d) => uptoBulk d + 1
 end
def uptoSmall : (H : Type) → List (DataW H) → Bool := fun _ ds => decide (uptoBulkAll ds ≤ 1048576)
def OpenSpec.upto (s : _root_.Go.ChangeSpec) : _root_.Go.OpenSpec := { _root_.Go.OpenSpec.ofChange s with cond := some uptoSmall }

/-- 'speculumlaw14.PolicyRight', WHERE WHAT IT READS IS OF BULK AT MOST 1048576: true; the input reads as it did. -/
def policyRightUptoRow : OpenClaim := { program := "ytafnenafbognkaagreatdoor", sum := "c23d16e4c9d0815bcea6533b23bf4d567842d9fe758d811107d8ab5bac2c169a", func := "speculum/speculumlaw14.PolicyRight", spec := "policyRight", inPlace := ["slices.overlaps[uint32]", "slices.overlaps[speculum/api.Segment]"], unfollowed := true, recurses := true, named := ["speculum/octet.digits"], apart := false, laid := [("speculum/octet.digits", laid_speculum_octet_digits)], narrowed := true }
def PolicyRightUptoSaid : Prop := policyRightUptoRow.holds Tryz.pinned (OpenSpec.upto policyRightSpec)

/-- 'speculumlaw14.PolicyHolds', WHERE WHAT IT READS IS OF BULK AT MOST 1048576: true; the input reads as it did. -/
def policyHoldsUptoRow : OpenClaim := { program := "ytafnenafbognkaagreatdoor", sum := "c23d16e4c9d0815bcea6533b23bf4d567842d9fe758d811107d8ab5bac2c169a", func := "speculum/speculumlaw14.PolicyHolds", spec := "policyHolds", inPlace := ["slices.overlaps[uint32]", "slices.overlaps[speculum/api.Segment]"], unfollowed := true, recurses := true, named := ["speculum/octet.digits"], apart := false, laid := [("speculum/octet.digits", laid_speculum_octet_digits)], narrowed := true }
def PolicyHoldsUptoSaid : Prop := policyHoldsUptoRow.holds Tryz.pinned (OpenSpec.upto policyHoldsSpec)

/-- 'speculumlaw14.PolicyApplies', WHERE WHAT IT READS IS OF BULK AT MOST 1048576: true; the input reads as it did. -/
def policyAppliesUptoRow : OpenClaim := { program := "ytafnenafbognkaagreatdoor", sum := "c23d16e4c9d0815bcea6533b23bf4d567842d9fe758d811107d8ab5bac2c169a", func := "speculum/speculumlaw14.PolicyApplies", spec := "policyApplies", inPlace := ["slices.overlaps[uint32]", "slices.overlaps[speculum/api.Segment]"], unfollowed := true, recurses := true, named := ["speculum/octet.digits"], apart := false, laid := [("speculum/octet.digits", laid_speculum_octet_digits)], narrowed := true }
def PolicyAppliesUptoSaid : Prop := policyAppliesUptoRow.holds Tryz.pinned (OpenSpec.upto policyAppliesSpec)

/-- 'speculumlaw14.PolicySplits', WHERE WHAT IT READS IS OF BULK AT MOST 1048576: true; the input reads as it did. -/
def policySplitsUptoRow : OpenClaim := { program := "ytafnenafbognkaagreatdoor", sum := "c23d16e4c9d0815bcea6533b23bf4d567842d9fe758d811107d8ab5bac2c169a", func := "speculum/speculumlaw14.PolicySplits", spec := "policySplits", inPlace := ["slices.overlaps[uint32]", "slices.overlaps[speculum/api.Segment]"], unfollowed := true, recurses := true, named := ["speculum/octet.digits"], apart := false, laid := [("speculum/octet.digits", laid_speculum_octet_digits)], narrowed := true }
def PolicySplitsUptoSaid : Prop := policySplitsUptoRow.holds Tryz.pinned (OpenSpec.upto policySplitsSpec)

/-- 'speculumlaw17.ExportOut', WHERE WHAT IT READS IS OF BULK AT MOST 1048576: true; the input reads as it did. -/
def exportOutUptoRow : OpenClaim := { program := "ytafnenafbognkaagreatdoor", sum := "c23d16e4c9d0815bcea6533b23bf4d567842d9fe758d811107d8ab5bac2c169a", func := "speculum/speculumlaw17.ExportOut", spec := "exportOut", inPlace := ["slices.overlaps[uint32]", "slices.overlaps[speculum/api.Segment]"], unfollowed := true, recurses := true, named := ["speculum/octet.digits"], apart := false, laid := [("speculum/octet.digits", laid_speculum_octet_digits)], narrowed := true }
def ExportOutUptoSaid : Prop := exportOutUptoRow.holds Tryz.pinned (OpenSpec.upto exportOutSpec)

/-- 'speculumlaw17.ExportIn', WHERE WHAT IT READS IS OF BULK AT MOST 1048576: true; the input reads as it did. -/
def exportInUptoRow : OpenClaim := { program := "ytafnenafbognkaagreatdoor", sum := "c23d16e4c9d0815bcea6533b23bf4d567842d9fe758d811107d8ab5bac2c169a", func := "speculum/speculumlaw17.ExportIn", spec := "exportIn", inPlace := ["slices.overlaps[uint32]", "slices.overlaps[speculum/api.Segment]"], unfollowed := true, recurses := true, named := ["speculum/octet.digits"], apart := false, laid := [("speculum/octet.digits", laid_speculum_octet_digits)], narrowed := true }
def ExportInUptoSaid : Prop := exportInUptoRow.holds Tryz.pinned (OpenSpec.upto exportInSpec)

end Rows
end Go.Proofs.YtafnenafbognkaaGreatDoor
