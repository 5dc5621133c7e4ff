/-
  NARROWER THAN 'FOR EVERY INPUT', by the rows' own cells (each row's printed sentence says how): RegexMatches: laid · RegexParts: laid · RegexTexts: laid · RegexNobody: laid.
  DERIVED. THE GIVEN ROWS OF THIS SEAT. 4 by the template 'for every input the law returns true; each argument reads behind the call as it read before'; 0 by the template 'total and deterministic' (their statements: YtkkflfmonidepaaDoorTotals.lean).
  GIVEN WITH THE SEED: the statements are not yours to turn. If you find one false, say at which input.
  Laid BY PROGRAM, IN A SANDBOX (cutbox-rows.mjs): the forced cells as the released guide's own fill.sh prints them over the translation 14ef86af71e967fd… (all of the seat's roots in one cut). By AI agents, Wed Nov 11 2026. No macro, syntax, notation, axiom, sorry.
-/
import Derived.Test.YtkkflfmonidepaaDoorChecked
import GoSem.Claim
import GoSem.ClaimJoined
import GoSem.ClaimMapViews
import Derived.JoinedTies
import Derived.KernelRfl
namespace Go.Proofs.YtkkflfmonidepaaDoor
/- THE CELL 'sum', in the pinned program and in every row, IS THE sha256 OF THE DUMP (.gsa) THAT YtkkflfmonidepaaDoorProg.lean LOADS. Nothing in Lean hashes anything: it is a label: what it is worth is what the hold of that sum in a sandbox is worth. -/
noncomputable def Tryd.pinned : Pinned := { name := "ytkkflfmonidepaadoor", sum := "14ef86af71e967fddfee58a5fb7dffa9887cf7bacb72ab07a8ddb7dbf647d65b", checked := Tryd.checked }
namespace Rows
def none {H : Type} : Left H := { results := [], args := [] }

/- WHAT THE LISTED PACKAGE-LEVEL VARIABLES READ AS WHEN THE CALL BEGINS. Each datum BY PROGRAM (the guide's laid-datum.mjs) off the statement by which the dump's own 'gosem.cut.vars' lays the variable. In a bare row this is a premise. The card (YtkkflfmonidepaaDoorCards.lean) ties it to the program's text. -/
def laid_speculum_octet_digits {H : Type} : DataW H := .agg [.lit (.int .u8 48), .lit (.int .u8 49), .lit (.int .u8 50), .lit (.int .u8 51), .lit (.int .u8 52), .lit (.int .u8 53), .lit (.int .u8 54), .lit (.int .u8 55), .lit (.int .u8 56), .lit (.int .u8 57), .lit (.int .u8 97), .lit (.int .u8 98), .lit (.int .u8 99), .lit (.int .u8 100), .lit (.int .u8 101), .lit (.int .u8 102)]

/-- 'speculumlaw11.RegexMatches': WHATEVER THE INPUT: true; the input reads as it did. -/
def regexMatchesSpec : ChangeSpec := { name := "regexMatches", fn := fun _ => fun
  | [d1, d2] => { results := [.lit (.bool true)], args := [d1, d2] }
  | _ => none }
def regexMatchesRow : OpenClaim := { program := "ytkkflfmonidepaadoor", sum := "14ef86af71e967fddfee58a5fb7dffa9887cf7bacb72ab07a8ddb7dbf647d65b", func := "speculum/speculumlaw11.RegexMatches", spec := "regexMatches", inPlace := ["internal/abi.NoEscape", "internal/bytealg.MakeNoZero"], unfollowed := true, recurses := true, named := ["speculum/octet.digits"], apart := false, laid := [("speculum/octet.digits", laid_speculum_octet_digits)] }
def RegexMatchesSaid : Prop := regexMatchesRow.holds Tryd.pinned (OpenSpec.ofChange regexMatchesSpec)

/-- ITS FALSE NEIGHBOUR: 'it returns false'. Refute it at one input. -/
def regexMatchesWrong : ChangeSpec := { name := "regexMatches", fn := fun _ => fun
  | [d1, d2] => { results := [.lit (.bool false)], args := [d1, d2] }
  | _ => none }
def RegexMatchesWrongFalsely : Prop := regexMatchesRow.holds Tryd.pinned (OpenSpec.ofChange regexMatchesWrong)

/-- 'speculumlaw11.RegexParts': WHATEVER THE INPUT: true; the input reads as it did. -/
def regexPartsSpec : ChangeSpec := { name := "regexParts", fn := fun _ => fun
  | [d1, d2, d3] => { results := [.lit (.bool true)], args := [d1, d2, d3] }
  | _ => none }
def regexPartsRow : OpenClaim := { program := "ytkkflfmonidepaadoor", sum := "14ef86af71e967fddfee58a5fb7dffa9887cf7bacb72ab07a8ddb7dbf647d65b", func := "speculum/speculumlaw11.RegexParts", spec := "regexParts", inPlace := ["internal/abi.NoEscape", "internal/bytealg.MakeNoZero"], unfollowed := true, recurses := true, named := ["speculum/octet.digits"], apart := false, laid := [("speculum/octet.digits", laid_speculum_octet_digits)] }
def RegexPartsSaid : Prop := regexPartsRow.holds Tryd.pinned (OpenSpec.ofChange regexPartsSpec)

/-- ITS FALSE NEIGHBOUR: 'it returns false'. Refute it at one input. -/
def regexPartsWrong : ChangeSpec := { name := "regexParts", fn := fun _ => fun
  | [d1, d2, d3] => { results := [.lit (.bool false)], args := [d1, d2, d3] }
  | _ => none }
def RegexPartsWrongFalsely : Prop := regexPartsRow.holds Tryd.pinned (OpenSpec.ofChange regexPartsWrong)

/-- 'speculumlaw11.RegexTexts': WHATEVER THE INPUT: true; the input reads as it did. -/
def regexTextsSpec : ChangeSpec := { name := "regexTexts", fn := fun _ => fun
  | [d1, d2] => { results := [.lit (.bool true)], args := [d1, d2] }
  | _ => none }
def regexTextsRow : OpenClaim := { program := "ytkkflfmonidepaadoor", sum := "14ef86af71e967fddfee58a5fb7dffa9887cf7bacb72ab07a8ddb7dbf647d65b", func := "speculum/speculumlaw11.RegexTexts", spec := "regexTexts", inPlace := ["internal/abi.NoEscape", "internal/bytealg.MakeNoZero"], unfollowed := true, recurses := true, named := ["speculum/octet.digits"], apart := false, laid := [("speculum/octet.digits", laid_speculum_octet_digits)] }
def RegexTextsSaid : Prop := regexTextsRow.holds Tryd.pinned (OpenSpec.ofChange regexTextsSpec)

/-- ITS FALSE NEIGHBOUR: 'it returns false'. Refute it at one input. -/
def regexTextsWrong : ChangeSpec := { name := "regexTexts", fn := fun _ => fun
  | [d1, d2] => { results := [.lit (.bool false)], args := [d1, d2] }
  | _ => none }
def RegexTextsWrongFalsely : Prop := regexTextsRow.holds Tryd.pinned (OpenSpec.ofChange regexTextsWrong)

/-- 'speculumlaw11.RegexNobody': WHATEVER THE INPUT: true; the input reads as it did. -/
def regexNobodySpec : ChangeSpec := { name := "regexNobody", fn := fun _ => fun
  | [d] => { results := [.lit (.bool true)], args := [d] }
  | _ => none }
def regexNobodyRow : OpenClaim := { program := "ytkkflfmonidepaadoor", sum := "14ef86af71e967fddfee58a5fb7dffa9887cf7bacb72ab07a8ddb7dbf647d65b", func := "speculum/speculumlaw11.RegexNobody", spec := "regexNobody", inPlace := ["internal/abi.NoEscape", "internal/bytealg.MakeNoZero"], unfollowed := true, recurses := true, named := ["speculum/octet.digits"], apart := false, laid := [("speculum/octet.digits", laid_speculum_octet_digits)] }
def RegexNobodySaid : Prop := regexNobodyRow.holds Tryd.pinned (OpenSpec.ofChange regexNobodySpec)

/-- ITS FALSE NEIGHBOUR: 'it returns false'. Refute it at one input. -/
def regexNobodyWrong : ChangeSpec := { name := "regexNobody", fn := fun _ => fun
  | [d] => { results := [.lit (.bool false)], args := [d] }
  | _ => none }
def RegexNobodyWrongFalsely : Prop := regexNobodyRow.holds Tryd.pinned (OpenSpec.ofChange regexNobodyWrong)

/- THE SECOND FORM. 'bulk': how many values and letters a reading holds, each counted each time it is reached (what is shared counts as often as it is met; a slice's spare places count too). A statement '..UptoSaid' is the law's where the arguments, and the package variables that the reading takes, are together of bulk at most 1048576: NARROWER than '..Said'. Prove '..Said' where nothing that the law and all that it calls make is longer than what came in: it says more and counts as full. Else prove '..UptoSaid'. A law counts once. -/
mutual
def uptoBulk {H : Type} : DataW H → Nat
  | .lit (.string bytes) => bytes.length + 1
  | .lit _ => 1
  | .nil => 1
  | .ptr d => uptoBulk d + 1
  | .slice elems spare => uptoBulkAll elems + uptoBulkAll spare + 1
  | .agg parts => uptoBulkAll parts + 1
  | .iface _ d => uptoBulk d + 1
  | .map entries => uptoBulkEntries entries + 1
  | .held _ => 1
def uptoBulkAll {H : Type} : List (DataW H) → Nat
  | [] => 0
  | d :: r => uptoBulk d + uptoBulkAll r
def uptoBulkEntries {H : Type} : List (Lit × DataW H) → Nat
  | [] => 0
  | x :: r => uptoBulkEntry x + uptoBulkEntries r
def uptoBulkEntry {H : Type} : Lit × DataW H → Nat
  | (.string bytes, d) => bytes.length + uptoBulk d + 1
  | (_, d) => uptoBulk d + 1
 end
def uptoSmall : (H : Type) → List (DataW H) → Bool := fun _ ds => decide (uptoBulkAll ds ≤ 1048576)
def OpenSpec.upto (s : _root_.Go.ChangeSpec) : _root_.Go.OpenSpec := { _root_.Go.OpenSpec.ofChange s with cond := some uptoSmall }

/-- 'speculumlaw11.RegexMatches', WHERE WHAT IT READS IS OF BULK AT MOST 1048576: true; the input reads as it did. -/
def regexMatchesUptoRow : OpenClaim := { program := "ytkkflfmonidepaadoor", sum := "14ef86af71e967fddfee58a5fb7dffa9887cf7bacb72ab07a8ddb7dbf647d65b", func := "speculum/speculumlaw11.RegexMatches", spec := "regexMatches", inPlace := ["internal/abi.NoEscape", "internal/bytealg.MakeNoZero"], unfollowed := true, recurses := true, named := ["speculum/octet.digits"], apart := false, laid := [("speculum/octet.digits", laid_speculum_octet_digits)], narrowed := true }
def RegexMatchesUptoSaid : Prop := regexMatchesUptoRow.holds Tryd.pinned (OpenSpec.upto regexMatchesSpec)

/-- 'speculumlaw11.RegexParts', WHERE WHAT IT READS IS OF BULK AT MOST 1048576: true; the input reads as it did. -/
def regexPartsUptoRow : OpenClaim := { program := "ytkkflfmonidepaadoor", sum := "14ef86af71e967fddfee58a5fb7dffa9887cf7bacb72ab07a8ddb7dbf647d65b", func := "speculum/speculumlaw11.RegexParts", spec := "regexParts", inPlace := ["internal/abi.NoEscape", "internal/bytealg.MakeNoZero"], unfollowed := true, recurses := true, named := ["speculum/octet.digits"], apart := false, laid := [("speculum/octet.digits", laid_speculum_octet_digits)], narrowed := true }
def RegexPartsUptoSaid : Prop := regexPartsUptoRow.holds Tryd.pinned (OpenSpec.upto regexPartsSpec)

/-- 'speculumlaw11.RegexTexts', WHERE WHAT IT READS IS OF BULK AT MOST 1048576: true; the input reads as it did. -/
def regexTextsUptoRow : OpenClaim := { program := "ytkkflfmonidepaadoor", sum := "14ef86af71e967fddfee58a5fb7dffa9887cf7bacb72ab07a8ddb7dbf647d65b", func := "speculum/speculumlaw11.RegexTexts", spec := "regexTexts", inPlace := ["internal/abi.NoEscape", "internal/bytealg.MakeNoZero"], unfollowed := true, recurses := true, named := ["speculum/octet.digits"], apart := false, laid := [("speculum/octet.digits", laid_speculum_octet_digits)], narrowed := true }
def RegexTextsUptoSaid : Prop := regexTextsUptoRow.holds Tryd.pinned (OpenSpec.upto regexTextsSpec)

/-- 'speculumlaw11.RegexNobody', WHERE WHAT IT READS IS OF BULK AT MOST 1048576: true; the input reads as it did. -/
def regexNobodyUptoRow : OpenClaim := { program := "ytkkflfmonidepaadoor", sum := "14ef86af71e967fddfee58a5fb7dffa9887cf7bacb72ab07a8ddb7dbf647d65b", func := "speculum/speculumlaw11.RegexNobody", spec := "regexNobody", inPlace := ["internal/abi.NoEscape", "internal/bytealg.MakeNoZero"], unfollowed := true, recurses := true, named := ["speculum/octet.digits"], apart := false, laid := [("speculum/octet.digits", laid_speculum_octet_digits)], narrowed := true }
def RegexNobodyUptoSaid : Prop := regexNobodyUptoRow.holds Tryd.pinned (OpenSpec.upto regexNobodySpec)

end Rows
end Go.Proofs.YtkkflfmonidepaaDoor
