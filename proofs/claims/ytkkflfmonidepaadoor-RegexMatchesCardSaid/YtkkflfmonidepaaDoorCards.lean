/-
  DERIVED. GIVEN WITH THE SEED: THE CARDS: each row of YtkkflfmonidepaaDoorRows.lean that lists a variable, with what it lists TIED to the program's text (the seventh form; the later family's looks); each row that meets fmt, with fmt's text TOLD by the authors' own Lean function (tested against real Go, not proved from fmt's source: count such statements apart). THE CARD IS WHAT COUNTS. Prove the row's statement (the work); the ties are given (YtkkflfmonidepaaDoorTie.lean); close each card by the builder's one call (the guide's Derived/Test/ToyasCard.lean, 'card_holds'). Laid BY PROGRAM, IN A SANDBOX (cutbox-door.mjs). By AI agents, Wed Nov 11 2026. No macro, syntax, notation, axiom, sorry.
-/
import Derived.Test.YtkkflfmonidepaaDoorRows
import GoSem.ClaimSeven
namespace Go.Proofs.YtkkflfmonidepaaDoor
namespace Rows

/-- THE TIED CARD OF 'speculumlaw11.RegexMatches'. -/
def regexMatchesCard : Claim7 := { stood := { row := regexMatchesRow, standIns := [], harness := (true, "eca0dbbec6db19d8e9273568d66a13f1ab9c8f2b38c82a0bff42692ce9cb73ff"), looks := false }, kinds := [], alts := [], laidByText := true, laidKinds := [.data], laidTests := true, laidLooks := .later }
def RegexMatchesCardSaid : Prop := Claim7.holds Tryd.pinned (.plain (OpenSpec.ofChange regexMatchesSpec)) regexMatchesCard

/-- THE TIED CARD OF 'speculumlaw11.RegexParts'. -/
def regexPartsCard : Claim7 := { stood := { row := regexPartsRow, standIns := [], harness := (true, "eca0dbbec6db19d8e9273568d66a13f1ab9c8f2b38c82a0bff42692ce9cb73ff"), looks := false }, kinds := [], alts := [], laidByText := true, laidKinds := [.data], laidTests := true, laidLooks := .later }
def RegexPartsCardSaid : Prop := Claim7.holds Tryd.pinned (.plain (OpenSpec.ofChange regexPartsSpec)) regexPartsCard

/-- THE TIED CARD OF 'speculumlaw11.RegexTexts'. -/
def regexTextsCard : Claim7 := { stood := { row := regexTextsRow, standIns := [], harness := (true, "eca0dbbec6db19d8e9273568d66a13f1ab9c8f2b38c82a0bff42692ce9cb73ff"), looks := false }, kinds := [], alts := [], laidByText := true, laidKinds := [.data], laidTests := true, laidLooks := .later }
def RegexTextsCardSaid : Prop := Claim7.holds Tryd.pinned (.plain (OpenSpec.ofChange regexTextsSpec)) regexTextsCard

/-- THE TIED CARD OF 'speculumlaw11.RegexNobody'. -/
def regexNobodyCard : Claim7 := { stood := { row := regexNobodyRow, standIns := [], harness := (true, "eca0dbbec6db19d8e9273568d66a13f1ab9c8f2b38c82a0bff42692ce9cb73ff"), looks := false }, kinds := [], alts := [], laidByText := true, laidKinds := [.data], laidTests := true, laidLooks := .later }
def RegexNobodyCardSaid : Prop := Claim7.holds Tryd.pinned (.plain (OpenSpec.ofChange regexNobodySpec)) regexNobodyCard

/-- THE SECOND FORM's CARD OF 'speculumlaw11.RegexMatches'. -/
def regexMatchesUptoCard : Claim7 := { stood := { row := regexMatchesUptoRow, standIns := [], harness := (true, "eca0dbbec6db19d8e9273568d66a13f1ab9c8f2b38c82a0bff42692ce9cb73ff"), looks := false }, kinds := [], alts := [], laidByText := true, laidKinds := [.data], laidTests := true, laidLooks := .later }
def RegexMatchesUptoCardSaid : Prop := Claim7.holds Tryd.pinned (.plain (OpenSpec.upto regexMatchesSpec)) regexMatchesUptoCard

/-- THE SECOND FORM's CARD OF 'speculumlaw11.RegexParts'. -/
def regexPartsUptoCard : Claim7 := { stood := { row := regexPartsUptoRow, standIns := [], harness := (true, "eca0dbbec6db19d8e9273568d66a13f1ab9c8f2b38c82a0bff42692ce9cb73ff"), looks := false }, kinds := [], alts := [], laidByText := true, laidKinds := [.data], laidTests := true, laidLooks := .later }
def RegexPartsUptoCardSaid : Prop := Claim7.holds Tryd.pinned (.plain (OpenSpec.upto regexPartsSpec)) regexPartsUptoCard

/-- THE SECOND FORM's CARD OF 'speculumlaw11.RegexTexts'. -/
def regexTextsUptoCard : Claim7 := { stood := { row := regexTextsUptoRow, standIns := [], harness := (true, "eca0dbbec6db19d8e9273568d66a13f1ab9c8f2b38c82a0bff42692ce9cb73ff"), looks := false }, kinds := [], alts := [], laidByText := true, laidKinds := [.data], laidTests := true, laidLooks := .later }
def RegexTextsUptoCardSaid : Prop := Claim7.holds Tryd.pinned (.plain (OpenSpec.upto regexTextsSpec)) regexTextsUptoCard

/-- THE SECOND FORM's CARD OF 'speculumlaw11.RegexNobody'. -/
def regexNobodyUptoCard : Claim7 := { stood := { row := regexNobodyUptoRow, standIns := [], harness := (true, "eca0dbbec6db19d8e9273568d66a13f1ab9c8f2b38c82a0bff42692ce9cb73ff"), looks := false }, kinds := [], alts := [], laidByText := true, laidKinds := [.data], laidTests := true, laidLooks := .later }
def RegexNobodyUptoCardSaid : Prop := Claim7.holds Tryd.pinned (.plain (OpenSpec.upto regexNobodySpec)) regexNobodyUptoCard
end Rows
end Go.Proofs.YtkkflfmonidepaaDoor
