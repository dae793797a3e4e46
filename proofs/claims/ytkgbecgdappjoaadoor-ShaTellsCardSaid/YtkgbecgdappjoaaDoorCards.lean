/-
  DERIVED. GIVEN WITH THE SEED: THE CARDS: each row of YtkgbecgdappjoaaDoorRows.lean that lists a variable, with what it lists TIED to the program's text (the seventh form; the later family's looks); each row that meets fmt, with fmt's text TOLD by the authors' own Lean function (tested against real Go, not proved from fmt's source: count such statements apart). THE CARD IS WHAT COUNTS. Prove the row's statement (the work); the ties are given (YtkgbecgdappjoaaDoorTie.lean); close each card by the builder's one call (the guide's Derived/Test/ToyasCard.lean, 'card_holds'). Laid BY PROGRAM, IN A SANDBOX (cutbox-door.mjs). By AI agents, Wed Nov 11 2026. No macro, syntax, notation, axiom, sorry.
-/
import Derived.Test.YtkgbecgdappjoaaDoorRows
import GoSem.ClaimSeven
namespace Go.Proofs.YtkgbecgdappjoaaDoor
namespace Rows

/-- THE TIED CARD OF 'railheadlaw05.ShaTells'. -/
def shaTellsCard : Claim7 := { stood := { row := shaTellsRow, standIns := [], harness := (true, "18e5c003be3a7d9efd9cbc80647969a97400899806273750d87a9403dbec834d"), looks := false }, kinds := [], alts := [], laidByText := true, laidKinds := [.data, .data], laidTests := true, laidLooks := .later }
def ShaTellsCardSaid : Prop := Claim7.holds Tryd.pinned (.plain (OpenSpec.ofChange shaTellsSpec)) shaTellsCard

/-- THE TIED CARD OF 'railheadlaw05.ShaLeft'. -/
def shaLeftCard : Claim7 := { stood := { row := shaLeftRow, standIns := [], harness := (true, "18e5c003be3a7d9efd9cbc80647969a97400899806273750d87a9403dbec834d"), looks := false }, kinds := [], alts := [], laidByText := true, laidKinds := [.data, .data], laidTests := true, laidLooks := .later }
def ShaLeftCardSaid : Prop := Claim7.holds Tryd.pinned (.plain (OpenSpec.ofChange shaLeftSpec)) shaLeftCard

/-- THE TIED CARD OF 'railheadlaw05.ShaCosts'. -/
def shaCostsCard : Claim7 := { stood := { row := shaCostsRow, standIns := [], harness := (true, "18e5c003be3a7d9efd9cbc80647969a97400899806273750d87a9403dbec834d"), looks := false }, kinds := [], alts := [], laidByText := true, laidKinds := [.data, .data], laidTests := true, laidLooks := .later }
def ShaCostsCardSaid : Prop := Claim7.holds Tryd.pinned (.plain (OpenSpec.ofChange shaCostsSpec)) shaCostsCard

/-- THE TIED CARD OF 'railheadlaw05.ShaApart'. -/
def shaApartCard : Claim7 := { stood := { row := shaApartRow, standIns := [], harness := (true, "18e5c003be3a7d9efd9cbc80647969a97400899806273750d87a9403dbec834d"), looks := false }, kinds := [], alts := [], laidByText := true, laidKinds := [.data, .data], laidTests := true, laidLooks := .later }
def ShaApartCardSaid : Prop := Claim7.holds Tryd.pinned (.plain (OpenSpec.ofChange shaApartSpec)) shaApartCard

/-- THE TIED CARD OF 'railheadlaw05.ShaAgain'. -/
def shaAgainCard : Claim7 := { stood := { row := shaAgainRow, standIns := [], harness := (true, "18e5c003be3a7d9efd9cbc80647969a97400899806273750d87a9403dbec834d"), looks := false }, kinds := [], alts := [], laidByText := true, laidKinds := [.data, .data], laidTests := true, laidLooks := .later }
def ShaAgainCardSaid : Prop := Claim7.holds Tryd.pinned (.plain (OpenSpec.ofChange shaAgainSpec)) shaAgainCard

/-- THE SECOND FORM's CARD OF 'railheadlaw05.ShaTells'. -/
def shaTellsUptoCard : Claim7 := { stood := { row := shaTellsUptoRow, standIns := [], harness := (true, "18e5c003be3a7d9efd9cbc80647969a97400899806273750d87a9403dbec834d"), looks := false }, kinds := [], alts := [], laidByText := true, laidKinds := [.data, .data], laidTests := true, laidLooks := .later }
def ShaTellsUptoCardSaid : Prop := Claim7.holds Tryd.pinned (.plain (OpenSpec.upto shaTellsSpec)) shaTellsUptoCard

/-- THE SECOND FORM's CARD OF 'railheadlaw05.ShaLeft'. -/
def shaLeftUptoCard : Claim7 := { stood := { row := shaLeftUptoRow, standIns := [], harness := (true, "18e5c003be3a7d9efd9cbc80647969a97400899806273750d87a9403dbec834d"), looks := false }, kinds := [], alts := [], laidByText := true, laidKinds := [.data, .data], laidTests := true, laidLooks := .later }
def ShaLeftUptoCardSaid : Prop := Claim7.holds Tryd.pinned (.plain (OpenSpec.upto shaLeftSpec)) shaLeftUptoCard

/-- THE SECOND FORM's CARD OF 'railheadlaw05.ShaCosts'. -/
def shaCostsUptoCard : Claim7 := { stood := { row := shaCostsUptoRow, standIns := [], harness := (true, "18e5c003be3a7d9efd9cbc80647969a97400899806273750d87a9403dbec834d"), looks := false }, kinds := [], alts := [], laidByText := true, laidKinds := [.data, .data], laidTests := true, laidLooks := .later }
def ShaCostsUptoCardSaid : Prop := Claim7.holds Tryd.pinned (.plain (OpenSpec.upto shaCostsSpec)) shaCostsUptoCard

/-- THE SECOND FORM's CARD OF 'railheadlaw05.ShaApart'. -/
def shaApartUptoCard : Claim7 := { stood := { row := shaApartUptoRow, standIns := [], harness := (true, "18e5c003be3a7d9efd9cbc80647969a97400899806273750d87a9403dbec834d"), looks := false }, kinds := [], alts := [], laidByText := true, laidKinds := [.data, .data], laidTests := true, laidLooks := .later }
def ShaApartUptoCardSaid : Prop := Claim7.holds Tryd.pinned (.plain (OpenSpec.upto shaApartSpec)) shaApartUptoCard

/-- THE SECOND FORM's CARD OF 'railheadlaw05.ShaAgain'. -/
def shaAgainUptoCard : Claim7 := { stood := { row := shaAgainUptoRow, standIns := [], harness := (true, "18e5c003be3a7d9efd9cbc80647969a97400899806273750d87a9403dbec834d"), looks := false }, kinds := [], alts := [], laidByText := true, laidKinds := [.data, .data], laidTests := true, laidLooks := .later }
def ShaAgainUptoCardSaid : Prop := Claim7.holds Tryd.pinned (.plain (OpenSpec.upto shaAgainSpec)) shaAgainUptoCard
end Rows
end Go.Proofs.YtkgbecgdappjoaaDoor
