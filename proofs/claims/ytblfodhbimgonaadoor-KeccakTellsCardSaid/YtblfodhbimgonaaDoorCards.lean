/-
  DERIVED. GIVEN WITH THE SEED: THE CARDS: each row of YtblfodhbimgonaaDoorRows.lean that lists a variable, with what it lists TIED to the program's text (the seventh form; the later family's looks); each row that meets fmt, with fmt's text TOLD by the authors' own Lean function (tested against real Go, not proved from fmt's source: count such statements apart). THE CARD IS WHAT COUNTS. Prove the row's statement (the work); the ties are given (YtblfodhbimgonaaDoorTie.lean); close each card by the builder's one call (the guide's Derived/Test/ToyasCard.lean, 'card_holds'). Laid BY PROGRAM, IN A SANDBOX (cutbox-door.mjs). By AI agents, Wed Nov 11 2026. No macro, syntax, notation, axiom, sorry.
-/
import Derived.Test.YtblfodhbimgonaaDoorRows
import GoSem.ClaimSeven
namespace Go.Proofs.YtblfodhbimgonaaDoor
namespace Rows

/-- THE TIED CARD OF 'railheadlaw04.KeccakTells'. -/
def keccakTellsCard : Claim7 := { stood := { row := keccakTellsRow, standIns := [], harness := (true, "919d05ca8d558fd6700316c99cf481c7abc5f4e1554e1a61ace801e8e8c0ec91"), looks := false }, kinds := [], alts := [], laidByText := true, laidKinds := [.data], laidTests := true, laidLooks := .later }
def KeccakTellsCardSaid : Prop := Claim7.holds Tryd.pinned (.plain (OpenSpec.ofChange keccakTellsSpec)) keccakTellsCard

/-- THE TIED CARD OF 'railheadlaw04.KeccakBlocks'. -/
def keccakBlocksCard : Claim7 := { stood := { row := keccakBlocksRow, standIns := [], harness := (true, "919d05ca8d558fd6700316c99cf481c7abc5f4e1554e1a61ace801e8e8c0ec91"), looks := false }, kinds := [], alts := [], laidByText := true, laidKinds := [.data], laidTests := true, laidLooks := .later }
def KeccakBlocksCardSaid : Prop := Claim7.holds Tryd.pinned (.plain (OpenSpec.ofChange keccakBlocksSpec)) keccakBlocksCard

/-- THE TIED CARD OF 'railheadlaw04.KeccakPads'. -/
def keccakPadsCard : Claim7 := { stood := { row := keccakPadsRow, standIns := [], harness := (true, "919d05ca8d558fd6700316c99cf481c7abc5f4e1554e1a61ace801e8e8c0ec91"), looks := false }, kinds := [], alts := [], laidByText := true, laidKinds := [.data], laidTests := true, laidLooks := .later }
def KeccakPadsCardSaid : Prop := Claim7.holds Tryd.pinned (.plain (OpenSpec.ofChange keccakPadsSpec)) keccakPadsCard

/-- THE TIED CARD OF 'railheadlaw04.KeccakUnlike'. -/
def keccakUnlikeCard : Claim7 := { stood := { row := keccakUnlikeRow, standIns := [], harness := (true, "919d05ca8d558fd6700316c99cf481c7abc5f4e1554e1a61ace801e8e8c0ec91"), looks := false }, kinds := [], alts := [], laidByText := true, laidKinds := [.data], laidTests := true, laidLooks := .later }
def KeccakUnlikeCardSaid : Prop := Claim7.holds Tryd.pinned (.plain (OpenSpec.ofChange keccakUnlikeSpec)) keccakUnlikeCard

/-- THE TIED CARD OF 'railheadlaw04.KeccakLong'. -/
def keccakLongCard : Claim7 := { stood := { row := keccakLongRow, standIns := [], harness := (true, "919d05ca8d558fd6700316c99cf481c7abc5f4e1554e1a61ace801e8e8c0ec91"), looks := false }, kinds := [], alts := [], laidByText := true, laidKinds := [.data], laidTests := true, laidLooks := .later }
def KeccakLongCardSaid : Prop := Claim7.holds Tryd.pinned (.plain (OpenSpec.ofChange keccakLongSpec)) keccakLongCard

/-- THE TIED CARD OF 'railheadlaw04.KeccakOne'. -/
def keccakOneCard : Claim7 := { stood := { row := keccakOneRow, standIns := [], harness := (true, "919d05ca8d558fd6700316c99cf481c7abc5f4e1554e1a61ace801e8e8c0ec91"), looks := false }, kinds := [], alts := [], laidByText := true, laidKinds := [.data], laidTests := true, laidLooks := .later }
def KeccakOneCardSaid : Prop := Claim7.holds Tryd.pinned (.plain (OpenSpec.ofChange keccakOneSpec)) keccakOneCard

/-- THE TIED CARD OF 'railheadlaw04.KeccakApart'. -/
def keccakApartCard : Claim7 := { stood := { row := keccakApartRow, standIns := [], harness := (true, "919d05ca8d558fd6700316c99cf481c7abc5f4e1554e1a61ace801e8e8c0ec91"), looks := false }, kinds := [], alts := [], laidByText := true, laidKinds := [.data], laidTests := true, laidLooks := .later }
def KeccakApartCardSaid : Prop := Claim7.holds Tryd.pinned (.plain (OpenSpec.ofChange keccakApartSpec)) keccakApartCard

/-- THE SECOND FORM's CARD OF 'railheadlaw04.KeccakTells'. -/
def keccakTellsUptoCard : Claim7 := { stood := { row := keccakTellsUptoRow, standIns := [], harness := (true, "919d05ca8d558fd6700316c99cf481c7abc5f4e1554e1a61ace801e8e8c0ec91"), looks := false }, kinds := [], alts := [], laidByText := true, laidKinds := [.data], laidTests := true, laidLooks := .later }
def KeccakTellsUptoCardSaid : Prop := Claim7.holds Tryd.pinned (.plain (OpenSpec.upto keccakTellsSpec)) keccakTellsUptoCard

/-- THE SECOND FORM's CARD OF 'railheadlaw04.KeccakBlocks'. -/
def keccakBlocksUptoCard : Claim7 := { stood := { row := keccakBlocksUptoRow, standIns := [], harness := (true, "919d05ca8d558fd6700316c99cf481c7abc5f4e1554e1a61ace801e8e8c0ec91"), looks := false }, kinds := [], alts := [], laidByText := true, laidKinds := [.data], laidTests := true, laidLooks := .later }
def KeccakBlocksUptoCardSaid : Prop := Claim7.holds Tryd.pinned (.plain (OpenSpec.upto keccakBlocksSpec)) keccakBlocksUptoCard

/-- THE SECOND FORM's CARD OF 'railheadlaw04.KeccakPads'. -/
def keccakPadsUptoCard : Claim7 := { stood := { row := keccakPadsUptoRow, standIns := [], harness := (true, "919d05ca8d558fd6700316c99cf481c7abc5f4e1554e1a61ace801e8e8c0ec91"), looks := false }, kinds := [], alts := [], laidByText := true, laidKinds := [.data], laidTests := true, laidLooks := .later }
def KeccakPadsUptoCardSaid : Prop := Claim7.holds Tryd.pinned (.plain (OpenSpec.upto keccakPadsSpec)) keccakPadsUptoCard

/-- THE SECOND FORM's CARD OF 'railheadlaw04.KeccakUnlike'. -/
def keccakUnlikeUptoCard : Claim7 := { stood := { row := keccakUnlikeUptoRow, standIns := [], harness := (true, "919d05ca8d558fd6700316c99cf481c7abc5f4e1554e1a61ace801e8e8c0ec91"), looks := false }, kinds := [], alts := [], laidByText := true, laidKinds := [.data], laidTests := true, laidLooks := .later }
def KeccakUnlikeUptoCardSaid : Prop := Claim7.holds Tryd.pinned (.plain (OpenSpec.upto keccakUnlikeSpec)) keccakUnlikeUptoCard

/-- THE SECOND FORM's CARD OF 'railheadlaw04.KeccakLong'. -/
def keccakLongUptoCard : Claim7 := { stood := { row := keccakLongUptoRow, standIns := [], harness := (true, "919d05ca8d558fd6700316c99cf481c7abc5f4e1554e1a61ace801e8e8c0ec91"), looks := false }, kinds := [], alts := [], laidByText := true, laidKinds := [.data], laidTests := true, laidLooks := .later }
def KeccakLongUptoCardSaid : Prop := Claim7.holds Tryd.pinned (.plain (OpenSpec.upto keccakLongSpec)) keccakLongUptoCard

/-- THE SECOND FORM's CARD OF 'railheadlaw04.KeccakOne'. -/
def keccakOneUptoCard : Claim7 := { stood := { row := keccakOneUptoRow, standIns := [], harness := (true, "919d05ca8d558fd6700316c99cf481c7abc5f4e1554e1a61ace801e8e8c0ec91"), looks := false }, kinds := [], alts := [], laidByText := true, laidKinds := [.data], laidTests := true, laidLooks := .later }
def KeccakOneUptoCardSaid : Prop := Claim7.holds Tryd.pinned (.plain (OpenSpec.upto keccakOneSpec)) keccakOneUptoCard

/-- THE SECOND FORM's CARD OF 'railheadlaw04.KeccakApart'. -/
def keccakApartUptoCard : Claim7 := { stood := { row := keccakApartUptoRow, standIns := [], harness := (true, "919d05ca8d558fd6700316c99cf481c7abc5f4e1554e1a61ace801e8e8c0ec91"), looks := false }, kinds := [], alts := [], laidByText := true, laidKinds := [.data], laidTests := true, laidLooks := .later }
def KeccakApartUptoCardSaid : Prop := Claim7.holds Tryd.pinned (.plain (OpenSpec.upto keccakApartSpec)) keccakApartUptoCard
end Rows
end Go.Proofs.YtblfodhbimgonaaDoor
