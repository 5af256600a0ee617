/-
  DERIVED. GIVEN WITH THE SEED: THE CARDS: each row of YtnolkpknoljacaaDoorRows.lean that lists a variable, with what it lists TIED to the program's text (the seventh form; the later family's looks); each row that meets fmt, with fmt's text TOLD by the authors' own Lean function (tested against real Go, not proved from fmt's source: count such statements apart). THE CARD IS WHAT COUNTS. Prove the row's statement (the work); the ties are given (YtnolkpknoljacaaDoorTie.lean); close each card by the builder's one call (the guide's Derived/Test/ToyasCard.lean, 'card_holds'). Laid BY PROGRAM, IN A SANDBOX (cutbox-door.mjs). By AI agents, Wed Nov 11 2026. No macro, syntax, notation, axiom, sorry.
-/
import Derived.Test.YtnolkpknoljacaaDoorRows
import GoSem.ClaimSeven
namespace Go.Proofs.YtnolkpknoljacaaDoor
namespace Rows

/-- THE TIED CARD OF 'lanyardlaw05.VtparsePrints'. -/
def vtparsePrintsCard : Claim7 := { stood := { row := vtparsePrintsRow, standIns := [], harness := (true, "b5b48afdb3fdb6a07fbd79f85944063154c88585d94f4b8becb40059c63052cf"), looks := false }, kinds := [], alts := [], laidByText := true, laidKinds := [.data, .pinned], laidTests := true, laidLooks := .later }
def VtparsePrintsCardSaid : Prop := Claim7.holds Tryd.pinned (.plain (OpenSpec.ofChange vtparsePrintsSpec)) vtparsePrintsCard

/-- THE TIED CARD OF 'lanyardlaw05.VtparsePieces'. -/
def vtparsePiecesCard : Claim7 := { stood := { row := vtparsePiecesRow, standIns := [], harness := (true, "b5b48afdb3fdb6a07fbd79f85944063154c88585d94f4b8becb40059c63052cf"), looks := false }, kinds := [], alts := [], laidByText := true, laidKinds := [.data, .pinned], laidTests := true, laidLooks := .later }
def VtparsePiecesCardSaid : Prop := Claim7.holds Tryd.pinned (.plain (OpenSpec.ofChange vtparsePiecesSpec)) vtparsePiecesCard

/-- THE TIED CARD OF 'lanyardlaw05.VtparseAsks'. -/
def vtparseAsksCard : Claim7 := { stood := { row := vtparseAsksRow, standIns := [], harness := (true, "b5b48afdb3fdb6a07fbd79f85944063154c88585d94f4b8becb40059c63052cf"), looks := false }, kinds := [], alts := [], laidByText := true, laidKinds := [.data, .pinned], laidTests := true, laidLooks := .later }
def VtparseAsksCardSaid : Prop := Claim7.holds Tryd.pinned (.plain (OpenSpec.ofChange vtparseAsksSpec)) vtparseAsksCard

/-- THE TIED CARD OF 'lanyardlaw05.VtparseWrites'. -/
def vtparseWritesCard : Claim7 := { stood := { row := vtparseWritesRow, standIns := [], harness := (true, "b5b48afdb3fdb6a07fbd79f85944063154c88585d94f4b8becb40059c63052cf"), looks := false }, kinds := [], alts := [], laidByText := true, laidKinds := [.data, .data, .data, .data, .pinned], laidTests := true, laidLooks := .later }
def VtparseWritesCardSaid : Prop := Claim7.holds Tryd.pinned (.plain (OpenSpec.ofChange vtparseWritesSpec)) vtparseWritesCard

/-- THE SECOND FORM's CARD OF 'lanyardlaw05.VtparsePrints'. -/
def vtparsePrintsUptoCard : Claim7 := { stood := { row := vtparsePrintsUptoRow, standIns := [], harness := (true, "b5b48afdb3fdb6a07fbd79f85944063154c88585d94f4b8becb40059c63052cf"), looks := false }, kinds := [], alts := [], laidByText := true, laidKinds := [.data, .pinned], laidTests := true, laidLooks := .later }
def VtparsePrintsUptoCardSaid : Prop := Claim7.holds Tryd.pinned (.plain (OpenSpec.upto vtparsePrintsSpec)) vtparsePrintsUptoCard

/-- THE SECOND FORM's CARD OF 'lanyardlaw05.VtparsePieces'. -/
def vtparsePiecesUptoCard : Claim7 := { stood := { row := vtparsePiecesUptoRow, standIns := [], harness := (true, "b5b48afdb3fdb6a07fbd79f85944063154c88585d94f4b8becb40059c63052cf"), looks := false }, kinds := [], alts := [], laidByText := true, laidKinds := [.data, .pinned], laidTests := true, laidLooks := .later }
def VtparsePiecesUptoCardSaid : Prop := Claim7.holds Tryd.pinned (.plain (OpenSpec.upto vtparsePiecesSpec)) vtparsePiecesUptoCard

/-- THE SECOND FORM's CARD OF 'lanyardlaw05.VtparseAsks'. -/
def vtparseAsksUptoCard : Claim7 := { stood := { row := vtparseAsksUptoRow, standIns := [], harness := (true, "b5b48afdb3fdb6a07fbd79f85944063154c88585d94f4b8becb40059c63052cf"), looks := false }, kinds := [], alts := [], laidByText := true, laidKinds := [.data, .pinned], laidTests := true, laidLooks := .later }
def VtparseAsksUptoCardSaid : Prop := Claim7.holds Tryd.pinned (.plain (OpenSpec.upto vtparseAsksSpec)) vtparseAsksUptoCard

/-- THE SECOND FORM's CARD OF 'lanyardlaw05.VtparseWrites'. -/
def vtparseWritesUptoCard : Claim7 := { stood := { row := vtparseWritesUptoRow, standIns := [], harness := (true, "b5b48afdb3fdb6a07fbd79f85944063154c88585d94f4b8becb40059c63052cf"), looks := false }, kinds := [], alts := [], laidByText := true, laidKinds := [.data, .data, .data, .data, .pinned], laidTests := true, laidLooks := .later }
def VtparseWritesUptoCardSaid : Prop := Claim7.holds Tryd.pinned (.plain (OpenSpec.upto vtparseWritesSpec)) vtparseWritesUptoCard
end Rows
end Go.Proofs.YtnolkpknoljacaaDoor
