/-
  DERIVED. GIVEN WITH THE SEED: THE CARDS: each row of YtncghckcdhfhjaaGreatDoorRows.lean that lists a variable, with what it lists TIED to the program's text (the seventh form; the later family's looks); each row that meets fmt, with fmt's text TOLD by the authors' own Lean function (tested against real Go, not proved from fmt's source: count such statements apart). THE CARD IS WHAT COUNTS. Prove the row's statement (the work); the ties are given (YtncghckcdhfhjaaGreatDoorTie.lean); close each card by the builder's one call (the guide's Derived/Test/ToyasCard.lean, 'card_holds'). Laid BY PROGRAM, IN A SANDBOX (cutbox-door.mjs). By AI agents, Wed Nov 11 2026. No macro, syntax, notation, axiom, sorry.
-/
import Derived.Test.YtncghckcdhfhjaaGreatDoorRows
import GoSem.ClaimSeven
namespace Go.Proofs.YtncghckcdhfhjaaGreatDoor
namespace Rows

/-- THE TIED CARD OF 'sledgelaw19.ArchiveExtracts'. -/
def archiveExtractsCard : Claim7 := { stood := { row := archiveExtractsRow, standIns := [], harness := (true, "33ccf6e73f94fd549775ab155aab3d2388c365f8f345a6c9b7001d94558d4911"), looks := false }, kinds := [], alts := [], laidByText := true, laidKinds := [.data, .pinned], laidTests := true, laidLooks := .later }
def ArchiveExtractsCardSaid : Prop := Claim7.holds Tryz.pinned (.plain (OpenSpec.ofChange archiveExtractsSpec)) archiveExtractsCard

/-- THE TIED CARD OF 'sledgelaw19.ArchiveSame'. -/
def archiveSameCard : Claim7 := { stood := { row := archiveSameRow, standIns := [], harness := (true, "33ccf6e73f94fd549775ab155aab3d2388c365f8f345a6c9b7001d94558d4911"), looks := false }, kinds := [], alts := [], laidByText := true, laidKinds := [.data, .pinned], laidTests := true, laidLooks := .later }
def ArchiveSameCardSaid : Prop := Claim7.holds Tryz.pinned (.plain (OpenSpec.ofChange archiveSameSpec)) archiveSameCard

/-- THE TIED CARD OF 'sledgelaw19.ArchiveBytes'. -/
def archiveBytesCard : Claim7 := { stood := { row := archiveBytesRow, standIns := [], harness := (true, "33ccf6e73f94fd549775ab155aab3d2388c365f8f345a6c9b7001d94558d4911"), looks := false }, kinds := [], alts := [], laidByText := true, laidKinds := [.data, .pinned], laidTests := true, laidLooks := .later }
def ArchiveBytesCardSaid : Prop := Claim7.holds Tryz.pinned (.plain (OpenSpec.ofChange archiveBytesSpec)) archiveBytesCard

/-- THE TIED CARD OF 'sledgelaw19.ArchiveTurned'. -/
def archiveTurnedCard : Claim7 := { stood := { row := archiveTurnedRow, standIns := [], harness := (true, "33ccf6e73f94fd549775ab155aab3d2388c365f8f345a6c9b7001d94558d4911"), looks := false }, kinds := [], alts := [], laidByText := true, laidKinds := [.data, .pinned], laidTests := true, laidLooks := .later }
def ArchiveTurnedCardSaid : Prop := Claim7.holds Tryz.pinned (.plain (OpenSpec.ofChange archiveTurnedSpec)) archiveTurnedCard

/-- THE SECOND FORM's CARD OF 'sledgelaw19.ArchiveExtracts'. -/
def archiveExtractsUptoCard : Claim7 := { stood := { row := archiveExtractsUptoRow, standIns := [], harness := (true, "33ccf6e73f94fd549775ab155aab3d2388c365f8f345a6c9b7001d94558d4911"), looks := false }, kinds := [], alts := [], laidByText := true, laidKinds := [.data, .pinned], laidTests := true, laidLooks := .later }
def ArchiveExtractsUptoCardSaid : Prop := Claim7.holds Tryz.pinned (.plain (OpenSpec.upto archiveExtractsSpec)) archiveExtractsUptoCard

/-- THE SECOND FORM's CARD OF 'sledgelaw19.ArchiveSame'. -/
def archiveSameUptoCard : Claim7 := { stood := { row := archiveSameUptoRow, standIns := [], harness := (true, "33ccf6e73f94fd549775ab155aab3d2388c365f8f345a6c9b7001d94558d4911"), looks := false }, kinds := [], alts := [], laidByText := true, laidKinds := [.data, .pinned], laidTests := true, laidLooks := .later }
def ArchiveSameUptoCardSaid : Prop := Claim7.holds Tryz.pinned (.plain (OpenSpec.upto archiveSameSpec)) archiveSameUptoCard

/-- THE SECOND FORM's CARD OF 'sledgelaw19.ArchiveBytes'. -/
def archiveBytesUptoCard : Claim7 := { stood := { row := archiveBytesUptoRow, standIns := [], harness := (true, "33ccf6e73f94fd549775ab155aab3d2388c365f8f345a6c9b7001d94558d4911"), looks := false }, kinds := [], alts := [], laidByText := true, laidKinds := [.data, .pinned], laidTests := true, laidLooks := .later }
def ArchiveBytesUptoCardSaid : Prop := Claim7.holds Tryz.pinned (.plain (OpenSpec.upto archiveBytesSpec)) archiveBytesUptoCard

/-- THE SECOND FORM's CARD OF 'sledgelaw19.ArchiveTurned'. -/
def archiveTurnedUptoCard : Claim7 := { stood := { row := archiveTurnedUptoRow, standIns := [], harness := (true, "33ccf6e73f94fd549775ab155aab3d2388c365f8f345a6c9b7001d94558d4911"), looks := false }, kinds := [], alts := [], laidByText := true, laidKinds := [.data, .pinned], laidTests := true, laidLooks := .later }
def ArchiveTurnedUptoCardSaid : Prop := Claim7.holds Tryz.pinned (.plain (OpenSpec.upto archiveTurnedSpec)) archiveTurnedUptoCard
end Rows
end Go.Proofs.YtncghckcdhfhjaaGreatDoor
