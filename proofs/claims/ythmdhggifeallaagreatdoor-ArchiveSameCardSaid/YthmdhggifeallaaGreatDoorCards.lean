/-
  DERIVED. GIVEN WITH THE SEED: THE CARDS: each row of YthmdhggifeallaaGreatDoorRows.lean that lists a variable, with what it lists TIED to the program's text (the seventh form; the later family's looks); each row that meets fmt, with fmt's text TOLD by the authors' own Lean function (tested against real Go, not proved from fmt's source: count such statements apart). THE CARD IS WHAT COUNTS. Prove the row's statement (the work); the ties are given (YthmdhggifeallaaGreatDoorTie.lean); close each card by the builder's one call (the guide's Derived/Test/ToyasCard.lean, 'card_holds'). Laid BY PROGRAM, IN A SANDBOX (cutbox-door.mjs). By AI agents, Wed Nov 11 2026. No macro, syntax, notation, axiom, sorry.
-/
import Derived.Test.YthmdhggifeallaaGreatDoorRows
import GoSem.ClaimSeven
namespace Go.Proofs.YthmdhggifeallaaGreatDoor
namespace Rows

/-- THE TIED CARD OF 'atticlaw26.ArchivePacks'. -/
def archivePacksCard : Claim7 := { stood := { row := archivePacksRow, standIns := [], harness := (true, "e4fc439714039ce54df6c1e7b35f539b848e0d7e1e9ace2ed81fdc7f3a554f03"), looks := true }, kinds := [], alts := [], laidByText := true, laidKinds := [.handle], laidTests := true, laidLooks := .later }
def ArchivePacksCardSaid : Prop := Claim7.holds Tryz.pinned (.plain (OpenSpec.ofChange archivePacksSpec)) archivePacksCard

/-- THE TIED CARD OF 'atticlaw26.ArchiveUnpacks'. -/
def archiveUnpacksCard : Claim7 := { stood := { row := archiveUnpacksRow, standIns := [], harness := (true, "e4fc439714039ce54df6c1e7b35f539b848e0d7e1e9ace2ed81fdc7f3a554f03"), looks := true }, kinds := [], alts := [], laidByText := true, laidKinds := [.handle], laidTests := true, laidLooks := .later }
def ArchiveUnpacksCardSaid : Prop := Claim7.holds Tryz.pinned (.plain (OpenSpec.ofChange archiveUnpacksSpec)) archiveUnpacksCard

/-- THE TIED CARD OF 'atticlaw26.ArchiveBack'. -/
def archiveBackCard : Claim7 := { stood := { row := archiveBackRow, standIns := [], harness := (true, "e4fc439714039ce54df6c1e7b35f539b848e0d7e1e9ace2ed81fdc7f3a554f03"), looks := true }, kinds := [], alts := [], laidByText := true, laidKinds := [.handle], laidTests := true, laidLooks := .later }
def ArchiveBackCardSaid : Prop := Claim7.holds Tryz.pinned (.plain (OpenSpec.ofChange archiveBackSpec)) archiveBackCard

/-- THE TIED CARD OF 'atticlaw26.ArchiveSame'. -/
def archiveSameCard : Claim7 := { stood := { row := archiveSameRow, standIns := [], harness := (true, "e4fc439714039ce54df6c1e7b35f539b848e0d7e1e9ace2ed81fdc7f3a554f03"), looks := true }, kinds := [], alts := [], laidByText := true, laidKinds := [.handle], laidTests := true, laidLooks := .later }
def ArchiveSameCardSaid : Prop := Claim7.holds Tryz.pinned (.plain (OpenSpec.ofChange archiveSameSpec)) archiveSameCard

/-- THE SECOND FORM's CARD OF 'atticlaw26.ArchivePacks'. -/
def archivePacksUptoCard : Claim7 := { stood := { row := archivePacksUptoRow, standIns := [], harness := (true, "e4fc439714039ce54df6c1e7b35f539b848e0d7e1e9ace2ed81fdc7f3a554f03"), looks := true }, kinds := [], alts := [], laidByText := true, laidKinds := [.handle], laidTests := true, laidLooks := .later }
def ArchivePacksUptoCardSaid : Prop := Claim7.holds Tryz.pinned (.plain (OpenSpec.upto archivePacksSpec)) archivePacksUptoCard

/-- THE SECOND FORM's CARD OF 'atticlaw26.ArchiveUnpacks'. -/
def archiveUnpacksUptoCard : Claim7 := { stood := { row := archiveUnpacksUptoRow, standIns := [], harness := (true, "e4fc439714039ce54df6c1e7b35f539b848e0d7e1e9ace2ed81fdc7f3a554f03"), looks := true }, kinds := [], alts := [], laidByText := true, laidKinds := [.handle], laidTests := true, laidLooks := .later }
def ArchiveUnpacksUptoCardSaid : Prop := Claim7.holds Tryz.pinned (.plain (OpenSpec.upto archiveUnpacksSpec)) archiveUnpacksUptoCard

/-- THE SECOND FORM's CARD OF 'atticlaw26.ArchiveBack'. -/
def archiveBackUptoCard : Claim7 := { stood := { row := archiveBackUptoRow, standIns := [], harness := (true, "e4fc439714039ce54df6c1e7b35f539b848e0d7e1e9ace2ed81fdc7f3a554f03"), looks := true }, kinds := [], alts := [], laidByText := true, laidKinds := [.handle], laidTests := true, laidLooks := .later }
def ArchiveBackUptoCardSaid : Prop := Claim7.holds Tryz.pinned (.plain (OpenSpec.upto archiveBackSpec)) archiveBackUptoCard

/-- THE SECOND FORM's CARD OF 'atticlaw26.ArchiveSame'. -/
def archiveSameUptoCard : Claim7 := { stood := { row := archiveSameUptoRow, standIns := [], harness := (true, "e4fc439714039ce54df6c1e7b35f539b848e0d7e1e9ace2ed81fdc7f3a554f03"), looks := true }, kinds := [], alts := [], laidByText := true, laidKinds := [.handle], laidTests := true, laidLooks := .later }
def ArchiveSameUptoCardSaid : Prop := Claim7.holds Tryz.pinned (.plain (OpenSpec.upto archiveSameSpec)) archiveSameUptoCard
end Rows
end Go.Proofs.YthmdhggifeallaaGreatDoor
