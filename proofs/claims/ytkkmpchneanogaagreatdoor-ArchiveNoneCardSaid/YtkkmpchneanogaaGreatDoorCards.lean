/-
  DERIVED. GIVEN WITH THE SEED: THE CARDS: each row of YtkkmpchneanogaaGreatDoorRows.lean that lists a variable, with what it lists TIED to the program's text (the seventh form; the later family's looks); each row that meets fmt, with fmt's text TOLD by the authors' own Lean function (tested against real Go, not proved from fmt's source: count such statements apart). THE CARD IS WHAT COUNTS. Prove the row's statement (the work); the ties are given (YtkkmpchneanogaaGreatDoorTie.lean); close each card by the builder's one call (the guide's Derived/Test/ToyasCard.lean, 'card_holds'). Laid BY PROGRAM, IN A SANDBOX (cutbox-door.mjs). By AI agents, Wed Nov 11 2026. No macro, syntax, notation, axiom, sorry.
-/
import Derived.Test.YtkkmpchneanogaaGreatDoorRows
import GoSem.ClaimSeven
namespace Go.Proofs.YtkkmpchneanogaaGreatDoor
namespace Rows

/-- THE TIED CARD OF 'atticlaw26.ArchiveNone'. -/
def archiveNoneCard : Claim7 := { stood := { row := archiveNoneRow, standIns := [], harness := (true, "e6ccc098a1ce7e9a80b5324fe5bfc992bad46b58b9c87bfa6483e2b6534bd31c"), looks := true }, kinds := [], alts := [], laidByText := true, laidKinds := [.handle], laidTests := true, laidLooks := .later }
def ArchiveNoneCardSaid : Prop := Claim7.holds Tryz.pinned (.plain (OpenSpec.ofChange archiveNoneSpec)) archiveNoneCard

/-- THE SECOND FORM's CARD OF 'atticlaw26.ArchiveNone'. -/
def archiveNoneUptoCard : Claim7 := { stood := { row := archiveNoneUptoRow, standIns := [], harness := (true, "e6ccc098a1ce7e9a80b5324fe5bfc992bad46b58b9c87bfa6483e2b6534bd31c"), looks := true }, kinds := [], alts := [], laidByText := true, laidKinds := [.handle], laidTests := true, laidLooks := .later }
def ArchiveNoneUptoCardSaid : Prop := Claim7.holds Tryz.pinned (.plain (OpenSpec.upto archiveNoneSpec)) archiveNoneUptoCard
end Rows
end Go.Proofs.YtkkmpchneanogaaGreatDoor
