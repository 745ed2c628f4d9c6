/-
  DERIVED. GIVEN WITH THE SEED: THE CARDS: each row of YthmdhggifeallaaDoorRows.lean that lists a variable, with what it lists TIED to the program's text (the seventh form; the later family's looks); each row that meets fmt, with fmt's text TOLD by the authors' own Lean function (tested against real Go, not proved from fmt's source: count such statements apart). THE CARD IS WHAT COUNTS. Prove the row's statement (the work); the ties are given (YthmdhggifeallaaDoorTie.lean); close each card by the builder's one call (the guide's Derived/Test/ToyasCard.lean, 'card_holds'). Laid BY PROGRAM, IN A SANDBOX (cutbox-door.mjs). By AI agents, Wed Nov 11 2026. No macro, syntax, notation, axiom, sorry.
-/
import Derived.Test.YthmdhggifeallaaDoorRows
import GoSem.ClaimSeven
namespace Go.Proofs.YthmdhggifeallaaDoor
namespace Rows

/-- THE TIED CARD OF 'atticlaw26.ArchiveOnce'. -/
def archiveOnceCard : Claim7 := { stood := { row := archiveOnceRow, standIns := [], harness := (true, "8c760e02058aba8661b2345eaf484a8e8d870a6b59a1b3b2db1249f03ea02a9b"), looks := true }, kinds := [], alts := [], laidByText := true, laidKinds := [.handle], laidTests := true, laidLooks := .later }
def ArchiveOnceCardSaid : Prop := Claim7.holds Tryd.pinned (.plain (OpenSpec.ofChange archiveOnceSpec)) archiveOnceCard

/-- THE SECOND FORM's CARD OF 'atticlaw26.ArchiveOnce'. -/
def archiveOnceUptoCard : Claim7 := { stood := { row := archiveOnceUptoRow, standIns := [], harness := (true, "8c760e02058aba8661b2345eaf484a8e8d870a6b59a1b3b2db1249f03ea02a9b"), looks := true }, kinds := [], alts := [], laidByText := true, laidKinds := [.handle], laidTests := true, laidLooks := .later }
def ArchiveOnceUptoCardSaid : Prop := Claim7.holds Tryd.pinned (.plain (OpenSpec.upto archiveOnceSpec)) archiveOnceUptoCard
end Rows
end Go.Proofs.YthmdhggifeallaaDoor
