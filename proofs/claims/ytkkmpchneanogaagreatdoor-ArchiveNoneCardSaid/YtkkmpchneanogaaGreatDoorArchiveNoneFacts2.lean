/- More facts of the program and of the row, each by itself. -/
import Derived.Test.YtkkmpchneanogaaGreatDoorRows
import Derived.WalkKit
import Derived.ProofKit
import Derived.OpenShut
import Derived.ShutString
import Derived.ChangeOld
import Derived.Below
import Derived.LaidLaws
import Derived.LaidHandle
import Derived.SevenTiedAt
namespace Go.Proofs.YtkkmpchneanogaaGreatDoor.archiveNone
open Go.ChangeShapes Go.WideShapes Go.ChangeAt Go.RowKit Go.Proofs
set_option maxRecDepth 100000 in
theorem wfT : Rows.archiveNoneRow.wfByText (OpenSpec.ofChange Rows.archiveNoneSpec) = true := by kernel_rfl
set_option maxRecDepth 100000 in
theorem mainT : Tryz.prog.mainIs = some (true, ("e6ccc098a1ce7e9a80b5324fe5bfc992bad46b58b9c87bfa6483e2b6534bd31c" : String).toList) := by kernel_rfl
set_option maxRecDepth 100000 in
theorem looksT : true = Tryz.prog.looks [] := by kernel_rfl
set_option maxRecDepth 100000 in
theorem goesT : false = Rows.archiveNoneRow.goesBy Tryz.prog := by kernel_rfl
set_option maxRecDepth 100000 in
theorem standT22 : Tryz.prog.wantsStandIn 22 = false := by kernel_rfl
end Go.Proofs.YtkkmpchneanogaaGreatDoor.archiveNone
