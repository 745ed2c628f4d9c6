/-
  No cell of these rows narrows 'for every input' (looked for: loops, veiled, ifaces, maps, wideKeys, modest, calm, conditions, laid).
  DERIVED. THE GIVEN ROWS OF THIS SEAT. 7 by the template 'for every input the law returns true; each argument reads behind the call as it read before'; 0 by the template 'total and deterministic' (their statements: YtiebhappinojmaaGreatTotals.lean).
  GIVEN WITH THE SEED: the statements are not yours to turn. If you find one false, say at which input.
  Laid BY PROGRAM, IN A SANDBOX (cutbox-rows.mjs): the forced cells as the released guide's own fill.sh prints them over the translation 5152af376372056f… (all of the seat's roots in one cut). By AI agents, Wed Nov 11 2026. No macro, syntax, notation, axiom, sorry.
-/
import Derived.Test.YtiebhappinojmaaGreatChecked
import GoSem.Claim
import GoSem.ClaimJoined
import GoSem.ClaimMapViews
import Derived.JoinedTies
import Derived.KernelRfl
namespace Go.Proofs.YtiebhappinojmaaGreat
/- THE CELL 'sum', in the pinned program and in every row, IS THE sha256 OF THE DUMP (.gsa) THAT YtiebhappinojmaaGreatProg.lean LOADS. Nothing in Lean hashes anything: it is a label: what it is worth is what the hold of that sum in a sandbox is worth. -/
noncomputable def Tryz.pinned : Pinned := { name := "ytiebhappinojmaagreat", sum := "5152af376372056f1982b415225cd9ec722848ca90856208aaacfe5561a4a47d", checked := Tryz.checked }
namespace Rows
def none {H : Type} : Left H := { results := [], args := [] }

/-- 'atticlaw10.TxnAtomic': WHATEVER THE INPUT: true; the input reads as it did. -/
def txnAtomicSpec : ChangeSpec := { name := "txnAtomic", fn := fun _ => fun
  | [d1, d2] => { results := [.lit (.bool true)], args := [d1, d2] }
  | _ => none }
def txnAtomicRow : OpenClaim := { program := "ytiebhappinojmaagreat", sum := "5152af376372056f1982b415225cd9ec722848ca90856208aaacfe5561a4a47d", func := "attic/atticlaw10.TxnAtomic", spec := "txnAtomic", unfollowed := true, recurses := true, apart := false }
def TxnAtomicSaid : Prop := txnAtomicRow.holds Tryz.pinned (OpenSpec.ofChange txnAtomicSpec)

/-- ITS FALSE NEIGHBOUR: 'it returns false'. Refute it at one input. -/
def txnAtomicWrong : ChangeSpec := { name := "txnAtomic", fn := fun _ => fun
  | [d1, d2] => { results := [.lit (.bool false)], args := [d1, d2] }
  | _ => none }
def TxnAtomicWrongFalsely : Prop := txnAtomicRow.holds Tryz.pinned (OpenSpec.ofChange txnAtomicWrong)

/-- 'atticlaw10.TxnRoom': WHATEVER THE INPUT: true; the input reads as it did. -/
def txnRoomSpec : ChangeSpec := { name := "txnRoom", fn := fun _ => fun
  | [d1, d2] => { results := [.lit (.bool true)], args := [d1, d2] }
  | _ => none }
def txnRoomRow : OpenClaim := { program := "ytiebhappinojmaagreat", sum := "5152af376372056f1982b415225cd9ec722848ca90856208aaacfe5561a4a47d", func := "attic/atticlaw10.TxnRoom", spec := "txnRoom", unfollowed := true, recurses := true, apart := false }
def TxnRoomSaid : Prop := txnRoomRow.holds Tryz.pinned (OpenSpec.ofChange txnRoomSpec)

/-- ITS FALSE NEIGHBOUR: 'it returns false'. Refute it at one input. -/
def txnRoomWrong : ChangeSpec := { name := "txnRoom", fn := fun _ => fun
  | [d1, d2] => { results := [.lit (.bool false)], args := [d1, d2] }
  | _ => none }
def TxnRoomWrongFalsely : Prop := txnRoomRow.holds Tryz.pinned (OpenSpec.ofChange txnRoomWrong)

/-- 'atticlaw10.TxnAgain': WHATEVER THE INPUT: true; the input reads as it did. -/
def txnAgainSpec : ChangeSpec := { name := "txnAgain", fn := fun _ => fun
  | [d1, d2, d3] => { results := [.lit (.bool true)], args := [d1, d2, d3] }
  | _ => none }
def txnAgainRow : OpenClaim := { program := "ytiebhappinojmaagreat", sum := "5152af376372056f1982b415225cd9ec722848ca90856208aaacfe5561a4a47d", func := "attic/atticlaw10.TxnAgain", spec := "txnAgain", unfollowed := true, recurses := true, apart := false }
def TxnAgainSaid : Prop := txnAgainRow.holds Tryz.pinned (OpenSpec.ofChange txnAgainSpec)

/-- ITS FALSE NEIGHBOUR: 'it returns false'. Refute it at one input. -/
def txnAgainWrong : ChangeSpec := { name := "txnAgain", fn := fun _ => fun
  | [d1, d2, d3] => { results := [.lit (.bool false)], args := [d1, d2, d3] }
  | _ => none }
def TxnAgainWrongFalsely : Prop := txnAgainRow.holds Tryz.pinned (OpenSpec.ofChange txnAgainWrong)

/-- 'atticlaw10.TxnNone': WHATEVER THE INPUT: true; the input reads as it did. -/
def txnNoneSpec : ChangeSpec := { name := "txnNone", fn := fun _ => fun
  | [d1, d2, d3, d4] => { results := [.lit (.bool true)], args := [d1, d2, d3, d4] }
  | _ => none }
def txnNoneRow : OpenClaim := { program := "ytiebhappinojmaagreat", sum := "5152af376372056f1982b415225cd9ec722848ca90856208aaacfe5561a4a47d", func := "attic/atticlaw10.TxnNone", spec := "txnNone", unfollowed := true, recurses := true, apart := false }
def TxnNoneSaid : Prop := txnNoneRow.holds Tryz.pinned (OpenSpec.ofChange txnNoneSpec)

/-- ITS FALSE NEIGHBOUR: 'it returns false'. Refute it at one input. -/
def txnNoneWrong : ChangeSpec := { name := "txnNone", fn := fun _ => fun
  | [d1, d2, d3, d4] => { results := [.lit (.bool false)], args := [d1, d2, d3, d4] }
  | _ => none }
def TxnNoneWrongFalsely : Prop := txnNoneRow.holds Tryz.pinned (OpenSpec.ofChange txnNoneWrong)

/-- 'atticlaw10.TxnFormats': WHATEVER THE INPUT: true; the input reads as it did. -/
def txnFormatsSpec : ChangeSpec := { name := "txnFormats", fn := fun _ => fun
  | [d1, d2, d3, d4] => { results := [.lit (.bool true)], args := [d1, d2, d3, d4] }
  | _ => none }
def txnFormatsRow : OpenClaim := { program := "ytiebhappinojmaagreat", sum := "5152af376372056f1982b415225cd9ec722848ca90856208aaacfe5561a4a47d", func := "attic/atticlaw10.TxnFormats", spec := "txnFormats", unfollowed := true, recurses := true, apart := false }
def TxnFormatsSaid : Prop := txnFormatsRow.holds Tryz.pinned (OpenSpec.ofChange txnFormatsSpec)

/-- ITS FALSE NEIGHBOUR: 'it returns false'. Refute it at one input. -/
def txnFormatsWrong : ChangeSpec := { name := "txnFormats", fn := fun _ => fun
  | [d1, d2, d3, d4] => { results := [.lit (.bool false)], args := [d1, d2, d3, d4] }
  | _ => none }
def TxnFormatsWrongFalsely : Prop := txnFormatsRow.holds Tryz.pinned (OpenSpec.ofChange txnFormatsWrong)

/-- 'atticlaw10.TxnOpens': WHATEVER THE INPUT: true; the input reads as it did. -/
def txnOpensSpec : ChangeSpec := { name := "txnOpens", fn := fun _ => fun
  | [d1, d2, d3] => { results := [.lit (.bool true)], args := [d1, d2, d3] }
  | _ => none }
def txnOpensRow : OpenClaim := { program := "ytiebhappinojmaagreat", sum := "5152af376372056f1982b415225cd9ec722848ca90856208aaacfe5561a4a47d", func := "attic/atticlaw10.TxnOpens", spec := "txnOpens", unfollowed := true, recurses := true, apart := false }
def TxnOpensSaid : Prop := txnOpensRow.holds Tryz.pinned (OpenSpec.ofChange txnOpensSpec)

/-- ITS FALSE NEIGHBOUR: 'it returns false'. Refute it at one input. -/
def txnOpensWrong : ChangeSpec := { name := "txnOpens", fn := fun _ => fun
  | [d1, d2, d3] => { results := [.lit (.bool false)], args := [d1, d2, d3] }
  | _ => none }
def TxnOpensWrongFalsely : Prop := txnOpensRow.holds Tryz.pinned (OpenSpec.ofChange txnOpensWrong)

/-- 'atticlaw10.TxnDoes': WHATEVER THE INPUT: true; the input reads as it did. -/
def txnDoesSpec : ChangeSpec := { name := "txnDoes", fn := fun _ => fun
  | [d1, d2] => { results := [.lit (.bool true)], args := [d1, d2] }
  | _ => none }
def txnDoesRow : OpenClaim := { program := "ytiebhappinojmaagreat", sum := "5152af376372056f1982b415225cd9ec722848ca90856208aaacfe5561a4a47d", func := "attic/atticlaw10.TxnDoes", spec := "txnDoes", unfollowed := true, recurses := true, apart := false }
def TxnDoesSaid : Prop := txnDoesRow.holds Tryz.pinned (OpenSpec.ofChange txnDoesSpec)

/-- ITS FALSE NEIGHBOUR: 'it returns false'. Refute it at one input. -/
def txnDoesWrong : ChangeSpec := { name := "txnDoes", fn := fun _ => fun
  | [d1, d2] => { results := [.lit (.bool false)], args := [d1, d2] }
  | _ => none }
def TxnDoesWrongFalsely : Prop := txnDoesRow.holds Tryz.pinned (OpenSpec.ofChange txnDoesWrong)

/- THE SECOND FORM. 'bulk': how many values and letters a reading holds, each counted each time it is reached (what is shared counts as often as it is met; a slice's spare places count too). A statement '..UptoSaid' is the law's where the arguments, and the package variables that the reading takes, are together of bulk at most 1048576: NARROWER than '..Said'. Prove '..Said' where nothing that the law and all that it calls make is longer than what came in: it says more and counts as full. Else prove '..UptoSaid'. A law counts once. -/
mutual
def uptoBulk {H : Type} : DataW H → Nat
  | .lit (.string bytes) => bytes.length + 1
  | .lit _ => 1
  | .nil => 1
  | .ptr d => uptoBulk d + 1
  | .slice elems spare => uptoBulkAll elems + uptoBulkAll spare + 1
  | .agg parts => uptoBulkAll parts + 1
  | .iface _ d => uptoBulk d + 1
  | .map entries => uptoBulkEntries entries + 1
  | .held _ => 1
def uptoBulkAll {H : Type} : List (DataW H) → Nat
  | [] => 0
  | d :: r => uptoBulk d + uptoBulkAll r
def uptoBulkEntries {H : Type} : List (Lit × DataW H) → Nat
  | [] => 0
  | x :: r => uptoBulkEntry x + uptoBulkEntries r
def uptoBulkEntry {H : Type} : Lit × DataW H → Nat
  | (.string bytes, d) => bytes.length + uptoBulk d + 1
  | (_, d) => uptoBulk d + 1
 end
def uptoSmall : (H : Type) → List (DataW H) → Bool := fun _ ds => decide (uptoBulkAll ds ≤ 1048576)
def OpenSpec.upto (s : _root_.Go.ChangeSpec) : _root_.Go.OpenSpec := { _root_.Go.OpenSpec.ofChange s with cond := some uptoSmall }

/-- 'atticlaw10.TxnAtomic', WHERE WHAT IT READS IS OF BULK AT MOST 1048576: true; the input reads as it did. -/
def txnAtomicUptoRow : OpenClaim := { program := "ytiebhappinojmaagreat", sum := "5152af376372056f1982b415225cd9ec722848ca90856208aaacfe5561a4a47d", func := "attic/atticlaw10.TxnAtomic", spec := "txnAtomic", unfollowed := true, recurses := true, apart := false, narrowed := true }
def TxnAtomicUptoSaid : Prop := txnAtomicUptoRow.holds Tryz.pinned (OpenSpec.upto txnAtomicSpec)

/-- 'atticlaw10.TxnRoom', WHERE WHAT IT READS IS OF BULK AT MOST 1048576: true; the input reads as it did. -/
def txnRoomUptoRow : OpenClaim := { program := "ytiebhappinojmaagreat", sum := "5152af376372056f1982b415225cd9ec722848ca90856208aaacfe5561a4a47d", func := "attic/atticlaw10.TxnRoom", spec := "txnRoom", unfollowed := true, recurses := true, apart := false, narrowed := true }
def TxnRoomUptoSaid : Prop := txnRoomUptoRow.holds Tryz.pinned (OpenSpec.upto txnRoomSpec)

/-- 'atticlaw10.TxnAgain', WHERE WHAT IT READS IS OF BULK AT MOST 1048576: true; the input reads as it did. -/
def txnAgainUptoRow : OpenClaim := { program := "ytiebhappinojmaagreat", sum := "5152af376372056f1982b415225cd9ec722848ca90856208aaacfe5561a4a47d", func := "attic/atticlaw10.TxnAgain", spec := "txnAgain", unfollowed := true, recurses := true, apart := false, narrowed := true }
def TxnAgainUptoSaid : Prop := txnAgainUptoRow.holds Tryz.pinned (OpenSpec.upto txnAgainSpec)

/-- 'atticlaw10.TxnNone', WHERE WHAT IT READS IS OF BULK AT MOST 1048576: true; the input reads as it did. -/
def txnNoneUptoRow : OpenClaim := { program := "ytiebhappinojmaagreat", sum := "5152af376372056f1982b415225cd9ec722848ca90856208aaacfe5561a4a47d", func := "attic/atticlaw10.TxnNone", spec := "txnNone", unfollowed := true, recurses := true, apart := false, narrowed := true }
def TxnNoneUptoSaid : Prop := txnNoneUptoRow.holds Tryz.pinned (OpenSpec.upto txnNoneSpec)

/-- 'atticlaw10.TxnFormats', WHERE WHAT IT READS IS OF BULK AT MOST 1048576: true; the input reads as it did. -/
def txnFormatsUptoRow : OpenClaim := { program := "ytiebhappinojmaagreat", sum := "5152af376372056f1982b415225cd9ec722848ca90856208aaacfe5561a4a47d", func := "attic/atticlaw10.TxnFormats", spec := "txnFormats", unfollowed := true, recurses := true, apart := false, narrowed := true }
def TxnFormatsUptoSaid : Prop := txnFormatsUptoRow.holds Tryz.pinned (OpenSpec.upto txnFormatsSpec)

/-- 'atticlaw10.TxnOpens', WHERE WHAT IT READS IS OF BULK AT MOST 1048576: true; the input reads as it did. -/
def txnOpensUptoRow : OpenClaim := { program := "ytiebhappinojmaagreat", sum := "5152af376372056f1982b415225cd9ec722848ca90856208aaacfe5561a4a47d", func := "attic/atticlaw10.TxnOpens", spec := "txnOpens", unfollowed := true, recurses := true, apart := false, narrowed := true }
def TxnOpensUptoSaid : Prop := txnOpensUptoRow.holds Tryz.pinned (OpenSpec.upto txnOpensSpec)

/-- 'atticlaw10.TxnDoes', WHERE WHAT IT READS IS OF BULK AT MOST 1048576: true; the input reads as it did. -/
def txnDoesUptoRow : OpenClaim := { program := "ytiebhappinojmaagreat", sum := "5152af376372056f1982b415225cd9ec722848ca90856208aaacfe5561a4a47d", func := "attic/atticlaw10.TxnDoes", spec := "txnDoes", unfollowed := true, recurses := true, apart := false, narrowed := true }
def TxnDoesUptoSaid : Prop := txnDoesUptoRow.holds Tryz.pinned (OpenSpec.upto txnDoesSpec)

end Rows
end Go.Proofs.YtiebhappinojmaaGreat
