/-
  No cell of these rows narrows 'for every input' (looked for: loops, veiled, ifaces, maps, wideKeys, modest, calm, conditions, laid).
  DERIVED. THE GIVEN ROWS OF THIS SEAT. 10 by the template 'for every input the law returns true; each argument reads behind the call as it read before'; 0 by the template 'total and deterministic' (their statements: YtlenkeefncbmcaaTotals.lean).
  GIVEN WITH THE SEED: the statements are not yours to turn. If you find one false, say at which input.
  Laid BY PROGRAM, IN A SANDBOX (cutbox-rows.mjs): the forced cells as the released guide's own fill.sh prints them over the translation e2036ad65b54b883… (all of the seat's roots in one cut). By AI agents, Wed Nov 11 2026. No macro, syntax, notation, axiom, sorry.
-/
import Derived.Test.YtlenkeefncbmcaaChecked
import GoSem.Claim
import GoSem.ClaimJoined
import GoSem.ClaimMapViews
import Derived.JoinedTies
import Derived.KernelRfl
namespace Go.Proofs.Ytlenkeefncbmcaa
/- THE CELL 'sum', in the pinned program and in every row, IS THE sha256 OF THE DUMP (.gsa) THAT YtlenkeefncbmcaaProg.lean LOADS. Nothing in Lean hashes anything: it is a label: what it is worth is what the hold of that sum in a sandbox is worth. -/
noncomputable def Try.pinned : Pinned := { name := "ytlenkeefncbmcaa", sum := "e2036ad65b54b88313e3c4cf7339577a19f2315c1ba282729c642615bbe27dae", checked := Try.checked }
namespace Rows
def none {H : Type} : Left H := { results := [], args := [] }

/-- 'atticlaw08.ReplayRedoes': WHATEVER THE INPUT: true; the input reads as it did. -/
def replayRedoesSpec : ChangeSpec := { name := "replayRedoes", fn := fun _ => fun
  | [d1, d2, d3] => { results := [.lit (.bool true)], args := [d1, d2, d3] }
  | _ => none }
def replayRedoesRow : OpenClaim := { program := "ytlenkeefncbmcaa", sum := "e2036ad65b54b88313e3c4cf7339577a19f2315c1ba282729c642615bbe27dae", func := "attic/atticlaw08.ReplayRedoes", spec := "replayRedoes", unfollowed := true, recurses := true, apart := false }
def ReplayRedoesSaid : Prop := replayRedoesRow.holds Try.pinned (OpenSpec.ofChange replayRedoesSpec)

/-- ITS FALSE NEIGHBOUR: 'it returns false'. Refute it at one input. -/
def replayRedoesWrong : ChangeSpec := { name := "replayRedoes", fn := fun _ => fun
  | [d1, d2, d3] => { results := [.lit (.bool false)], args := [d1, d2, d3] }
  | _ => none }
def ReplayRedoesWrongFalsely : Prop := replayRedoesRow.holds Try.pinned (OpenSpec.ofChange replayRedoesWrong)

/-- 'atticlaw08.ReplayCuts': WHATEVER THE INPUT: true; the input reads as it did. -/
def replayCutsSpec : ChangeSpec := { name := "replayCuts", fn := fun _ => fun
  | [d1, d2, d3] => { results := [.lit (.bool true)], args := [d1, d2, d3] }
  | _ => none }
def replayCutsRow : OpenClaim := { program := "ytlenkeefncbmcaa", sum := "e2036ad65b54b88313e3c4cf7339577a19f2315c1ba282729c642615bbe27dae", func := "attic/atticlaw08.ReplayCuts", spec := "replayCuts", unfollowed := true, recurses := true, apart := false }
def ReplayCutsSaid : Prop := replayCutsRow.holds Try.pinned (OpenSpec.ofChange replayCutsSpec)

/-- ITS FALSE NEIGHBOUR: 'it returns false'. Refute it at one input. -/
def replayCutsWrong : ChangeSpec := { name := "replayCuts", fn := fun _ => fun
  | [d1, d2, d3] => { results := [.lit (.bool false)], args := [d1, d2, d3] }
  | _ => none }
def ReplayCutsWrongFalsely : Prop := replayCutsRow.holds Try.pinned (OpenSpec.ofChange replayCutsWrong)

/-- 'atticlaw08.ReplayBack': WHATEVER THE INPUT: true; the input reads as it did. -/
def replayBackSpec : ChangeSpec := { name := "replayBack", fn := fun _ => fun
  | [d1, d2, d3, d4] => { results := [.lit (.bool true)], args := [d1, d2, d3, d4] }
  | _ => none }
def replayBackRow : OpenClaim := { program := "ytlenkeefncbmcaa", sum := "e2036ad65b54b88313e3c4cf7339577a19f2315c1ba282729c642615bbe27dae", func := "attic/atticlaw08.ReplayBack", spec := "replayBack", unfollowed := true, recurses := true, apart := false }
def ReplayBackSaid : Prop := replayBackRow.holds Try.pinned (OpenSpec.ofChange replayBackSpec)

/-- ITS FALSE NEIGHBOUR: 'it returns false'. Refute it at one input. -/
def replayBackWrong : ChangeSpec := { name := "replayBack", fn := fun _ => fun
  | [d1, d2, d3, d4] => { results := [.lit (.bool false)], args := [d1, d2, d3, d4] }
  | _ => none }
def ReplayBackWrongFalsely : Prop := replayBackRow.holds Try.pinned (OpenSpec.ofChange replayBackWrong)

/-- 'atticlaw08.ReplayBegins': WHATEVER THE INPUT: true; the input reads as it did. -/
def replayBeginsSpec : ChangeSpec := { name := "replayBegins", fn := fun _ => fun
  | [d1, d2] => { results := [.lit (.bool true)], args := [d1, d2] }
  | _ => none }
def replayBeginsRow : OpenClaim := { program := "ytlenkeefncbmcaa", sum := "e2036ad65b54b88313e3c4cf7339577a19f2315c1ba282729c642615bbe27dae", func := "attic/atticlaw08.ReplayBegins", spec := "replayBegins", unfollowed := true, recurses := true, apart := false }
def ReplayBeginsSaid : Prop := replayBeginsRow.holds Try.pinned (OpenSpec.ofChange replayBeginsSpec)

/-- ITS FALSE NEIGHBOUR: 'it returns false'. Refute it at one input. -/
def replayBeginsWrong : ChangeSpec := { name := "replayBegins", fn := fun _ => fun
  | [d1, d2] => { results := [.lit (.bool false)], args := [d1, d2] }
  | _ => none }
def ReplayBeginsWrongFalsely : Prop := replayBeginsRow.holds Try.pinned (OpenSpec.ofChange replayBeginsWrong)

/-- 'atticlaw08.ReplayCommits': WHATEVER THE INPUT: true; the input reads as it did. -/
def replayCommitsSpec : ChangeSpec := { name := "replayCommits", fn := fun _ => fun
  | [d1, d2] => { results := [.lit (.bool true)], args := [d1, d2] }
  | _ => none }
def replayCommitsRow : OpenClaim := { program := "ytlenkeefncbmcaa", sum := "e2036ad65b54b88313e3c4cf7339577a19f2315c1ba282729c642615bbe27dae", func := "attic/atticlaw08.ReplayCommits", spec := "replayCommits", unfollowed := true, recurses := true, apart := false }
def ReplayCommitsSaid : Prop := replayCommitsRow.holds Try.pinned (OpenSpec.ofChange replayCommitsSpec)

/-- ITS FALSE NEIGHBOUR: 'it returns false'. Refute it at one input. -/
def replayCommitsWrong : ChangeSpec := { name := "replayCommits", fn := fun _ => fun
  | [d1, d2] => { results := [.lit (.bool false)], args := [d1, d2] }
  | _ => none }
def ReplayCommitsWrongFalsely : Prop := replayCommitsRow.holds Try.pinned (OpenSpec.ofChange replayCommitsWrong)

/-- 'atticlaw09.CacheStays': WHATEVER THE INPUT: true; the input reads as it did. -/
def cacheStaysSpec : ChangeSpec := { name := "cacheStays", fn := fun _ => fun
  | [d1, d2] => { results := [.lit (.bool true)], args := [d1, d2] }
  | _ => none }
def cacheStaysRow : OpenClaim := { program := "ytlenkeefncbmcaa", sum := "e2036ad65b54b88313e3c4cf7339577a19f2315c1ba282729c642615bbe27dae", func := "attic/atticlaw09.CacheStays", spec := "cacheStays", unfollowed := true, recurses := true, apart := false }
def CacheStaysSaid : Prop := cacheStaysRow.holds Try.pinned (OpenSpec.ofChange cacheStaysSpec)

/-- ITS FALSE NEIGHBOUR: 'it returns false'. Refute it at one input. -/
def cacheStaysWrong : ChangeSpec := { name := "cacheStays", fn := fun _ => fun
  | [d1, d2] => { results := [.lit (.bool false)], args := [d1, d2] }
  | _ => none }
def CacheStaysWrongFalsely : Prop := cacheStaysRow.holds Try.pinned (OpenSpec.ofChange cacheStaysWrong)

/-- 'atticlaw08.ReplayTwice': WHATEVER THE INPUT: true; the input reads as it did. -/
def replayTwiceSpec : ChangeSpec := { name := "replayTwice", fn := fun _ => fun
  | [d1, d2, d3, d4] => { results := [.lit (.bool true)], args := [d1, d2, d3, d4] }
  | _ => none }
def replayTwiceRow : OpenClaim := { program := "ytlenkeefncbmcaa", sum := "e2036ad65b54b88313e3c4cf7339577a19f2315c1ba282729c642615bbe27dae", func := "attic/atticlaw08.ReplayTwice", spec := "replayTwice", unfollowed := true, recurses := true, apart := false }
def ReplayTwiceSaid : Prop := replayTwiceRow.holds Try.pinned (OpenSpec.ofChange replayTwiceSpec)

/-- ITS FALSE NEIGHBOUR: 'it returns false'. Refute it at one input. -/
def replayTwiceWrong : ChangeSpec := { name := "replayTwice", fn := fun _ => fun
  | [d1, d2, d3, d4] => { results := [.lit (.bool false)], args := [d1, d2, d3, d4] }
  | _ => none }
def ReplayTwiceWrongFalsely : Prop := replayTwiceRow.holds Try.pinned (OpenSpec.ofChange replayTwiceWrong)

/-- 'atticlaw09.CacheIs': WHATEVER THE INPUT: true; the input reads as it did. -/
def cacheIsSpec : ChangeSpec := { name := "cacheIs", fn := fun _ => fun
  | [d1, d2] => { results := [.lit (.bool true)], args := [d1, d2] }
  | _ => none }
def cacheIsRow : OpenClaim := { program := "ytlenkeefncbmcaa", sum := "e2036ad65b54b88313e3c4cf7339577a19f2315c1ba282729c642615bbe27dae", func := "attic/atticlaw09.CacheIs", spec := "cacheIs", unfollowed := true, recurses := true, apart := false }
def CacheIsSaid : Prop := cacheIsRow.holds Try.pinned (OpenSpec.ofChange cacheIsSpec)

/-- ITS FALSE NEIGHBOUR: 'it returns false'. Refute it at one input. -/
def cacheIsWrong : ChangeSpec := { name := "cacheIs", fn := fun _ => fun
  | [d1, d2] => { results := [.lit (.bool false)], args := [d1, d2] }
  | _ => none }
def CacheIsWrongFalsely : Prop := cacheIsRow.holds Try.pinned (OpenSpec.ofChange cacheIsWrong)

/-- 'atticlaw09.CacheNone': WHATEVER THE INPUT: true; the input reads as it did. -/
def cacheNoneSpec : ChangeSpec := { name := "cacheNone", fn := fun _ => fun
  | [d1, d2] => { results := [.lit (.bool true)], args := [d1, d2] }
  | _ => none }
def cacheNoneRow : OpenClaim := { program := "ytlenkeefncbmcaa", sum := "e2036ad65b54b88313e3c4cf7339577a19f2315c1ba282729c642615bbe27dae", func := "attic/atticlaw09.CacheNone", spec := "cacheNone", unfollowed := true, recurses := true, apart := false }
def CacheNoneSaid : Prop := cacheNoneRow.holds Try.pinned (OpenSpec.ofChange cacheNoneSpec)

/-- ITS FALSE NEIGHBOUR: 'it returns false'. Refute it at one input. -/
def cacheNoneWrong : ChangeSpec := { name := "cacheNone", fn := fun _ => fun
  | [d1, d2] => { results := [.lit (.bool false)], args := [d1, d2] }
  | _ => none }
def CacheNoneWrongFalsely : Prop := cacheNoneRow.holds Try.pinned (OpenSpec.ofChange cacheNoneWrong)

/-- 'atticlaw09.CacheDoes': WHATEVER THE INPUT: true; the input reads as it did. -/
def cacheDoesSpec : ChangeSpec := { name := "cacheDoes", fn := fun _ => fun
  | [d1, d2] => { results := [.lit (.bool true)], args := [d1, d2] }
  | _ => none }
def cacheDoesRow : OpenClaim := { program := "ytlenkeefncbmcaa", sum := "e2036ad65b54b88313e3c4cf7339577a19f2315c1ba282729c642615bbe27dae", func := "attic/atticlaw09.CacheDoes", spec := "cacheDoes", unfollowed := true, recurses := true, apart := false }
def CacheDoesSaid : Prop := cacheDoesRow.holds Try.pinned (OpenSpec.ofChange cacheDoesSpec)

/-- ITS FALSE NEIGHBOUR: 'it returns false'. Refute it at one input. -/
def cacheDoesWrong : ChangeSpec := { name := "cacheDoes", fn := fun _ => fun
  | [d1, d2] => { results := [.lit (.bool false)], args := [d1, d2] }
  | _ => none }
def CacheDoesWrongFalsely : Prop := cacheDoesRow.holds Try.pinned (OpenSpec.ofChange cacheDoesWrong)

/- THE SECOND FORM. 'bulk': how many values and letters a reading holds, each counted each time it is reached (what is shared counts as often as it is met; a slice's spare places count too). A statement '..UptoSaid' is the law's where the arguments, and the package variables that the reading takes, are together of bulk at most 1048576: NARROWER than '..Said'. Prove '..Said' where nothing that the law and all that it calls make is longer than what came in: it says more and counts as full. Else prove '..UptoSaid'. A law counts once. -/
mutual
def uptoBulk {H : Type} : DataW H → Nat
  | .lit (.string bytes) => bytes.length + 1
  | .lit _ => 1
  | .nil => 1
  | .ptr d => uptoBulk d + 1
  | .slice elems spare => uptoBulkAll elems + uptoBulkAll spare + 1
  | .agg parts => uptoBulkAll parts + 1
  | .iface _ d => uptoBulk d + 1
  | .map entries => uptoBulkEntries entries + 1
  | .held _ => 1
def uptoBulkAll {H : Type} : List (DataW H) → Nat
  | [] => 0
  | d :: r => uptoBulk d + uptoBulkAll r
def uptoBulkEntries {H : Type} : List (Lit × DataW H) → Nat
  | [] => 0
  | x :: r => uptoBulkEntry x + uptoBulkEntries r
def uptoBulkEntry {H : Type} : Lit × DataW H → Nat
  | (.string bytes, d) => bytes.length + uptoBulk d + 1
  | (_, d) => uptoBulk d + 1
 end
def uptoSmall : (H : Type) → List (DataW H) → Bool := fun _ ds => decide (uptoBulkAll ds ≤ 1048576)
def OpenSpec.upto (s : _root_.Go.ChangeSpec) : _root_.Go.OpenSpec := { _root_.Go.OpenSpec.ofChange s with cond := some uptoSmall }

/-- 'atticlaw08.ReplayRedoes', WHERE WHAT IT READS IS OF BULK AT MOST 1048576: true; the input reads as it did. -/
def replayRedoesUptoRow : OpenClaim := { program := "ytlenkeefncbmcaa", sum := "e2036ad65b54b88313e3c4cf7339577a19f2315c1ba282729c642615bbe27dae", func := "attic/atticlaw08.ReplayRedoes", spec := "replayRedoes", unfollowed := true, recurses := true, apart := false, narrowed := true }
def ReplayRedoesUptoSaid : Prop := replayRedoesUptoRow.holds Try.pinned (OpenSpec.upto replayRedoesSpec)

/-- 'atticlaw08.ReplayCuts', WHERE WHAT IT READS IS OF BULK AT MOST 1048576: true; the input reads as it did. -/
def replayCutsUptoRow : OpenClaim := { program := "ytlenkeefncbmcaa", sum := "e2036ad65b54b88313e3c4cf7339577a19f2315c1ba282729c642615bbe27dae", func := "attic/atticlaw08.ReplayCuts", spec := "replayCuts", unfollowed := true, recurses := true, apart := false, narrowed := true }
def ReplayCutsUptoSaid : Prop := replayCutsUptoRow.holds Try.pinned (OpenSpec.upto replayCutsSpec)

/-- 'atticlaw08.ReplayBack', WHERE WHAT IT READS IS OF BULK AT MOST 1048576: true; the input reads as it did. -/
def replayBackUptoRow : OpenClaim := { program := "ytlenkeefncbmcaa", sum := "e2036ad65b54b88313e3c4cf7339577a19f2315c1ba282729c642615bbe27dae", func := "attic/atticlaw08.ReplayBack", spec := "replayBack", unfollowed := true, recurses := true, apart := false, narrowed := true }
def ReplayBackUptoSaid : Prop := replayBackUptoRow.holds Try.pinned (OpenSpec.upto replayBackSpec)

/-- 'atticlaw08.ReplayBegins', WHERE WHAT IT READS IS OF BULK AT MOST 1048576: true; the input reads as it did. -/
def replayBeginsUptoRow : OpenClaim := { program := "ytlenkeefncbmcaa", sum := "e2036ad65b54b88313e3c4cf7339577a19f2315c1ba282729c642615bbe27dae", func := "attic/atticlaw08.ReplayBegins", spec := "replayBegins", unfollowed := true, recurses := true, apart := false, narrowed := true }
def ReplayBeginsUptoSaid : Prop := replayBeginsUptoRow.holds Try.pinned (OpenSpec.upto replayBeginsSpec)

/-- 'atticlaw08.ReplayCommits', WHERE WHAT IT READS IS OF BULK AT MOST 1048576: true; the input reads as it did. -/
def replayCommitsUptoRow : OpenClaim := { program := "ytlenkeefncbmcaa", sum := "e2036ad65b54b88313e3c4cf7339577a19f2315c1ba282729c642615bbe27dae", func := "attic/atticlaw08.ReplayCommits", spec := "replayCommits", unfollowed := true, recurses := true, apart := false, narrowed := true }
def ReplayCommitsUptoSaid : Prop := replayCommitsUptoRow.holds Try.pinned (OpenSpec.upto replayCommitsSpec)

/-- 'atticlaw09.CacheStays', WHERE WHAT IT READS IS OF BULK AT MOST 1048576: true; the input reads as it did. -/
def cacheStaysUptoRow : OpenClaim := { program := "ytlenkeefncbmcaa", sum := "e2036ad65b54b88313e3c4cf7339577a19f2315c1ba282729c642615bbe27dae", func := "attic/atticlaw09.CacheStays", spec := "cacheStays", unfollowed := true, recurses := true, apart := false, narrowed := true }
def CacheStaysUptoSaid : Prop := cacheStaysUptoRow.holds Try.pinned (OpenSpec.upto cacheStaysSpec)

/-- 'atticlaw08.ReplayTwice', WHERE WHAT IT READS IS OF BULK AT MOST 1048576: true; the input reads as it did. -/
def replayTwiceUptoRow : OpenClaim := { program := "ytlenkeefncbmcaa", sum := "e2036ad65b54b88313e3c4cf7339577a19f2315c1ba282729c642615bbe27dae", func := "attic/atticlaw08.ReplayTwice", spec := "replayTwice", unfollowed := true, recurses := true, apart := false, narrowed := true }
def ReplayTwiceUptoSaid : Prop := replayTwiceUptoRow.holds Try.pinned (OpenSpec.upto replayTwiceSpec)

/-- 'atticlaw09.CacheIs', WHERE WHAT IT READS IS OF BULK AT MOST 1048576: true; the input reads as it did. -/
def cacheIsUptoRow : OpenClaim := { program := "ytlenkeefncbmcaa", sum := "e2036ad65b54b88313e3c4cf7339577a19f2315c1ba282729c642615bbe27dae", func := "attic/atticlaw09.CacheIs", spec := "cacheIs", unfollowed := true, recurses := true, apart := false, narrowed := true }
def CacheIsUptoSaid : Prop := cacheIsUptoRow.holds Try.pinned (OpenSpec.upto cacheIsSpec)

/-- 'atticlaw09.CacheNone', WHERE WHAT IT READS IS OF BULK AT MOST 1048576: true; the input reads as it did. -/
def cacheNoneUptoRow : OpenClaim := { program := "ytlenkeefncbmcaa", sum := "e2036ad65b54b88313e3c4cf7339577a19f2315c1ba282729c642615bbe27dae", func := "attic/atticlaw09.CacheNone", spec := "cacheNone", unfollowed := true, recurses := true, apart := false, narrowed := true }
def CacheNoneUptoSaid : Prop := cacheNoneUptoRow.holds Try.pinned (OpenSpec.upto cacheNoneSpec)

/-- 'atticlaw09.CacheDoes', WHERE WHAT IT READS IS OF BULK AT MOST 1048576: true; the input reads as it did. -/
def cacheDoesUptoRow : OpenClaim := { program := "ytlenkeefncbmcaa", sum := "e2036ad65b54b88313e3c4cf7339577a19f2315c1ba282729c642615bbe27dae", func := "attic/atticlaw09.CacheDoes", spec := "cacheDoes", unfollowed := true, recurses := true, apart := false, narrowed := true }
def CacheDoesUptoSaid : Prop := cacheDoesUptoRow.holds Try.pinned (OpenSpec.upto cacheDoesSpec)

end Rows
end Go.Proofs.Ytlenkeefncbmcaa
