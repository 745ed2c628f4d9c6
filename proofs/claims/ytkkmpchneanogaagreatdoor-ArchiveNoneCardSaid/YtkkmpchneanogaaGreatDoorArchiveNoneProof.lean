/- ArchiveNone: a heap that no call made is not saved, and nothing is loaded into it, each with the error that says so. Condition: the package variable errors.errorType is laid as the program's text lays it (the card's tie). -/
import Derived.Test.YtkkmpchneanogaaGreatDoorCards
import Derived.Test.YtkkmpchneanogaaGreatDoorTie
import Derived.WalkKit
import Derived.ProofKit
import Derived.OpenShut
import Derived.ShutString
import Derived.ChangeOld
import Derived.ChangeVars
import Derived.JoinedOf
import Derived.RowKit
import Derived.RowKitTokens
import Derived.LaidLaws
import Derived.LaidHandle
import Derived.Below
import Derived.SevenTiedAt
import Derived.Test.YtkkmpchneanogaaGreatDoorArchiveNoneFacts
import Derived.Test.YtkkmpchneanogaaGreatDoorArchiveNoneFacts2
import Derived.Test.YtkkmpchneanogaaGreatDoorX1
import Derived.Test.YtkkmpchneanogaaGreatDoorX2
import Derived.Test.YtkkmpchneanogaaGreatDoorX3
import Derived.Test.YtkkmpchneanogaaGreatDoorX4
namespace Go.Proofs.YtkkmpchneanogaaGreatDoor.archiveNone
open Go.ChangeShapes Go.WideShapes Go.ChangeAt Go.RowKit Go.Proofs Go.Eng
set_option linter.unusedVariables false
set_option linter.unusedSimpArgs false

set_option maxRecDepth 100000 in
set_option maxHeartbeats 2000000 in
theorem lifted (os : Os) (started : os.Started) (H : Type) (enc : TypeId × Value → H) :
    ReturnsInHanded {} Tryz.checked os 3 .any (fun w args => (Rows.archiveNoneSpec.pre enc Tryz.prog Tryz.f3 [] false w args ∧ laidMetH Tryz.prog [("errors.errorType", Rows.laid_errors_errorType)] w) ∧ sizedMet enc Tryz.prog Tryz.f3 (OpenSpec.ofChange Rows.archiveNoneSpec) false w args) (Rows.archiveNoneSpec.post enc Tryz.prog Tryz.f3 false true false false) := by
  refine returnsInHanded_of_change_and (C := Tryz.checked) (X := fun w _ => laidMetH Tryz.prog [("errors.errorType", Rows.laid_errors_errorType)] w) (fun _ _ _ hh h => h.of_heap hh) zown started (by kernel_rfl) Tryz.func3
    (ChangeSpec.witness_at (enc := enc) (C := Tryz.checked) (os := os) (X := fun w _ => laidMetH Tryz.prog [("errors.errorType", Rows.laid_errors_errorType)] w) false (laidWorld os) #[.slice none 0 0] 8 rfl (by kernel_rfl) (by kernel_rfl) (by kernel_rfl) (by kernel_rfl) (by kernel_rfl) (laidWorld_met os _)) ?_
  intro W base args ds gs before hval0 hW _ _ hL _
  have hval : ∀ (j : Nat) t v, Tryz.f3.params[j]? = some t → args[j]? = some v → Value.okWide Tryz.prog W .any base t v := hval0
  have hW' := hW
  obtain ⟨p, q, hA0, hV, rfl, hfz, hnd⟩ := hW
  have hA : DataW.TrodAll enc Tryz.prog W 0 (fun _ => true) true Tryz.f3.params.toList args.toList ds p := hA0
  rw [Tryz.params3] at hA hval
  have hg := handle_of_laid hL
  obtain ⟨v0, vs0, d0, ds0, p0, q0, hargs, rfl, rfl, h0, z0⟩ := trodAll_cons hA
  obtain ⟨rfl, rfl, rfl⟩ := trodAll_nil z0
  obtain rfl : args = #[v0] := by cases args; simp_all
  obtain ⟨rfl, rfl⟩ := trodVars_none hV
  have k0 := h0
  have lt0 : ∀ x ∈ p0, x.block < W.heap.size := by obtain ⟨m, hm⟩ := k0; exact DataW.trod_lt m _ _ _ hm
  obtain ⟨x0, len0, cap0, rfl⟩ := okWide_slice Tryz.underlying22 (hval 0 22 v0 rfl rfl)
  obtain ⟨g0, l0, hs0, r0, le0⟩ : ∃ s l, (Value.slice x0 len0 cap0) = slV s ∧ BS W s l ∧ s.len ≤ s.cap := by
    obtain ⟨fuel, hf⟩ := h0
    exact open_bytesZ hf
  simp only [slV, Value.slice.injEq] at hs0
  obtain ⟨rfl, rfl, rfl⟩ := hs0
  clear hA0 hval0
  refine Calls.mono (Go.Proofs.law3 g0 l0 W hg r0 le0) ?_
  rintro e W' ⟨r, rfl, rfl, grown⟩
  have bel := Go.Eng.Grow.below grown
  exact ⟨_, rfl, _, _, _, [], _, [], hW', trodAll_mk1 (shut_bool Tryz.underlying4 _), (trodAll_cons_mk (Below.trod zlaidOut (by kernel_rfl) (of_decide_eq_true (by kernel_rfl)) k0 bel lt0) trodAll_mk0), rfl, bel.frame _, fun h => by cases h⟩

theorem over : Rows.ArchiveNoneSaid :=
  OpenClaim.holds_of_wide 3 Tryz.f3 rfl rfl rfl rfl rfl rfl rfl ⟨rfl, rfl, rfl, rfl, rfl⟩ rfl rfl rfl rfl rfl fnamed Tryz.func3 closed inst wrap
    (fun os started H enc _ => lifted os started H enc)

theorem proved : Rows.ArchiveNoneCardSaid :=
  Claim7.holds_tied_plain_at .later [] [.handle] true (true, "e6ccc098a1ce7e9a80b5324fe5bfc992bad46b58b9c87bfa6483e2b6534bd31c") true
    over (fun _ h => by cases h) wfT (fun _ h => by cases h) archiveNone_row_tie rfl ⟨rfl, rfl⟩ mainT rfl
    (fun f fn hf hfn => by
      obtain rfl : f = 3 := Option.some.inj ((show Tryz.prog.funcNamed "attic/atticlaw26.ArchiveNone" = some 3 by kernel_rfl).symm.trans hf) |>.symm
      obtain rfl : fn = Tryz.f3 := (Option.some.inj (Tryz.func3.symm.trans hfn)).symm
      refine ⟨looksT, fun j t ht => ?_⟩
      rw [Tryz.params3] at ht
      rcases j with _ | j
      · simp only [List.size_toArray, Array.getElem?_toList, List.getElem?_toArray, List.getElem?_cons_zero, List.getElem?_cons_succ, Option.some.injEq] at ht; subst ht; exact standT22
      simp at ht)
    goesT
#print axioms proved
end Go.Proofs.YtkkmpchneanogaaGreatDoor.archiveNone
