/- What is laid on a disk by a geometry is what the document says, wherever the power goes: TxnFormats is true for every image, geometry, number and picks. -/
import Derived.Test.YtiebhappinojmaaGreatRows
import Derived.WalkKit
import Derived.ProofKit
import Derived.OpenShut
import Derived.ShutString
import Derived.ChangeOld
import Derived.Below
import Derived.Test.YtiebhappinojmaaGreatX1
import Derived.Test.YtiebhappinojmaaGreatX2
import Derived.Test.YtiebhappinojmaaGreatX3
import Derived.Test.YtiebhappinojmaaGreatX4
import Derived.Test.YtiebhappinojmaaGreatX5
import Derived.Test.YtiebhappinojmaaGreatX6
namespace Go.Proofs.YtiebhappinojmaaGreat.txnFormats
open Go.ChangeShapes Go.WideShapes Go.ChangeAt Go.RowKit Go.Proofs Go.Eng
set_option linter.unusedVariables false

theorem own : ownKnob Tryz.prog.godebug = none := by kernel_rfl
theorem laidOut : laidOutB Tryz.prog = true := by kernel_rfl

set_option maxRecDepth 100000 in
theorem lifted (os : Os) (started : os.Started) (H : Type) (enc : TypeId × Value → H) :
    ReturnsInHanded {} Tryz.checked os 7 .any (Rows.txnFormatsSpec.pre6 enc Tryz.prog Tryz.f7 Rows.txnFormatsRow.domain false) (Rows.txnFormatsSpec.post enc Tryz.prog Tryz.f7 false true false false) := by
  refine returnsInHanded_of_change (C := Tryz.checked) own started (by kernel_rfl) Tryz.func7
    (ChangeSpec.witness6 (enc := enc) (C := Tryz.checked) false ⟨#[], #[.slice none 0 0, .agg #[.int .i64 0, .int .i64 0, .int .i64 0, .int .i64 0], .int .i64 0, .slice none 0 0], []⟩ 8 (by kernel_rfl) (by kernel_rfl) (by kernel_rfl) (by kernel_rfl)) ?_
  intro W base args ds gs before hval0 hW hcnd _
  have hval : ∀ (j : Nat) t v, Tryz.f7.params[j]? = some t → args[j]? = some v → Value.okWide Tryz.prog W .any base t v := hval0
  have hW' := hW
  obtain ⟨p, q, hA0, hV, rfl, hfz, hnd⟩ := hW
  have hA : DataW.TrodAll enc Tryz.prog W 0 (fun _ => true) true Tryz.f7.params.toList args.toList ds p := hA0
  rw [Tryz.params7] at hA hval
  obtain ⟨v0, vs0, d0, ds0, p0, q0, hargs, rfl, rfl, h0, r0⟩ := trodAll_cons hA
  obtain ⟨v1, vs1, d1, ds1, p1, q1, rfl, rfl, rfl, h1, r1⟩ := trodAll_cons r0
  obtain ⟨v2, vs2, d2, ds2, p2, q2, rfl, rfl, rfl, h2, r2⟩ := trodAll_cons r1
  obtain ⟨v3, vs3, d3, ds3, p3, q3, rfl, rfl, rfl, h3, r3⟩ := trodAll_cons r2
  obtain ⟨rfl, rfl, rfl⟩ := trodAll_nil r3
  obtain rfl : args = #[v0, v1, v2, v3] := by cases args; simp_all
  obtain ⟨rfl, rfl⟩ := trodVars_none hV
  have k0 := h0
  have lt0 : ∀ x ∈ p0, x.block < W.heap.size := by obtain ⟨m, hm⟩ := k0; exact DataW.trod_lt m _ _ _ hm
  obtain ⟨x0, len0, cap0, rfl⟩ := okWide_slice Tryz.underlying33 (hval 0 33 v0 rfl rfl)
  obtain ⟨s0, l0, hs0, g0, le0⟩ : ∃ s l, (Value.slice x0 len0 cap0) = slV s ∧ BS W s l ∧ s.len ≤ s.cap := by
    obtain ⟨fuel, hf⟩ := h0
    exact open_bytesT hf
  simp only [slV, Value.slice.injEq] at hs0
  obtain ⟨rfl, rfl, rfl⟩ := hs0
  have k1 := h1
  have lt1 : ∀ x ∈ p1, x.block < W.heap.size := by obtain ⟨m, hm⟩ := k1; exact DataW.trod_lt m _ _ _ hm
  obtain ⟨cs1, rfl, hcs1⟩ := okWide_struct Tryz.underlying23 (hval 1 23 v1 rfl rfl)
  obtain ⟨q1_0, q1_1, q1_2, q1_3, hg1⟩ : ∃ a b c d : Int, cs1 = #[iv a, iv b, iv c, iv d] := by
    obtain ⟨fuel, hf⟩ := h1
    obtain ⟨a, b, c, d, hg1⟩ := open_geoT hf
    exact ⟨a, b, c, d, by cases cs1; simpa [Value.cells] using hg1⟩
  subst hg1
  obtain ⟨a2, rfl, rfl, rfl, w2⟩ := open_int Tryz.underlying3 (hval 2 3 v2 rfl rfl) h2
  have k3 := h3
  have lt3 : ∀ x ∈ p3, x.block < W.heap.size := by obtain ⟨m, hm⟩ := k3; exact DataW.trod_lt m _ _ _ hm
  obtain ⟨x3, len3, cap3, rfl⟩ := okWide_slice Tryz.underlying33 (hval 3 33 v3 rfl rfl)
  obtain ⟨s3, l3, hs3, g3, le3⟩ : ∃ s l, (Value.slice x3 len3 cap3) = slV s ∧ BS W s l ∧ s.len ≤ s.cap := by
    obtain ⟨fuel, hf⟩ := h3
    exact open_bytesT hf
  simp only [slV, Value.slice.injEq] at hs3
  obtain ⟨rfl, rfl, rfl⟩ := hs3
  clear hA0 hval0
  refine Calls.mono (law7 s0 l0 q1_0 q1_1 q1_2 q1_3 a2 s3 l3 W g0 le0 w2 g3) ?_
  rintro e W' ⟨r, rfl, rfl, grown⟩
  have bel := Go.Eng.Grow.below grown
  exact ⟨_, rfl, _, _, _, [], _, [], hW', trodAll_mk1 (shut_bool Tryz.underlying4 _), (trodAll_cons_mk (Below.trod laidOut (by kernel_rfl) (of_decide_eq_true (by kernel_rfl)) k0 bel lt0) (trodAll_cons_mk (Below.trod laidOut (by kernel_rfl) (of_decide_eq_true (by kernel_rfl)) k1 bel lt1) (trodAll_cons_mk (shut_int Tryz.underlying3 w2) (trodAll_cons_mk (Below.trod laidOut (by kernel_rfl) (of_decide_eq_true (by kernel_rfl)) k3 bel lt3) trodAll_mk0)))), rfl, bel.frame _, fun h => by cases h⟩

theorem over : Rows.txnFormatsRow.holds Tryz.pinned (OpenSpec.ofChange Rows.txnFormatsSpec) :=
  OpenClaim.holds_of_wide 7 Tryz.f7 rfl rfl rfl rfl rfl rfl rfl ⟨rfl, rfl, rfl, rfl, rfl⟩ rfl rfl rfl rfl rfl (by kernel_rfl) Tryz.func7 (by kernel_rfl)
    (of_decide_eq_true (by kernel_rfl)) (by unfold Func.isWrapper; first | (rw [if_pos (by decide +kernel)]; kernel_rfl) | (rw [if_neg (by decide +kernel)]; exact ⟨rfl, rfl⟩))
    (fun os started H enc _ => lifted os started H enc)

theorem proved : Rows.TxnFormatsSaid := over
#print axioms proved
end Go.Proofs.YtiebhappinojmaaGreat.txnFormats
