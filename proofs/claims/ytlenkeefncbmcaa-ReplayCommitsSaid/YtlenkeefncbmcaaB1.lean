import Derived.Test.YtlenkeefncbmcaaL4
import Derived.Below
import GoSem.Claim
set_option linter.unusedVariables false
set_option linter.unusedSimpArgs false
set_option linter.unusedSectionVars false
/-! From what a row's proof is told to what a walk asks, and back. -/
namespace Go.Eng
open Go.RowKit

theorem Grow.below {w w' : World} (h : Grow w w') : Below w.heap.size w w' := ⟨h.rest.1, h.rest.2.1, h.rest.2.2, h.size, fun k hk => h.same k hk fun h => h⟩

theorem row_num {n : Int} (h : (Lit.int .u8 n).wf = true) : (Value.int .u8 n) = ub (UInt8.ofNat n.toNat) := by
  have h2 : 0 ≤ n ∧ n ≤ 255 := by
    simp only [Lit.wf, IntKind.min, IntKind.max, IntKind.signed, IntKind.bits, Bool.and_eq_true, decide_eq_true_eq] at h
    simpa using h
  have h3 : ((UInt8.ofNat n.toNat).toNat : Int) = n := by simp; omega
  rw [ub, h3]

theorem bs_of_row {w : World} {a : Option Addr} {len cap : Nat} {zs : List Int} (h : (a = none ∧ len = 0 ∧ cap = 0 ∧ zs = []) ∨
    ∃ x, a = some x ∧ len ≤ cap ∧ cap ≤ maxLen ∧ zs.length = cap ∧ (∀ i, i < zs.length → w.cell? (x.add i) = some (.int .u8 (zs.getD i 0))) ∧ ∀ n ∈ zs, (Lit.int .u8 n).wf = true) :
    ∃ l, BS w ⟨a, len, cap⟩ l ∧ len ≤ cap := by
  rcases h with ⟨rfl, rfl, rfl, rfl⟩ | ⟨x, rfl, h1, h2, h3, h4, h5⟩
  · exact ⟨[], BS.nil _ _, Nat.le_refl _⟩
  · refine ⟨(zs.take len).map fun n => UInt8.ofNat n.toNat, ⟨by simp; omega, readsAt_row.2 fun j v hj => ?_⟩, h1⟩
    simp only [List.map_map, List.getElem?_map, List.getElem?_take] at hj
    split at hj
    · rename_i hlt
      have hjl : j < zs.length := by omega
      rw [h4 j hjl]
      simp only [hjl, List.getElem?_eq_getElem, Option.map_some, Option.some.injEq, Function.comp_apply] at hj
      subst hj
      rw [show zs.getD j 0 = zs[j] by simp [List.getD, hjl]]
      exact congrArg some (row_num (h5 _ (List.getElem_mem hjl)))
    · cases hj
end Go.Eng
