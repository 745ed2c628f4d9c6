import Derived.Test.YtlenkeefncbmcaaLA
import Derived.Below
import GoSem.Claim
import Derived.Test.YtlenkeefncbmcaaCA
import Derived.OpenShut
import Derived.ChangeAt
import Derived.ChangeSlices
import Derived.Deep.Slices
import Derived.Test.YtlenkeefncbmcaaKA
import Derived.SizedLaws
set_option linter.unusedVariables false
set_option linter.unusedSimpArgs false
set_option linter.unusedSectionVars false
/-! From what a row's proof is told to what a walk asks, and back. -/
namespace Go.Eng
open Go.RowKit

theorem Grow.below {w w' : World} (h : Grow w w') : Below w.heap.size w w' := ⟨h.rest.1, h.rest.2.1, h.rest.2.2, h.size, fun k hk => h.same k hk fun h => h⟩

theorem row_num {n : Int} (h : (Lit.int .u8 n).wf = true) : (Value.int .u8 n) = ub (UInt8.ofNat n.toNat) := by
  have h2 : 0 ≤ n ∧ n ≤ 255 := by
    simp only [Lit.wf, IntKind.min, IntKind.max, IntKind.signed, IntKind.bits, Bool.and_eq_true, decide_eq_true_eq] at h
    simpa using h
  have h3 : ((UInt8.ofNat n.toNat).toNat : Int) = n := by simp; omega
  rw [ub, h3]

theorem bs_of_row {w : World} {a : Option Addr} {len cap : Nat} {zs : List Int} (h : (a = none ∧ len = 0 ∧ cap = 0 ∧ zs = []) ∨
    ∃ x, a = some x ∧ len ≤ cap ∧ cap ≤ maxLen ∧ zs.length = cap ∧ (∀ i, i < zs.length → w.cell? (x.add i) = some (.int .u8 (zs.getD i 0))) ∧ ∀ n ∈ zs, (Lit.int .u8 n).wf = true) :
    ∃ l, BS w ⟨a, len, cap⟩ l ∧ len ≤ cap := by
  rcases h with ⟨rfl, rfl, rfl, rfl⟩ | ⟨x, rfl, h1, h2, h3, h4, h5⟩
  · exact ⟨[], BS.nil _ _, Nat.le_refl _⟩
  · refine ⟨(zs.take len).map fun n => UInt8.ofNat n.toNat, ⟨by simp; omega, readsAt_row.2 fun j v hj => ?_⟩, h1⟩
    simp only [List.map_map, List.getElem?_map, List.getElem?_take] at hj
    split at hj
    · rename_i hlt
      have hjl : j < zs.length := by omega
      rw [h4 j hjl]
      simp only [hjl, List.getElem?_eq_getElem, Option.map_some, Option.some.injEq, Function.comp_apply] at hj
      subst hj
      rw [show zs.getD j 0 = zs[j] by simp [List.getD, hjl]]
      exact congrArg some (row_num (h5 _ (List.getElem_mem hjl)))
    · cases hj
end Go.Eng

/-! A slice of records that came in: what a row's proof is told, and what a walk asks. -/
set_option maxRecDepth 100000
namespace Go.Proofs
open Go.Eng Go.ChangeShapes Go.WideShapes Go.ChangeAt Go.RowKit Go.Deep

theorem wf_u16 {n : Int} (h : (Lit.int .u16 n).wf = true) : 0 ≤ n ∧ n ≤ 65535 := by
  simp only [Lit.wf, IntKind.min, IntKind.max, IntKind.signed, IntKind.bits, Bool.and_eq_true, decide_eq_true_eq] at h
  simpa using h
theorem wf_u8 {n : Int} (h : (Lit.int .u8 n).wf = true) : 0 ≤ n ∧ n ≤ 255 := by
  simp only [Lit.wf, IntKind.min, IntKind.max, IntKind.signed, IntKind.bits, Bool.and_eq_true, decide_eq_true_eq] at h
  simpa using h
theorem wf_i64 {n : Int} (h : (Lit.int .i64 n).wf = true) : -9223372036854775808 ≤ n ∧ n ≤ 9223372036854775807 := by
  simp only [Lit.wf, IntKind.min, IntKind.max, IntKind.signed, IntKind.bits, Bool.and_eq_true, decide_eq_true_eq] at h
  simpa using h

section
variable {H : Type} {enc : TypeId × Value → H} {W : World} {sp : Nat → Bool}

theorem open_bytes {fuel : Nat} {v : Value} {x : DataW H × List MemPlace} (h : DataW.trod enc Try.prog W 0 sp true fuel 22 [v] = some x) :
    ∃ (s : Sl) (l : List UInt8), v = .slice s.a s.len s.cap ∧ BS W s l ∧ s.len ≤ s.cap := by
  rcases open_ints Try.underlying22 Try.underlying5 (by kernel_rfl) h with ⟨hcs, _⟩ | ⟨x, l, c, zs, hcs, _, hl, hm, hz, hr, hcell, hwz⟩
  · simp only [List.cons.injEq, and_true] at hcs
    exact ⟨⟨none, 0, 0⟩, [], hcs, BS.nil _ _, Nat.le_refl _⟩
  · simp only [List.cons.injEq, and_true] at hcs
    have hz' : l ≤ zs.length := by rw [hz]; split <;> omega
    refine ⟨⟨some x, l, c⟩, (zs.take l).map fun n => UInt8.ofNat n.toNat, hcs, ⟨by simp; omega, readsAt_row.2 fun j v hj => ?_⟩, hl⟩
    simp only [List.map_map, List.getElem?_map, List.getElem?_take] at hj
    split at hj
    · rename_i hlt
      have hjl : j < zs.length := by omega
      rw [hcell j hjl]
      simp only [hjl, List.getElem?_eq_getElem, Option.map_some, Option.some.injEq, Function.comp_apply] at hj
      subst hj
      rw [show zs.getD j 0 = zs[j] by simp [List.getD, hjl]]
      exact congrArg some (row_num (hwz _ (List.getElem_mem hjl)))
    · cases hj

theorem open_rec {fuel : Nat} {cs : List Value} {x : DataW H × List MemPlace} (h : DataW.trod enc Try.prog W 0 sp true fuel 37 cs = some x) :
    ∃ r : Rc, cs = r.1.cells ∧ BS W r.1.s r.2 := by
  obtain ⟨xs, n, _, _, hl, hxl, hf⟩ := DataW.trod_struct Try.underlying37 h
  have h5 : Try.prog.cellsOf 37 = 5 := by kernel_rfl
  have h3 : Try.prog.cellsOf 3 = 1 := by kernel_rfl
  have h22 : Try.prog.cellsOf 22 = 1 := by kernel_rfl
  rw [h5] at hl
  have hxl' : xs.length = 5 := hxl
  match cs, hl with
  | [v0, v1, v2, v3, v4], _ =>
    have u0 : DataW.trod enc Try.prog W 0 sp true n 3 (([v0, v1, v2, v3, v4].drop 0).take (Try.prog.cellsOf 3)) = xs[0]? := hf 0 _ rfl
    have u1 : DataW.trod enc Try.prog W 0 sp true n 3 (([v0, v1, v2, v3, v4].drop 1).take (Try.prog.cellsOf 3)) = xs[1]? := hf 1 _ rfl
    have u2 : DataW.trod enc Try.prog W 0 sp true n 3 (([v0, v1, v2, v3, v4].drop 2).take (Try.prog.cellsOf 3)) = xs[2]? := hf 2 _ rfl
    have u3 : DataW.trod enc Try.prog W 0 sp true n 22 (([v0, v1, v2, v3, v4].drop 3).take (Try.prog.cellsOf 22)) = xs[3]? := hf 3 _ rfl
    have u4 : DataW.trod enc Try.prog W 0 sp true n 3 (([v0, v1, v2, v3, v4].drop 4).take (Try.prog.cellsOf 3)) = xs[4]? := hf 4 _ rfl
    rw [List.getElem?_eq_getElem (by omega), h3] at u0 u1 u2 u4
    rw [List.getElem?_eq_getElem (by omega), h22] at u3
    simp only [List.drop, List.take] at u0 u1 u2 u3 u4
    obtain ⟨q0, e0, _, _⟩ := DataW.trod_int Try.underlying3 u0
    obtain ⟨q1, e1, _, _⟩ := DataW.trod_int Try.underlying3 u1
    obtain ⟨q2, e2, _, _⟩ := DataW.trod_int Try.underlying3 u2
    obtain ⟨q4, e4, _, _⟩ := DataW.trod_int Try.underlying3 u4
    obtain ⟨s, l, e3, hs, _⟩ := open_bytes u3
    simp only [List.cons.injEq, and_true] at e0 e1 e2 e4
    subst e0 e1 e2 e3 e4
    exact ⟨(⟨q0, q1, q2, s, q4⟩, l), rfl, hs⟩

theorem open_recs {fuel : Nat} {v : Value} {x : DataW H × List MemPlace} (h : DataW.trod enc Try.prog W 0 sp true fuel 23 [v] = some x) :
    ∃ (s : Sl) (xs : List Rc), v = .slice s.a s.len s.cap ∧ RL W s xs ∧ s.len ≤ s.cap := by
  rcases open_slice Try.underlying23 h with ⟨hcs, _⟩ | ⟨a, len, cap, m, n, D, Pl, hcs, hb, hl, hm, hmm, _, hx⟩
  · simp only [List.cons.injEq, and_true] at hcs
    exact ⟨⟨none, 0, 0⟩, [], hcs, ⟨SS.nil _ _, by simp⟩, Nat.le_refl _⟩
  · simp only [List.cons.injEq, and_true] at hcs
    have hlm : len ≤ m := by rw [hmm]; split <;> omega
    have h5 : Try.prog.cellsOf 37 = 5 := by kernel_rfl
    have : Inhabited Rc := ⟨(⟨0, 0, 0, ⟨none, 0, 0⟩, 0⟩, [])⟩
    have each : ∀ i, i < len → ∃ r : Rc, Row W (a.add (i * 5)) r.1.cells ∧ BS W r.1.s r.2 := by
      intro i hi
      obtain ⟨cs', h1, h2⟩ := hx i (by omega)
      rw [h5] at h1
      obtain ⟨_, hlen, hcell⟩ := World.cells?_some h1
      obtain ⟨r, rfl, hr⟩ := open_rec h2
      refine ⟨r, fun j v hj => ?_, hr⟩
      have hj5 : j < 5 := by
        rcases Nat.lt_or_ge j 5 with h' | h'
        · exact h'
        · rw [List.getElem?_eq_none (by simpa using h')] at hj; cases hj
      rw [hcell j hj5, hj]
    obtain ⟨f, hf⟩ := choose_lt each
    refine ⟨⟨some a, len, cap⟩, (List.range len).map f, hcs, ⟨⟨by simp, ?_⟩, fun x hx => ?_⟩, hl⟩
    · refine readsAt_row.2 ((flatMap_row Rw.cells_len).2 fun i r hi => ?_)
      have hil : i < len := by
        rcases Nat.lt_or_ge i len with h' | h'
        · exact h'
        · rw [List.getElem?_eq_none (by simpa using h')] at hi; cases hi
      simp [hil] at hi
      subst hi
      exact (hf i hil).1
    · obtain ⟨i, hi, rfl⟩ := List.mem_map.1 hx
      exact (hf i (List.mem_range.1 hi)).2
end
end Go.Proofs

/-! A script that came in: what a row's proof is told, and what a walk asks. -/
set_option maxRecDepth 100000
namespace Go.Proofs
open Go.Eng Go.ChangeShapes Go.WideShapes Go.ChangeAt Go.RowKit Go.Deep

section
variable {H : Type} {enc : TypeId × Value → H} {W : World} {sp : Nat → Bool}

theorem open_op {fuel : Nat} {cs : List Value} {x : DataW H × List MemPlace} (h : DataW.trod enc Try.prog W 0 sp true fuel 63 cs = some x) :
    ∃ r : Oc, cs = r.1.cells ∧ BS W r.1.b r.2 := by
  obtain ⟨xs, n, _, _, hl, hxl, hf⟩ := DataW.trod_struct Try.underlying63 h
  have h5 : Try.prog.cellsOf 63 = 4 := by kernel_rfl
  have h3 : Try.prog.cellsOf 3 = 1 := by kernel_rfl
  have h22 : Try.prog.cellsOf 22 = 1 := by kernel_rfl
  rw [h5] at hl
  have hxl' : xs.length = 4 := hxl
  match cs, hl with
  | [v0, v1, v2, v3], _ =>
    have u0 : DataW.trod enc Try.prog W 0 sp true n 3 (([v0, v1, v2, v3].drop 0).take (Try.prog.cellsOf 3)) = xs[0]? := hf 0 _ rfl
    have u1 : DataW.trod enc Try.prog W 0 sp true n 3 (([v0, v1, v2, v3].drop 1).take (Try.prog.cellsOf 3)) = xs[1]? := hf 1 _ rfl
    have u2 : DataW.trod enc Try.prog W 0 sp true n 3 (([v0, v1, v2, v3].drop 2).take (Try.prog.cellsOf 3)) = xs[2]? := hf 2 _ rfl
    have u3 : DataW.trod enc Try.prog W 0 sp true n 22 (([v0, v1, v2, v3].drop 3).take (Try.prog.cellsOf 22)) = xs[3]? := hf 3 _ rfl
    rw [List.getElem?_eq_getElem (by omega), h3] at u0 u1 u2
    rw [List.getElem?_eq_getElem (by omega), h22] at u3
    simp only [List.drop, List.take] at u0 u1 u2 u3
    obtain ⟨q0, e0, _, _⟩ := DataW.trod_int Try.underlying3 u0
    obtain ⟨q1, e1, _, _⟩ := DataW.trod_int Try.underlying3 u1
    obtain ⟨q2, e2, _, _⟩ := DataW.trod_int Try.underlying3 u2
    obtain ⟨s, l, e3, hs, _⟩ := open_bytes u3
    simp only [List.cons.injEq, and_true] at e0 e1 e2
    subst e0 e1 e2 e3
    exact ⟨(⟨q0, q1, q2, s⟩, l), rfl, hs⟩

theorem open_ops {fuel : Nat} {v : Value} {x : DataW H × List MemPlace} (h : DataW.trod enc Try.prog W 0 sp true fuel 54 [v] = some x) :
    ∃ (s : Sl) (xs : List Oc), v = .slice s.a s.len s.cap ∧ OL W s xs ∧ s.len ≤ s.cap := by
  rcases open_slice Try.underlying54 h with ⟨hcs, _⟩ | ⟨a, len, cap, m, n, D, Pl, hcs, hb, hl, hm, hmm, _, hx⟩
  · simp only [List.cons.injEq, and_true] at hcs
    exact ⟨⟨none, 0, 0⟩, [], hcs, ⟨SS.nil _ _, by simp⟩, Nat.le_refl _⟩
  · simp only [List.cons.injEq, and_true] at hcs
    have hlm : len ≤ m := by rw [hmm]; split <;> omega
    have h5 : Try.prog.cellsOf 63 = 4 := by kernel_rfl
    have : Inhabited Oc := ⟨(⟨0, 0, 0, ⟨none, 0, 0⟩⟩, [])⟩
    have each : ∀ i, i < len → ∃ r : Oc, Row W (a.add (i * 4)) r.1.cells ∧ BS W r.1.b r.2 := by
      intro i hi
      obtain ⟨cs', h1, h2⟩ := hx i (by omega)
      rw [h5] at h1
      obtain ⟨_, hlen, hcell⟩ := World.cells?_some h1
      obtain ⟨r, rfl, hr⟩ := open_op h2
      refine ⟨r, fun j v hj => ?_, hr⟩
      have hj5 : j < 4 := by
        rcases Nat.lt_or_ge j 4 with h' | h'
        · exact h'
        · rw [List.getElem?_eq_none (by simpa using h')] at hj; cases hj
      rw [hcell j hj5, hj]
    obtain ⟨f, hf⟩ := choose_lt each
    refine ⟨⟨some a, len, cap⟩, (List.range len).map f, hcs, ⟨⟨by simp, ?_⟩, fun x hx => ?_⟩, hl⟩
    · refine readsAt_row.2 ((flatMap_row Ow.cells_len).2 fun i r hi => ?_)
      have hil : i < len := by
        rcases Nat.lt_or_ge i len with h' | h'
        · exact h'
        · rw [List.getElem?_eq_none (by simpa using h')] at hi; cases hi
      simp [hil] at hi
      subst hi
      exact (hf i hil).1
    · obtain ⟨i, hi, rfl⟩ := List.mem_map.1 hx
      exact (hf i (List.mem_range.1 hi)).2
end
end Go.Proofs

/-! A script that came in, its runs of bytes within reach of the form. -/
set_option maxRecDepth 100000
namespace Go.Proofs
open Go.Eng Go.ChangeShapes Go.WideShapes Go.ChangeAt Go.RowKit Go.Deep

theorem weights_all {H : Type} {P : Program} {e : TypeId} : ∀ {l : List (DataW H)} {d : DataW H}, d ∈ l → ∀ n ∈ d.weights P e, n ∈ DataW.weightsAll P e l
  | d0 :: l, d, hd, n, hn => by
    simp only [DataW.weightsAll, List.mem_append]
    rcases List.mem_cons.1 hd with rfl | hd
    · exact Or.inl hn
    · exact Or.inr (weights_all hd n hn)

section
variable {H : Type} {enc : TypeId × Value → H} {W : World} {sp : Nat → Bool}

theorem open_bytes_sz {fuel : Nat} {v : Value} {x : DataW H × List MemPlace} (h : DataW.trod enc Try.prog W 0 sp true fuel 22 [v] = some x)
    (hz : ∀ n ∈ x.1.weights Try.prog 22, n ≤ reachBytes) :
    ∃ (s : Sl) (l : List UInt8), v = .slice s.a s.len s.cap ∧ BS W s l ∧ s.len ≤ s.cap ∧ s.len ≤ 140737488351232 := by
  obtain ⟨s, l, rfl, hs, hle⟩ := open_bytes h
  refine ⟨s, l, rfl, hs, hle, ?_⟩
  rcases open_slice Try.underlying22 h with ⟨hcs, _⟩ | ⟨a, len, cap, m, n, D, Pl, hcs, hb, hl, hm, hmm, rfl, hx⟩
  · simp only [List.cons.injEq, and_true, Value.slice.injEq] at hcs
    omega
  · simp only [List.cons.injEq, and_true, Value.slice.injEq] at hcs
    have h1 : Try.prog.bytesOf 5 = 1 := by kernel_rfl
    have := hz (((List.range len).map D).length + ((List.range (m - len)).map fun j => D (len + j)).length) (by
      simp only [DataW.weights, Try.underlying22, h1, Nat.mul_one, List.mem_cons, true_or])
    simp only [List.length_map, List.length_range] at this
    have : reachBytes = 140737488351232 := rfl
    omega

theorem open_op_sz {fuel : Nat} {cs : List Value} {x : DataW H × List MemPlace} (h : DataW.trod enc Try.prog W 0 sp true fuel 63 cs = some x)
    (hz : ∀ n ∈ x.1.weights Try.prog 63, n ≤ reachBytes) :
    ∃ r : Oc, cs = r.1.cells ∧ BS W r.1.b r.2 ∧ r.1.o ≤ 9223372036854775807 ∧ r.1.b.len ≤ 140737488351232 := by
  obtain ⟨xs, n, _, rfl, hl, hxl, hf⟩ := DataW.trod_struct Try.underlying63 h
  have h5 : Try.prog.cellsOf 63 = 4 := by kernel_rfl
  have h3 : Try.prog.cellsOf 3 = 1 := by kernel_rfl
  have h22 : Try.prog.cellsOf 22 = 1 := by kernel_rfl
  rw [h5] at hl
  have hxl' : xs.length = 4 := hxl
  match cs, hl with
  | [v0, v1, v2, v3], _ =>
    have u0 : DataW.trod enc Try.prog W 0 sp true n 3 (([v0, v1, v2, v3].drop 0).take (Try.prog.cellsOf 3)) = xs[0]? := hf 0 _ rfl
    have u1 : DataW.trod enc Try.prog W 0 sp true n 3 (([v0, v1, v2, v3].drop 1).take (Try.prog.cellsOf 3)) = xs[1]? := hf 1 _ rfl
    have u2 : DataW.trod enc Try.prog W 0 sp true n 3 (([v0, v1, v2, v3].drop 2).take (Try.prog.cellsOf 3)) = xs[2]? := hf 2 _ rfl
    have u3 : DataW.trod enc Try.prog W 0 sp true n 22 (([v0, v1, v2, v3].drop 3).take (Try.prog.cellsOf 22)) = xs[3]? := hf 3 _ rfl
    rw [List.getElem?_eq_getElem (by omega), h3] at u0 u1 u2
    rw [List.getElem?_eq_getElem (by omega), h22] at u3
    simp only [List.drop, List.take] at u0 u1 u2 u3
    obtain ⟨q0, e0, _, _⟩ := DataW.trod_int Try.underlying3 u0
    obtain ⟨q1, e1, _, _⟩ := DataW.trod_int Try.underlying3 u1
    obtain ⟨q2, e2, _, w2⟩ := DataW.trod_int Try.underlying3 u2
    obtain ⟨s, l, e3, hs, _, h3⟩ := open_bytes_sz u3 (fun k hk => hz k (by
      simp only [DataW.weights, Try.underlying63]
      refine DataW.weights_mem_each (j := 3) (t := 22) (d := xs[3].1) rfl ?_ k hk
      rw [List.getElem?_map, List.getElem?_eq_getElem (by omega)]; rfl))
    simp only [List.cons.injEq, and_true] at e0 e1 e2 e3
    subst e0 e1 e2 e3
    exact ⟨(⟨q0, q1, q2, s⟩, l), rfl, hs, (wf_i64 w2).2, h3⟩

theorem open_ops_sz {fuel : Nat} {v : Value} {x : DataW H × List MemPlace} (h : DataW.trod enc Try.prog W 0 sp true fuel 54 [v] = some x)
    (hz : ∀ n ∈ x.1.weights Try.prog 54, n ≤ reachBytes) :
    ∃ (s : Sl) (xs : List Oc), v = .slice s.a s.len s.cap ∧ OL W s xs ∧ s.len ≤ s.cap ∧ ∀ y ∈ xs, y.1.o ≤ 9223372036854775807 ∧ y.1.b.len ≤ 140737488351232 := by
  rcases open_slice Try.underlying54 h with ⟨hcs, _⟩ | ⟨a, len, cap, m, n, D, Pl, hcs, hb, hl, hm, hmm, rfl, hx⟩
  · simp only [List.cons.injEq, and_true] at hcs
    exact ⟨⟨none, 0, 0⟩, [], hcs, ⟨SS.nil _ _, by simp⟩, Nat.le_refl _, by simp⟩
  · simp only [List.cons.injEq, and_true] at hcs
    have hlm : len ≤ m := by rw [hmm]; split <;> omega
    have h5 : Try.prog.cellsOf 63 = 4 := by kernel_rfl
    have : Inhabited Oc := ⟨(⟨0, 0, 0, ⟨none, 0, 0⟩⟩, [])⟩
    have each : ∀ i, i < len → ∃ r : Oc, Row W (a.add (i * 4)) r.1.cells ∧ BS W r.1.b r.2 ∧ r.1.o ≤ 9223372036854775807 ∧ r.1.b.len ≤ 140737488351232 := by
      intro i hi
      obtain ⟨cs', h1, h2⟩ := hx i (by omega)
      rw [h5] at h1
      obtain ⟨_, hlen, hcell⟩ := World.cells?_some h1
      obtain ⟨r, rfl, hr⟩ := open_op_sz h2 (fun k hk => hz k (by
        simp only [DataW.weights, Try.underlying54, List.mem_cons, List.mem_append]
        exact Or.inr (Or.inl (weights_all (List.mem_map.2 ⟨i, List.mem_range.2 hi, rfl⟩) k hk))))
      refine ⟨r, fun j v hj => ?_, hr⟩
      have hj5 : j < 4 := by
        rcases Nat.lt_or_ge j 4 with h' | h'
        · exact h'
        · rw [List.getElem?_eq_none (by simpa using h')] at hj; cases hj
      rw [hcell j hj5, hj]
    obtain ⟨f, hf⟩ := choose_lt each
    refine ⟨⟨some a, len, cap⟩, (List.range len).map f, hcs, ⟨⟨by simp, ?_⟩, fun x hx => ?_⟩, hl, fun x hx => ?_⟩
    · refine readsAt_row.2 ((flatMap_row Ow.cells_len).2 fun i r hi => ?_)
      have hil : i < len := by
        rcases Nat.lt_or_ge i len with h' | h'
        · exact h'
        · rw [List.getElem?_eq_none (by simpa using h')] at hi; cases hi
      simp [hil] at hi
      subst hi
      exact (hf i hil).1
    · obtain ⟨i, hi, rfl⟩ := List.mem_map.1 hx
      exact (hf i (List.mem_range.1 hi)).2.1
    · obtain ⟨i, hi, rfl⟩ := List.mem_map.1 hx
      exact (hf i (List.mem_range.1 hi)).2.2
end
end Go.Proofs
