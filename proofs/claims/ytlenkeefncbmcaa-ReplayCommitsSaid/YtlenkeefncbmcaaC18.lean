import Derived.Test.YtlenkeefncbmcaaC17
set_option linter.unusedVariables false
set_option linter.unusedSimpArgs false
set_option linter.unusedSectionVars false
/-! Sorted keys; Values. -/
namespace Go.Proofs
open Go.Eng

theorem sortI_perm (l : List Int) : (sortI l).Perm l := List.mergeSort_perm l _
theorem sortI_sorted (l : List Int) : (sortI l).Pairwise (· ≤ ·) := by
  have := List.pairwise_mergeSort (le := fun x y : Int => decide (x ≤ y)) (fun a b c h1 h2 => by simp at *; omega) (fun a b => by simp; omega) l
  exact this.imp fun h => by simpa using h

theorem sorted_eq : ∀ {a b : List Int}, a.Perm b → a.Pairwise (· ≤ ·) → b.Pairwise (· ≤ ·) → a = b
  | [], b, h, _, _ => by simpa using h.symm.eq_nil.symm
  | x :: a, [], h, _, _ => by simpa using h.eq_nil
  | x :: a, y :: b, h, ha, hb => by
    rw [List.pairwise_cons] at ha hb
    have hxy : x = y := by
      have h1 : x ∈ y :: b := h.subset (by simp)
      have h2 : y ∈ x :: a := h.symm.subset (by simp)
      have h3 : y ≤ x := by
        rcases List.mem_cons.1 h1 with h4 | h4
        · omega
        · exact hb.1 x h4
      have h4 : x ≤ y := by
        rcases List.mem_cons.1 h2 with h5 | h5
        · omega
        · exact ha.1 y h5
      omega
    subst hxy
    rw [sorted_eq (List.Perm.cons_inv h) ha.2 hb.2]

theorem sortI_congr {a b : List Int} (h : a.Perm b) : sortI a = sortI b :=
  sorted_eq (((sortI_perm a).trans h).trans (sortI_perm b).symm) (sortI_sorted a) (sortI_sorted b)

theorem C90 {v : Value} {M : World → Prop} {poss : List Int → Prop} {own : Bool} (hv : IterI v M poss own) (w : World) (hM : ∀ W, Grow w W → M W) (hN : ∀ xs, poss xs → xs.length ≤ 1000000) :
    Calls Try.prog 90 #[v] w (RetT [.c .slice] fun r w' => ∃ xs, poss xs ∧ OwnS w' w.heap.size 1 r (ints xs) ∧ Grow w w') := by
  refine F90_calls v _ _ ?_
  unfold F90
  refine callF_of (C100 hv w hM hN) ?_
  intro r w' h
  exact h

theorem C65 {v : Value} {M : World → Prop} {ks : List Int} {own : Bool} (hv : IterI v M (fun xs => xs.Perm ks) own) (w : World) (hM : ∀ W, Grow w W → M W) (hN : ks.length ≤ 1000000) :
    Calls Try.prog 65 #[v] w (RetT [.c .slice] fun r w' => OwnS w' w.heap.size 1 r (ints (sortI ks)) ∧ Grow w w') := by
  refine F65_calls v _ _ ?_
  unfold F65
  refine callF_of (C90 hv w hM fun xs h => by rw [h.length_eq]; exact hN) ?_
  rintro r w1 ⟨xs, hp, ho, g1⟩
  have hl := (owns_ints ho).len
  have hpl := hp.length_eq
  refine callF_of (C91 r xs w.heap.size w1 ho (by omega)) ?_
  rintro _ w2 ⟨h2, m2⟩
  rw [sortI_congr hp] at h2
  exact ⟨h2, Mod.trans g1 m2 fun b hb hS => by have := OwnS.blk_le ho hS; omega⟩

theorem C66 (m : Option Nat) (w : World) : Calls Try.prog 66 #[.map m] w (RetT [.c .any] fun r w' => ∃ b, r = .func (.func 92) #[] #[.pointer (some ⟨b, 0, none⟩)] ∧ Box w' b [.map m] ∧ Grow w w') := by
  refine F66_calls m _ _ ?_
  unfold F66
  refine ⟨trivial, nw_of fun b w1 g1 _ _ bx => ?_⟩
  exact ⟨b, rfl, bx, g1⟩

theorem C64 (s : Sl) (w : World) : Calls Try.prog 64 #[.slice s.a s.len s.cap] w (RetT [.c .any] fun r w' => ∃ b, r = .func (.func 89) #[] #[.pointer (some ⟨b, 0, none⟩)] ∧ Box w' b [.slice s.a s.len s.cap] ∧ Grow w w') := by
  refine F64_calls s _ _ ?_
  unfold F64
  refine ⟨trivial, nw_of fun b w1 g1 _ _ bx => ?_⟩
  exact ⟨b, rfl, bx, g1⟩
end Go.Proofs
