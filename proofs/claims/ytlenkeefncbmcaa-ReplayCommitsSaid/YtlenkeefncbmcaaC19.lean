import Derived.Test.YtlenkeefncbmcaaC18
set_option linter.unusedVariables false
set_option linter.unusedSimpArgs false
set_option linter.unusedSectionVars false
/-! Layer 8, contracts: Blocks. -/
namespace Go.Proofs
open Go.Eng

theorem find_int (k : Int) : ∀ (es : List MapEntry) (ks : List Int) (i : Nat), es.map (·.key) = ints ks →
    (k ∉ ks ∧ Instr.findNow (.int .i64) (.int .i64 k) es i = some none) ∨ (k ∈ ks ∧ ∃ j e, es[j]? = some e ∧ e.key = .int .i64 k ∧ Instr.findNow (.int .i64) (.int .i64 k) es i = some (some (i + j, e.val)))
  | [], ks, i, h => by
    have : ks = [] := by
      have := congrArg List.length h
      simp at this
      exact List.eq_nil_of_length_eq_zero this.symm
    subst this
    exact .inl ⟨by simp, rfl⟩
  | e :: es, [], i, h => by simp [ints] at h
  | e :: es, x :: ks, i, h => by
    have h' : e.key = .int .i64 x ∧ es.map (·.key) = ints ks := by simpa [ints] using h
    have hs : Instr.sameNow (.int .i64) (.int .i64 k) e.key = some (k == x) := by rw [h'.1]; simp [Instr.sameNow]
    unfold Instr.findNow
    rw [hs]
    cases hkx : (k == x) with
    | true =>
      rw [beq_iff_eq] at hkx
      subst hkx
      exact .inr ⟨by simp, 0, e, rfl, h'.1, by simp⟩
    | false =>
      have hne : k ≠ x := by simpa using hkx
      rcases find_int k es ks (i + 1) h'.2 with ⟨h1, h2⟩ | ⟨h1, j, e', h2, h3, h4⟩
      · exact .inl ⟨by simp [hne, h1], h2⟩
      · refine .inr ⟨by simp [h1], j + 1, e', by simpa using h2, h3, ?_⟩
        rw [show i + (j + 1) = i + 1 + j by omega]
        exact h4

/-- a number more in a set that is kept in its order of coming -/
def addB (ks : List Int) (k : Int) : List Int := if k ∈ ks then ks else ks ++ [k]

theorem put_int {w : World} {m : Nat} {es : Array MapEntry} {clock : Nat} {ks : List Int} {k : Int} {v : Value} {f : Pr} (h : MapI w m es clock ks)
    (hk : ∀ w' es' clock', MapI w' m es' clock' (addB ks k) → Mod (· = m) w w' → w'.heap.size = w.heap.size → f w') : mapPut (.int .i64) (some m) (.int .i64 k) v f w := by
  have hlt : m < w.heap.size := by
    rcases Nat.lt_or_ge m w.heap.size with h' | h'
    · exact h'
    · have := h.heap; rw [Array.getElem?_eq_none h'] at this; cases this
  have hput : ∀ o, (({ w with heap := w.heap.setIfInBounds m o } : World)).heap[m]? = some o := fun o => by simp [hlt]
  have hmod : ∀ o, Mod (· = m) w ({ w with heap := w.heap.setIfInBounds m o } : World) := fun o => (Mod.refl _ w).putObj (.inl rfl)
  rcases find_int k es.toList ks 0 h.keys with ⟨h1, h2⟩ | ⟨h1, j, e, h2, h3, h4⟩
  · refine ⟨m, es, clock, none, rfl, h.heap, h2, ?_⟩
    refine hk _ (es.push { key := .int .i64 k, val := v, born := clock }) (clock + 1) ⟨hput _, ?_, ?_, ?_, ?_⟩ (hmod _) (by simp)
    · intro e he
      rw [Array.toList_push] at he
      rcases List.mem_append.1 he with he | he
      · have := h.born e he; omega
      · rw [List.mem_singleton] at he; subst he; exact Nat.lt_succ_self _
    · rw [Array.toList_push, List.map_append, List.nodup_append]
      refine ⟨h.nod, by simp, fun a ha b hb => ?_⟩
      obtain ⟨e, he, rfl⟩ := List.mem_map.1 ha
      have := h.born e he
      simp at hb
      omega
    · rw [Array.toList_push, List.map_append, h.keys]
      unfold addB
      rw [if_neg h1, ints_append]
      rfl
    · unfold addB
      rw [if_neg h1, List.nodup_append]
      refine ⟨h.knod, by simp, fun a ha b hb => ?_⟩
      rw [List.mem_singleton] at hb
      rintro rfl
      exact h1 (hb ▸ ha)
  · refine ⟨m, es, clock, some (0 + j, e.val), rfl, h.heap, h4, ?_⟩
    have hje : es[0 + j]? = some e := by rw [Nat.zero_add]; simpa using h2
    refine ⟨?_, ?_⟩
    · rw [hje]
      simp [h3, Instr.sameBits]
    · have hkeys : ∀ g : MapEntry → MapEntry, (∀ x, (g x).born = x.born) → (g e).key = e.key → (es.modify (0 + j) g).toList.map (·.born) = es.toList.map (·.born) ∧ (es.modify (0 + j) g).toList.map (·.key) = es.toList.map (·.key) := by
        intro g hg1 hg2
        constructor
        · refine List.ext_getElem? fun i => ?_
          simp only [List.getElem?_map, Array.getElem?_toList, Array.getElem?_modify]
          split
          · cases es[i]? <;> simp [hg1]
          · rfl
        · refine List.ext_getElem? fun i => ?_
          simp only [List.getElem?_map, Array.getElem?_toList, Array.getElem?_modify]
          split
          · rename_i hi
            rw [← hi, hje]
            simp [hg2]
          · rfl
      obtain ⟨hb1, hb2⟩ := hkeys (fun e => { e with key := .int .i64 k, val := v }) (fun _ => rfl) (by simp [h3])
      refine hk _ (es.modify (0 + j) fun e => { e with key := .int .i64 k, val := v }) clock ⟨hput _, ?_, by rw [hb1]; exact h.nod, by rw [hb2, h.keys]; unfold addB; rw [if_pos h1], by unfold addB; rw [if_pos h1]; exact h.knod⟩ (hmod _) (by simp)
      intro x hx
      have : x.born ∈ es.toList.map (·.born) := by rw [← hb1]; exact List.mem_map.2 ⟨x, hx, rfl⟩
      obtain ⟨y, hy, hyx⟩ := List.mem_map.1 this
      rw [← hyx]
      exact h.born y hy
end Go.Proofs
