import Derived.Test.YtlenkeefncbmcaaC13
import Derived.Test.YtlenkeefncbmcaaS1
set_option linter.unusedVariables false
set_option linter.unusedSimpArgs false
set_option linter.unusedSectionVars false
/-! Sorting of whole numbers, by the shelf's contract. -/
namespace Go.Proofs
open Go.Eng

def ints (l : List Int) : List Value := l.map (Value.int .i64)
@[simp] theorem ints_length (l : List Int) : (ints l).length = l.length := by simp [ints]
theorem ints_append (a b : List Int) : ints (a ++ b) = ints a ++ ints b := by simp [ints]
theorem ints_na (l : List Int) : ∀ v ∈ ints l, NotAgg v := by
  intro v hv
  obtain ⟨b, _, rfl⟩ := List.mem_map.1 hv
  trivial

/-- a slice of whole numbers reads as l -/
structure IS (w : World) (s : Sl) (l : List Int) : Prop where
  len : s.len = l.length
  row : readsO w s.a (ints l)
theorem IS.grow {w w' : World} {s : Sl} {l : List Int} (h : IS w s l) (hm : Grow w w') : IS w' s l := ⟨h.len, h.row.grow hm⟩
theorem IS.mod {S : Nat → Prop} {w w' : World} {s : Sl} {l : List Int} (h : IS w s l) (hm : Mod S w w') (hs : ∀ ad, s.a = some ad → ¬ S ad.block) : IS w' s l := ⟨h.len, h.row.mod hm fun ad ha _ => hs ad ha⟩
theorem owns_ints {w : World} {n0 : Nat} {s : Sl} {l : List Int} (h : OwnS w n0 1 s (ints l)) : IS w s l := ⟨by have := h.len; simp at this; exact this.symm, h.reads⟩
theorem IS.none_len {w : World} {s : Sl} {l : List Int} (h : IS w s l) (ha : s.a = none) : s.len = 0 := by
  have h2 := h.row
  rw [ha] at h2
  have : ints l = [] := h2
  have h3 := congrArg List.length this
  simp at h3
  rw [h.len, h3]; rfl

theorem iat_of {w : World} {s : Sl} {l : List Int} {i : Int} {b : Int} {k : Int → Pr} (h : IS w s l) (h0 : 0 ≤ i) (hb : l[i.toNat]? = some b) (hk : k b w) :
    (owe ((0 : Int) ≤ i ∧ i < (s.len : Int)) <| deref s.a fun a => deref (some (a.add (Int.toNat i * 1))) fun a1 => ldC (.int .i64) a1 k) w := by
  have hl := h.len
  have hlt : i.toNat < l.length := by
    rcases Nat.lt_or_ge i.toNat l.length with h' | h'
    · exact h'
    · rw [List.getElem?_eq_none h'] at hb; cases hb
  refine ⟨⟨h0, by omega⟩, ?_⟩
  have hr := h.row
  cases ha : s.a with
  | none =>
    have := h.none_len ha
    omega
  | some ad =>
    rw [ha] at hr
    simp only [deref_some, Nat.mul_one]
    exact ldC_of (s := .int .i64) (p := b) ((readsAt_row.1 hr).get (by simp [ints, hb])) hk

def sortI (l : List Int) : List Int := l.mergeSort fun x y => decide (x ≤ y)

theorem C91 (s : Sl) (zs : List Int) (n0 : Nat) (w : World) (h : OwnS w n0 1 s (ints zs)) (hb : s.len ≤ 1000000000) : Calls Try.prog 91 #[.slice s.a s.len s.cap] w
    (RetT [] fun _ w' => OwnS w' n0 1 s (ints (sortI zs)) ∧ Mod s.blk w w') := by
  have hl := (owns_ints h).len
  by_cases h0 : s.len = 0
  · have hz : zs = [] := List.eq_nil_of_length_eq_zero (by omega)
    subst hz
    have := Try.slices_Sort_int_none s.a s.cap w
    rw [h0]
    refine this.mono ?_
    rintro e w' ⟨rfl, rfl⟩
    refine ⟨(), rfl, ?_, Mod.refl _ _⟩
    simpa [sortI] using h
  · rcases h.row with ⟨_, h2, _⟩ | ⟨b, off, spare, h1, h2, h3, h4, h5, h6⟩
    · exact absurd h2 h0
    have hH : Sort.Holds (Value.int .i64) w b off zs.toArray := by
      intro j hj
      have hj' : j < zs.length := by simpa using hj
      refine ⟨?_, h4 _⟩
      have := h5 j (.int .i64 zs[j]) (by rw [List.getElem?_append_left (by simpa using hj')]; simp [ints, hj'])
      rw [add_mk] at this
      rw [this]
      simp [hj']
    have hc := Try.slices_Sort_int b off s.cap zs w hH h3 (by omega)
    rw [h1, hl]
    refine hc.mono ?_
    rintro e w' ⟨rfl, n, os, rfl⟩
    have hsz : (sortI zs).length = zs.length := List.length_mergeSort zs
    have hH' := Sort.holds_grow (Value.int .i64) _ os b off (sortI zs).toArray (by simpa using h3) (Sort.holds_putRow (Value.int .i64) (Sort.ahead w n) b off zs.toArray (sortI zs).toArray hH (by simpa using hsz))
    refine ⟨(), rfl, ⟨by simp [hsz, hl], h.le, .inr ⟨b, off, spare, h1, h2, by simp; omega, ?_, ?_, ?_⟩⟩, ?_⟩
    · intro o
      rw [Sort.frozen?_grow _ _ _ (by simpa using h3), Sort.frozen?_putRow]
      exact h4 o
    · intro j v hj
      rw [add_mk]
      by_cases hlt : j < zs.length
      · have h7 := (hH' j (by simpa [hsz] using hlt)).1
        rw [List.getElem?_append_left (by simpa [hsz] using hlt)] at hj
        refine h7.trans ?_
        rw [← hj]
        have hlt2 : j < (sortI zs).length := by omega
        simp [ints, hlt2]
      · rw [Sort.cell?_grow _ _ _ (by simpa using h3), Sort.cell?_putRow_other _ _ _ _ _ _ (.inr (.inr (by simp [hsz]; omega)))]
        have h8 := h5 j v (by
          rw [List.getElem?_append_right (by simp [hsz]; omega)] at hj
          rw [List.getElem?_append_right (by simp; omega)]
          simpa [hsz] using hj)
        rwa [add_mk] at h8
    · rw [List.length_append] at h6 ⊢
      simpa [hsz] using h6
    · refine ⟨by simp, fun c hc hS => ?_, rfl, rfl, rfl⟩
      rw [Sort.heap_grow_old _ _ (by simpa using hc)]
      show (w.heap.modify b _)[c]? = _
      rw [Array.getElem?_modify, if_neg]
      intro hbc
      exact hS ⟨_, h1, hbc⟩
end Go.Proofs
