import Derived.Test.YtlenkeefncbmcaaC9
set_option linter.unusedVariables false
set_option linter.unusedSimpArgs false
set_option linter.unusedSectionVars false
/-! Layer 8, plain: what Cut's patches make of a page. -/
namespace Go.Proofs
open Go.Eng

theorem fstD_spec {o n : List UInt8} {lo hi : Nat} : (fstD o n lo hi = none ∧ ∀ j, lo ≤ j → j < hi → o[j]? = n[j]?) ∨
    ∃ f, fstD o n lo hi = some f ∧ lo ≤ f ∧ f < hi ∧ o[f]? ≠ n[f]? ∧ ∀ j, lo ≤ j → j < f → o[j]? = n[j]? := by
  cases h : fstD o n lo hi with
  | none =>
    refine .inl ⟨rfl, fun j h1 h2 => ?_⟩
    unfold fstD at h
    rw [List.find?_eq_none] at h
    simpa using h j (by rw [List.mem_range'_1]; omega)
  | some f =>
    refine .inr ⟨f, rfl, ?_⟩
    unfold fstD at h
    rw [List.find?_range'_eq_some] at h
    obtain ⟨h1, h2, h3⟩ := h
    rw [List.mem_range'_1] at h2
    refine ⟨by omega, by omega, by simpa using h1, fun j h4 h5 => ?_⟩
    simpa using h3 j h4 h5

theorem lstD_spec {o n : List UInt8} {lo hi : Nat} : (lstD o n lo hi = none ∧ ∀ j, lo ≤ j → j < hi → o[j]? = n[j]?) ∨
    ∃ l, lstD o n lo hi = some l ∧ lo ≤ l ∧ l < hi ∧ o[l]? ≠ n[l]? ∧ ∀ j, l < j → j < hi → o[j]? = n[j]? := by
  unfold lstD
  cases h : (List.range' 0 (hi - lo)).find? fun t => o[hi - 1 - t]? != n[hi - 1 - t]? with
  | none =>
    refine .inl ⟨rfl, fun j h1 h2 => ?_⟩
    rw [List.find?_eq_none] at h
    have := h (hi - 1 - j) (by rw [List.mem_range'_1]; omega)
    rw [show hi - 1 - (hi - 1 - j) = j by omega] at this
    simpa using this
  | some t =>
    refine .inr ⟨hi - 1 - t, rfl, ?_⟩
    rw [List.find?_range'_eq_some] at h
    obtain ⟨h1, h2, h3⟩ := h
    rw [List.mem_range'_1] at h2
    refine ⟨by omega, by omega, by simpa using h1, fun j h4 h5 => ?_⟩
    have := h3 (hi - 1 - j) (by omega) (by omega)
    rw [show hi - 1 - (hi - 1 - j) = j by omega] at this
    simpa using this

theorem piece_spec (blk : Int) (o n : List UInt8) (k : Nat) : (pieceV blk o n k = [] ∧ ∀ j, 44 * k ≤ j → j < hiK k → o[j]? = n[j]?) ∨
    ∃ f l : Nat, pieceV blk o n k = [(1, blk, (f : Int), 0, (n.take (l + 1)).drop f)] ∧ 44 * k ≤ f ∧ f ≤ l ∧ l < hiK k ∧ o[f]? ≠ n[f]? ∧ (∀ j, 44 * k ≤ j → j < f → o[j]? = n[j]?) ∧ ∀ j, l < j → j < hiK k → o[j]? = n[j]? := by
  unfold pieceV
  rcases fstD_spec (o := o) (n := n) (lo := 44 * k) (hi := hiK k) with ⟨h1, h2⟩ | ⟨f, h1, h2, h3, h4, h5⟩
  · rw [h1]
    exact .inl ⟨rfl, h2⟩
  · rcases lstD_spec (o := o) (n := n) (lo := 44 * k) (hi := hiK k) with ⟨g1, g2⟩ | ⟨l, g1, g2, g3, g4, g5⟩
    · exact absurd (g2 f h2 h3) h4
    · rw [h1, g1]
      refine .inr ⟨f, l, rfl, h2, ?_, g3, h4, h5, g5⟩
      rcases Nat.lt_or_ge l f with h' | h'
      · exact absurd (g5 f h' h3) h4
      · exact h'

theorem lay_get {p d : List UInt8} {o i : Nat} (h : o + d.length ≤ p.length) : (lay p o d)[i]? = if o ≤ i ∧ i < o + d.length then d[i - o]? else p[i]? := by
  unfold lay
  rw [List.append_assoc, List.getElem?_append]
  have hl : (p.take o).length = o := by simp; omega
  rw [hl]
  split
  · rename_i h1
    rw [if_neg (by omega), List.getElem?_take, if_pos h1]
  · rw [List.getElem?_append]
    split
    · rw [if_pos (by omega)]
    · rw [if_neg (by omega), List.getElem?_drop]
      congr 1; omega

theorem redoV_append (blk : Int) (p : List UInt8) (a b : List Rv) : redoV blk p (a ++ b) = redoV blk (redoV blk p a) b := by simp [redoV, List.foldl_append]

theorem redo_pieces (blk : Int) {o n t : List UInt8} (ho : o.length = 256) (hn : n.length = 256) (ht : t.length = 256) (h : ∀ i : Nat, t[i]? = o[i]? ∨ t[i]? = n[i]?) : ∀ j, j ≤ 6 →
    (redoV blk t ((List.range j).flatMap (pieceV blk o n))).length = 256 ∧ ∀ i : Nat, (redoV blk t ((List.range j).flatMap (pieceV blk o n)))[i]? = if i < 44 * j then n[i]? else t[i]?
  | 0, _ => by
    refine ⟨by simpa [redoV] using ht, fun i => ?_⟩
    rw [if_neg (by omega)]
    simp [redoV]
  | j + 1, hj => by
    obtain ⟨h1, h2⟩ := redo_pieces blk ho hn ht h j (by omega)
    rw [range_succ', redoV_append]
    generalize redoV blk t ((List.range j).flatMap (pieceV blk o n)) = p at h1 h2
    have hhi : hiK j ≤ 256 ∧ 44 * j < hiK j ∧ hiK j ≤ 44 * (j + 1) ∧ (hiK j = 256 ∨ hiK j = 44 * (j + 1)) := by unfold hiK; omega
    have hout : ∀ i, 256 ≤ i → n[i]? = none ∧ t[i]? = none := fun i hi => ⟨List.getElem?_eq_none (by omega), List.getElem?_eq_none (by omega)⟩
    have hsame : ∀ i, o[i]? = n[i]? → t[i]? = n[i]? := fun i hi => by
      rcases h i with h' | h'
      · rw [h', hi]
      · exact h'
    rcases piece_spec blk o n j with ⟨g1, g2⟩ | ⟨f, l, g1, g2, g3, g4, g5, g6, g7⟩
    · rw [g1]
      refine ⟨h1, fun i => ?_⟩
      show p[i]? = _
      rw [h2 i]
      by_cases ha : i < 44 * j
      · rw [if_pos ha, if_pos (by omega)]
      · rw [if_neg ha]
        by_cases hb : i < 44 * (j + 1)
        · rw [if_pos hb]
          by_cases hc : i < hiK j
          · exact hsame i (g2 i (by omega) hc)
          · rw [(hout i (by omega)).1, (hout i (by omega)).2]
        · rw [if_neg hb]
    · rw [g1]
      have hd : ((n.take (l + 1)).drop f).length = l + 1 - f := by simp; omega
      have hr : redoV blk p [(1, blk, (f : Int), 0, (n.take (l + 1)).drop f)] = lay p f ((n.take (l + 1)).drop f) := by simp [redoV]
      rw [hr]
      refine ⟨by rw [lay_len]; exact h1; omega, fun i => ?_⟩
      rw [lay_get (by omega), hd]
      by_cases hin : f ≤ i ∧ i < f + (l + 1 - f)
      · rw [if_pos hin, if_pos (by omega), List.getElem?_drop, List.getElem?_take, if_pos (by omega)]
        congr 1; omega
      · rw [if_neg hin, h2 i]
        by_cases ha : i < 44 * j
        · rw [if_pos ha, if_pos (by omega)]
        · rw [if_neg ha]
          by_cases hb : i < 44 * (j + 1)
          · rw [if_pos hb]
            by_cases hc : i < hiK j
            · refine hsame i ?_
              by_cases hd2 : i < f
              · exact g6 i (by omega) hd2
              · exact g7 i (by omega) hc
            · rw [(hout i (by omega)).1, (hout i (by omega)).2]
          · rw [if_neg hb]

theorem redo_cut (blk : Int) {o n t : List UInt8} (ho : o.length = 256) (hn : n.length = 256) (ht : t.length = 256) (h : ∀ i : Nat, t[i]? = o[i]? ∨ t[i]? = n[i]?) : redoV blk t (cutV blk o n) = n := by
  obtain ⟨h1, h2⟩ := redo_pieces blk ho hn ht h 6 (by omega)
  refine List.ext_getElem? fun i => ?_
  unfold cutV
  rw [h2 i]
  by_cases hi : i < 264
  · rw [if_pos hi]
  · rw [if_neg hi, List.getElem?_eq_none (by omega), List.getElem?_eq_none (by omega)]

theorem cut_ok {blk : Int} {o n : List UInt8} (hn : n.length = 256) (hb : 0 ≤ blk ∧ blk < 2048) : ∀ v ∈ cutV blk o n, okV v = true ∧ v.1 = 1 ∧ v.2.1 = blk := by
  intro v hv
  simp only [cutV, List.mem_flatMap, List.mem_range] at hv
  obtain ⟨k, hk, hv⟩ := hv
  have hhi : hiK k ≤ 256 ∧ hiK k ≤ 44 * k + 44 := by unfold hiK; omega
  rcases piece_spec blk o n k with ⟨g1, g2⟩ | ⟨f, l, g1, g2, g3, g4, g5, g6, g7⟩
  · rw [g1] at hv; cases hv
  · rw [g1, List.mem_singleton] at hv
    subst hv
    refine ⟨?_, rfl, rfl⟩
    have hd : ((n.take (l + 1)).drop f).length = l + 1 - f := by simp; omega
    have : okV (1, blk, (f : Int), 0, (n.take (l + 1)).drop f) = (patchB blk f 0 (l + 1 - f) || false) := by
      unfold okV checkB
      simp only [hd]
      rfl
    rw [this, Bool.or_false]
    unfold patchB
    rw [decide_eq_true_eq]
    omega

theorem cut_nil {blk : Int} {o n : List UInt8} (ho : o.length = 256) (hn : n.length = 256) : cutV blk o n = [] ↔ o = n := by
  constructor
  · intro h
    have := redo_cut blk ho hn ho fun i => .inl rfl
    rw [h] at this
    exact this
  · rintro rfl
    unfold cutV
    rw [List.flatMap_eq_nil_iff]
    intro k _
    rcases piece_spec blk o o k with ⟨g1, _⟩ | ⟨f, l, g1, g2, g3, g4, g5, _⟩
    · exact g1
    · exact absurd rfl g5
end Go.Proofs
