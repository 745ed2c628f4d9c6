import Derived.Test.YtlenkeefncbmcaaC4
set_option linter.unusedVariables false
set_option linter.unusedSimpArgs false
set_option linter.unusedSectionVars false
/-! Layer 8, contracts: the document's Cut. -/
namespace Go.Proofs
open Go.Eng

/-- what is known of the first and the last place before i -/
def FL (o n : List UInt8) (lo i : Nat) (a b : Int) : Prop :=
  (a = -1 ∧ b = -1 ∧ ∀ t, lo ≤ t → t < i → o[t]? = n[t]?) ∨
  ∃ f l : Nat, a = f ∧ b = l ∧ lo ≤ f ∧ f ≤ l ∧ l < i ∧ o[f]? ≠ n[f]? ∧ o[l]? ≠ n[l]? ∧ (∀ t, lo ≤ t → t < f → o[t]? = n[t]?) ∧ ∀ t, l < t → t < i → o[t]? = n[t]?

theorem C20 (blk : Int) (p1 p2 : Sl) (o n : List UInt8) (w : World) (h1 : BS w p1 o) (h2 : BS w p2 n) (hle : p2.len ≤ p2.cap) :
    Calls Try.prog 20 #[.int .i64 blk, .slice p1.a p1.len p1.cap, .slice p2.a p2.len p2.cap] w (RetT [.c .slice, .c (.int .i64)] fun r w' =>
      r.2 = cutE blk o n ∧ (∃ xs, OwnRs w' w.heap.size r.1 xs ∧ xs.map rv = if cutE blk o n = 0 then cutV blk o n else []) ∧ Grow w w') := by
  refine F20_calls blk p1 p2 _ _ ?_
  unfold F20
  have hl1 := h1.len
  have hl2 := h2.len
  refine jn_of (fun b w' => b = decide (cutE blk o n ≠ 0) ∧ w = w') ?_ ?_
  · unfold cutE
    simp only [br_def]
    repeat' split
    all_goals (simp_all <;> omega)
  rintro b w' ⟨rfl, rfl⟩
  refine br_of (fun hc => ?_) (fun hc => ?_)
  · simp only [ne_eq, decide_eq_true_eq] at hc
    refine ⟨?_, ⟨[], OwnRs.nil _ _, by simp [hc]⟩, Mod.refl _ _⟩
    unfold cutE at hc ⊢
    split at hc
    · exact absurd rfl hc
    · rw [if_neg (by assumption)]
  have hc0 : cutE blk o n = 0 := by simpa using hc
  have hlens : o.length = 256 ∧ n.length = 256 := by
    unfold cutE at hc0
    split at hc0
    · omega
    · cases hc0
  rw [hc0]
  simp only [if_true]
  refine loop_of (fun s w' => ∃ j : Nat, s.2 = (44 * j : Nat) ∧ j ≤ 6 ∧ Grow w w' ∧ ∃ xs, OwnRs w' w.heap.size s.1 xs ∧ xs.map rv = (List.range j).flatMap (pieceV blk o n)) (fun s _ => 300 - s.2.toNat)
    ⟨0, rfl, by omega, Mod.refl _ _, [], OwnRs.nil _ _, rfl⟩ ?_
  rintro ⟨out, fr⟩ w1 ⟨j, hfr, hj, hg1, xs, ho, hx⟩
  dsimp only at hfr ho ⊢
  refine br_of (fun hlt => ?_) (fun hge => ?_)
  rotate_left
  · simp only [decide_eq_false_iff_not] at hge
    have : j = 6 := by omega
    subst this
    exact ⟨trivial, ⟨xs, ho, hx⟩, hg1⟩
  simp only [decide_eq_true_eq] at hlt
  have e44 : IntKind.wrap .i64 (fr + 44) = ((44 * (j + 1) : Nat) : Int) := by rw [wrap_i64 (by omega)]; omega
  rw [e44]
  have hhi : hiK j ≤ 256 ∧ 44 * j < hiK j ∧ hiK j ≤ 44 * (j + 1) ∧ (hiK j = 256 ∨ hiK j = 44 * (j + 1)) := by unfold hiK; omega
  have hxl : xs.length ≤ 6 := by
    have := congrArg List.length hx
    rw [List.length_map] at this
    have := pieces_len blk o n j
    omega
  refine jn_of (fun out' w' => Grow w w' ∧ ∃ xs, OwnRs w' w.heap.size out' xs ∧ xs.map rv = (List.range (j + 1)).flatMap (pieceV blk o n)) ?_ ?_
  rotate_left
  · rintro out' w' ⟨g1, g2⟩
    refine ⟨⟨j + 1, rfl, by omega, g1, g2⟩, ?_⟩
    omega
  refine loop_of (fun s w' => ∃ i : Nat, s.2.2 = i ∧ 44 * j ≤ i ∧ i ≤ hiK j ∧ Grow w1 w' ∧ FL o n (44 * j) i s.1 s.2.1) (fun s _ => 300 - s.2.2.toNat)
    ⟨44 * j, hfr, Nat.le_refl _, by omega, Mod.refl _ _, .inl ⟨rfl, rfl, fun t h1 h2 => by omega⟩⟩ ?_
  rintro ⟨a, b, _⟩ w2 ⟨i, rfl, hi1, hi2, hg2, hfl⟩
  dsimp only at hfl ⊢
  have hgw2 := Grow.trans hg1 hg2
  refine jn_of (fun c w' => c = decide (i < hiK j) ∧ w2 = w') ?_ ?_
  · refine br_of (fun hc => ⟨?_, rfl⟩) (fun hc => ⟨?_, rfl⟩)
    · simp only [decide_eq_true_eq] at hc
      rw [Bool.eq_iff_iff]
      simp only [decide_eq_true_eq]
      omega
    · simp only [decide_eq_false_iff_not] at hc
      have : ¬ i < hiK j := by omega
      simp [this]
  rintro _ _ ⟨rfl, rfl⟩
  refine br_of (fun hlt2 => ?_) (fun hge2 => ?_)
  · simp only [decide_eq_true_eq] at hlt2
    have hoi : o[i]? = some o[i] := by simp
    have hni : n[i]? = some n[i] := by simp
    have hgd := Mod.drew hgw2
    refine jn_of (fun s w' => Grow w1 w' ∧ FL o n (44 * j) (i + 1) s.1 s.2) ?_ ?_
    rotate_left
    · rintro s w' ⟨g1, g2⟩
      rw [wrap_succ (by omega)]
      refine ⟨⟨i + 1, rfl, by omega, by omega, g1, g2⟩, ?_⟩
      omega
    refine at_of (b := o[i]) (h1.grow hgd) (by omega) (by simp) ?_
    refine at_of (b := n[i]) (h2.grow hgd) (by omega) (by simp) ?_
    rw [show (((o[i].toNat : Int)) != ((n[i].toNat : Int))) = !decide (o[i] = n[i]) by rw [← toNat_beq]; rfl]
    refine br_of (fun hne => ?_) (fun heq => ?_)
    · simp only [Bool.not_eq_true', decide_eq_false_iff_not] at hne
      have hd : o[i]? ≠ n[i]? := by rw [hoi, hni]; simpa using hne
      refine jn_of (fun f w' => w2.drew = w' ∧ ((a < 0 ∧ f = i) ∨ (0 ≤ a ∧ f = a))) ?_ ?_
      · refine br_of (fun h => ⟨rfl, ?_⟩) (fun h => ⟨rfl, ?_⟩)
        · simp only [decide_eq_true_eq] at h
          exact .inl ⟨h, rfl⟩
        · simp only [decide_eq_false_iff_not] at h
          exact .inr ⟨by omega, rfl⟩
      rintro f _ ⟨rfl, hf⟩
      refine ⟨Mod.drew hg2, ?_⟩
      rcases hfl with ⟨ha, hb, hall⟩ | ⟨f', l', ha, hb, q1, q2, q3, q4, q5, q6, q7⟩
      · refine .inr ⟨i, i, by dsimp only; omega, rfl, hi1, Nat.le_refl _, by omega, hd, hd, hall, fun t _ _ => by omega⟩
      · refine .inr ⟨f', i, by dsimp only; omega, rfl, q1, by omega, by omega, q4, hd, q6, fun t _ _ => by omega⟩
    · simp only [Bool.not_eq_false', decide_eq_true_eq] at heq
      have he : o[i]? = n[i]? := by rw [hoi, hni, heq]
      refine ⟨Mod.drew hg2, ?_⟩
      rcases hfl with ⟨ha, hb, hall⟩ | ⟨f', l', ha, hb, q1, q2, q3, q4, q5, q6, q7⟩
      · refine .inl ⟨ha, hb, fun t ht1 ht2 => ?_⟩
        rcases Nat.lt_or_ge t i with h' | h'
        · exact hall t ht1 h'
        · have : t = i := by omega
          subst this
          exact he
      · refine .inr ⟨f', l', ha, hb, q1, q2, by omega, q4, q5, q6, fun t ht1 ht2 => ?_⟩
        rcases Nat.lt_or_ge t i with h' | h'
        · exact q7 t ht1 h'
        · have : t = i := by omega
          subst this
          exact he
  · simp only [decide_eq_false_iff_not] at hge2
    have : i = hiK j := by omega
    subst this
    refine br_of (fun ha0 => ?_) (fun ha0 => ?_)
    · simp only [ge_iff_le, decide_eq_true_eq] at ha0
      rcases hfl with ⟨ha, hb, hall⟩ | ⟨f', l', rfl, rfl, q1, q2, q3, q4, q5, q6, q7⟩
      · omega
      rw [wrap_succ (by omega)]
      refine slc_bs (h2.grow hgw2) hle (by omega) (by omega) (by omega) ?_
      intro t ht htl
      refine clone_app ht (by omega) ?_
      intro d w4 hd hg4
      have hg24 := Grow.trans hg2 hg4
      have hgw4 := Grow.trans hg1 hg24
      rw [nw_def]
      refine OwnRs.push (w0 := w2) (xs := xs) (x := (⟨1, blk, f', d, 0⟩, _)) (ho.grow hg2) hgw2.size hg4 hd (by omega) ?_
      intro r w5 g1 g2 _
      have hg5 : Grow w w5 := Mod.trans hgw4 g2 fun b hb hb2 => absurd (OwnS.blk_le ho.own hb2) (by omega)
      refine ⟨hg5, _, g1, ?_⟩
      rw [range_succ', List.map_append, hx]
      congr 1
      unfold pieceV
      rw [fstD_some q1 (by omega) q4 q6, lstD_some (l := l') (by omega) q3 q5 q7]
      simp only [List.map_cons, List.map_nil, rv, Int.toNat_natCast]
    · simp only [ge_iff_le, decide_eq_false_iff_not] at ha0
      rcases hfl with ⟨ha, hb, hall⟩ | ⟨f', l', rfl, rfl, q1, q2, q3, q4, q5, q6, q7⟩
      · refine ⟨hgw2, xs, ho.grow hg2, ?_⟩
        rw [range_succ', hx]
        unfold pieceV
        rw [fstD_none hall]
        simp
      · omega
end Go.Proofs
