import Derived.Test.YtlenkeefncbmcaaC3
import Derived.Test.YtlenkeefncbmcaaL4
set_option linter.unusedVariables false
set_option linter.unusedSimpArgs false
set_option linter.unusedSectionVars false
/-! Layer 8, contracts: Cut. -/
namespace Go.Proofs
open Go.Eng

/-- a record's values -/
abbrev Rv := Int × Int × Int × Int × List UInt8
def rv (x : Rc) : Rv := (x.1.k, x.1.b, x.1.o, x.1.m, x.2)

def fstD (o n : List UInt8) (lo hi : Nat) : Option Nat := (List.range' lo (hi - lo)).find? fun i => o[i]? != n[i]?
def lstD (o n : List UInt8) (lo hi : Nat) : Option Nat := ((List.range' 0 (hi - lo)).find? fun t => o[hi - 1 - t]? != n[hi - 1 - t]?).map (hi - 1 - ·)
def hiK (k : Nat) : Nat := min (44 * k + 44) 256
def pieceV (blk : Int) (o n : List UInt8) (k : Nat) : List Rv :=
  match fstD o n (44 * k) (hiK k), lstD o n (44 * k) (hiK k) with
  | some f, some l => [(1, blk, (f : Int), 0, (n.take (l + 1)).drop f)]
  | _, _ => []
def cutV (blk : Int) (o n : List UInt8) : List Rv := (List.range 6).flatMap (pieceV blk o n)
def cutE (blk : Int) (o n : List UInt8) : Int := if 0 ≤ blk ∧ blk < 2048 ∧ o.length = 256 ∧ n.length = 256 then 0 else 1

theorem fstD_none {o n : List UInt8} {lo hi : Nat} (h : ∀ j, lo ≤ j → j < hi → o[j]? = n[j]?) : fstD o n lo hi = none := by
  unfold fstD
  rw [List.find?_eq_none]
  intro x hx
  rw [List.mem_range'_1] at hx
  simp [h x (by omega) (by omega)]

theorem fstD_some {o n : List UInt8} {lo hi f : Nat} (h1 : lo ≤ f) (h2 : f < hi) (h3 : o[f]? ≠ n[f]?) (h : ∀ j, lo ≤ j → j < f → o[j]? = n[j]?) : fstD o n lo hi = some f := by
  unfold fstD
  rw [List.find?_range'_eq_some]
  refine ⟨by simpa using h3, by rw [List.mem_range'_1]; omega, fun j hj1 hj2 => by simp [h j hj1 hj2]⟩

theorem lstD_some {o n : List UInt8} {lo hi l : Nat} (h1 : lo ≤ l) (h2 : l < hi) (h3 : o[l]? ≠ n[l]?) (h : ∀ j, l < j → j < hi → o[j]? = n[j]?) : lstD o n lo hi = some l := by
  unfold lstD
  have : ((List.range' 0 (hi - lo)).find? fun t => o[hi - 1 - t]? != n[hi - 1 - t]?) = some (hi - 1 - l) := by
    rw [List.find?_range'_eq_some]
    refine ⟨?_, by rw [List.mem_range'_1]; omega, fun j hj1 hj2 => ?_⟩
    · rw [show hi - 1 - (hi - 1 - l) = l by omega]; simpa using h3
    · simp [h (hi - 1 - j) (by omega) (by omega)]
  rw [this]
  simp only [Option.map_some, Option.some.injEq]
  omega

theorem range_succ' {α : Type} (f : Nat → List α) (j : Nat) : (List.range (j + 1)).flatMap f = (List.range j).flatMap f ++ f j := by
  rw [List.range_succ, List.flatMap_append]; simp

theorem piece_len (blk : Int) (o n : List UInt8) (k : Nat) : (pieceV blk o n k).length ≤ 1 := by
  unfold pieceV
  split <;> simp

theorem pieces_len (blk : Int) (o n : List UInt8) : ∀ j, ((List.range j).flatMap (pieceV blk o n)).length ≤ j
  | 0 => by simp
  | j + 1 => by
    rw [range_succ', List.length_append]
    have := piece_len blk o n j
    have := pieces_len blk o n j
    omega

theorem C19 (blk : Int) (p1 p2 : Sl) (o n : List UInt8) (w : World) (h1 : BS w p1 o) (h2 : BS w p2 n) (hle : p2.len ≤ p2.cap) :
    Calls Try.prog 19 #[.int .i64 blk, .slice p1.a p1.len p1.cap, .slice p2.a p2.len p2.cap] w (RetT [.c .slice, .c (.int .i64)] fun r w' =>
      r.2 = cutE blk o n ∧ (∃ xs, OwnRs w' w.heap.size r.1 xs ∧ xs.map rv = if cutE blk o n = 0 then cutV blk o n else []) ∧ Grow w w') := by
  refine F19_calls blk p1 p2 _ _ ?_
  unfold F19
  have hl1 := h1.len
  have hl2 := h2.len
  refine jn_of (fun b w' => b = decide (cutE blk o n ≠ 0) ∧ w = w') ?_ ?_
  · unfold cutE
    simp only [br_def]
    repeat' split
    all_goals (simp_all <;> omega)
  rintro b w' ⟨rfl, rfl⟩
  refine br_of (fun hc => ?_) (fun hc => ?_)
  · simp only [ne_eq, decide_eq_true_eq] at hc
    refine ⟨?_, ⟨[], OwnRs.nil _ _, by simp [hc]⟩, Mod.refl _ _⟩
    unfold cutE at hc ⊢
    split at hc
    · exact absurd rfl hc
    · rw [if_neg (by assumption)]
  have hc0 : cutE blk o n = 0 := by simpa using hc
  have hlens : o.length = 256 ∧ n.length = 256 := by
    unfold cutE at hc0
    split at hc0
    · omega
    · cases hc0
  rw [hc0]
  simp only [if_true]
  refine loop_of (fun s w' => ∃ j : Nat, s.2 = j ∧ j ≤ 6 ∧ Grow w w' ∧ ∃ xs, OwnRs w' w.heap.size s.1 xs ∧ xs.map rv = (List.range j).flatMap (pieceV blk o n)) (fun s _ => 6 - s.2.toNat)
    ⟨0, rfl, by omega, Mod.refl _ _, [], OwnRs.nil _ _, rfl⟩ ?_
  rintro ⟨out, _⟩ w1 ⟨j, rfl, hj, hg1, xs, ho, hx⟩
  dsimp only
  refine br_of (fun hlt => ?_) (fun hge => ?_)
  rotate_left
  · simp only [decide_eq_false_iff_not] at hge
    have : j = 6 := by omega
    subst this
    exact ⟨trivial, ⟨xs, ho, hx⟩, hg1⟩
  simp only [decide_eq_true_eq] at hlt
  have e44 : IntKind.wrap .i64 ((j : Int) * 44) = ((44 * j : Nat) : Int) := by rw [wrap_i64 (by omega)]; omega
  have ehi : imin (IntKind.wrap .i64 (((44 * j : Nat) : Int) + 44)) 256 = (hiK j : Int) := by
    rw [wrap_i64 (by omega)]
    unfold imin hiK
    split <;> omega
  rw [e44]
  simp only [ehi]
  have hhi : hiK j ≤ 256 ∧ 44 * j < hiK j := by unfold hiK; omega
  have hxl : xs.length ≤ 6 := by
    have := congrArg List.length hx
    rw [List.length_map] at this
    have := pieces_len blk o n j
    omega
  refine jn_of (fun out' w' => Grow w w' ∧ ∃ xs, OwnRs w' w.heap.size out' xs ∧ xs.map rv = (List.range (j + 1)).flatMap (pieceV blk o n)) ?_ ?_
  rotate_left
  · rintro out' w' ⟨g1, g2⟩
    rw [wrap_succ (by omega)]
    refine ⟨⟨j + 1, rfl, by omega, g1, g2⟩, ?_⟩
    omega
  refine loop_of (fun s w' => s.1 = out ∧ ∃ i : Nat, s.2 = i ∧ 44 * j ≤ i ∧ i ≤ hiK j ∧ Grow w1 w' ∧ ∀ t, 44 * j ≤ t → t < i → o[t]? = n[t]?) (fun s _ => 256 - s.2.toNat)
    ⟨rfl, 44 * j, rfl, Nat.le_refl _, by omega, Mod.refl _ _, fun t h1 h2 => by omega⟩ ?_
  rintro ⟨_, _⟩ w2 ⟨rfl, i, rfl, hi1, hi2, hg2, hall⟩
  dsimp only
  have hgw2 := Grow.trans hg1 hg2
  refine br_of (fun hlt2 => ?_) (fun hge2 => ?_)
  rotate_left
  · simp only [decide_eq_false_iff_not] at hge2
    have : i = hiK j := by omega
    subst this
    refine ⟨hgw2, xs, ho.grow hg2, ?_⟩
    rw [range_succ', hx]
    unfold pieceV
    rw [fstD_none hall]
    simp
  simp only [decide_eq_true_eq] at hlt2
  have hi3 : i < hiK j := by omega
  have hgd := Mod.drew hgw2
  have hoi : o[i]? = some o[i] := by simp
  have hni : n[i]? = some n[i] := by simp
  refine at_of (b := o[i]) (h1.grow hgd) (by omega) (by simp) ?_
  refine at_of (b := n[i]) (h2.grow hgd) (by omega) (by simp) ?_
  rw [toNat_beq]
  refine br_of (fun heq => ?_) (fun hne => ?_)
  · simp only [decide_eq_true_eq] at heq
    rw [wrap_succ (by omega)]
    refine ⟨⟨rfl, i + 1, rfl, by omega, by omega, Mod.drew hg2, fun t ht1 ht2 => ?_⟩, ?_⟩
    · rcases Nat.lt_or_ge t i with h' | h'
      · exact hall t ht1 h'
      · have : t = i := by omega
        subst this
        rw [hoi, hni, heq]
    · omega
  simp only [decide_eq_false_iff_not] at hne
  have hdi : o[i]? ≠ n[i]? := by rw [hoi, hni]; simpa using hne
  refine loop_of (fun s w' => ∃ e : Nat, s = e ∧ i < e ∧ e ≤ hiK j ∧ Grow w1 w' ∧ ∀ t, e ≤ t → t < hiK j → o[t]? = n[t]?) (fun s _ => s.toNat)
    ⟨hiK j, rfl, hi3, Nat.le_refl _, Mod.drew hg2, fun t h1 h2 => by omega⟩ ?_
  rintro _ w3 ⟨e, rfl, he1, he2, hg3, hall3⟩
  have hgw3 := Grow.trans hg1 hg3
  have hgd3 := Mod.drew hgw3
  have ee : IntKind.wrap .i64 ((e : Int) - 1) = ((e - 1 : Nat) : Int) := by rw [wrap_i64 (by omega)]; omega
  rw [ee]
  have hoe : o[e - 1]? = some o[e - 1] := by simp
  have hne' : n[e - 1]? = some n[e - 1] := by simp
  refine at_of (b := o[e - 1]) (h1.grow hgd3) (by omega) (by simp) ?_
  refine at_of (b := n[e - 1]) (h2.grow hgd3) (by omega) (by simp) ?_
  rw [toNat_beq]
  refine br_of (fun heq => ?_) (fun hne3 => ?_)
  · simp only [decide_eq_true_eq] at heq
    have hei : e - 1 ≠ i := by
      rintro rfl
      exact hne heq
    refine ⟨⟨e - 1, rfl, by omega, by omega, Mod.drew hg3, fun t ht1 ht2 => ?_⟩, by omega⟩
    rcases Nat.lt_or_ge t e with h' | h'
    · have : t = e - 1 := by omega
      subst this
      rw [hoe, hne', heq]
    · exact hall3 t h' ht2
  simp only [decide_eq_false_iff_not] at hne3
  have hde : o[e - 1]? ≠ n[e - 1]? := by rw [hoe, hne']; simpa using hne3
  refine slc_bs (h2.grow hgd3) hle (by omega) (by omega) (by omega) ?_
  intro t ht htl
  refine callF_of (C15 t _ _ ht (by omega)) ?_
  rintro d w4 ⟨hd, _, hg4⟩
  have hg34 := Grow.trans (Mod.drew hg3) hg4
  have hgw4 := Grow.trans hg1 hg34
  rw [nw_def]
  refine OwnRs.push (w0 := w3.drew) (xs := xs) (x := (⟨1, blk, i, d, 0⟩, _)) (ho.grow (Mod.drew hg3)) ?_ hg4 hd (by omega) ?_
  · exact hgd3.size
  intro r w5 g1 g2 _
  have hg5 : Grow w w5 := Mod.trans hgw4 g2 fun b hb hb2 => absurd (OwnS.blk_le ho.own hb2) (by omega)
  refine ⟨hg5, _, g1, ?_⟩
  rw [range_succ', List.map_append, hx]
  congr 1
  unfold pieceV
  rw [fstD_some hi1 hi3 hdi hall, lstD_some (l := e - 1) (by omega) (by omega) hde fun t ht1 ht2 => hall3 t (by omega) ht2]
  simp only [List.map_cons, List.map_nil, rv, Int.toNat_natCast]
  rw [show e - 1 + 1 = e by omega]
end Go.Proofs
