import Derived.Test.YtlenkeefncbmcaaC22
set_option linter.unusedVariables false
set_option linter.unusedSimpArgs false
set_option linter.unusedSectionVars false
/-! Layer 8: the document's Committed and Blocks; ReplayCommits. -/
namespace Go.Proofs
open Go.Eng

theorem putGo_len (l : List Int) (n : Int) (h : l.Pairwise (· < ·)) : (putGo l n false).length ≤ l.length + 1 := by
  rw [(putGo_spec l n h).2.length_eq]
  exact addB_len l n

theorem refB_sorted (vs : List Rv) : (refB vs).Pairwise (· < ·) := (fold_same vs [] [] List.Pairwise.nil (List.Perm.refl _)).1

theorem refB_len (vs : List Rv) : (refB vs).length ≤ vs.length := by
  have h : (refB vs).length = (setB vs).length := (fold_same vs [] [] List.Pairwise.nil (List.Perm.refl _)).2.length_eq
  rw [h]
  exact setB_len vs

theorem C26 (s : Sl) (xs : List Rc) (w : World) (h : RL w s xs) (hl : s.len ≤ 1000000) : Calls Try.prog 26 #[.slice s.a s.len s.cap] w
    (RetT [.c .slice] fun r w' => OwnS w' w.heap.size 1 r (ints (blocksV (xs.map rv))) ∧ Grow w w') := by
  refine F26_calls s _ _ ?_
  unfold F26
  have hsl := h.len
  refine loop_of (fun t W => ∃ j : Nat, t.2 = j ∧ j ≤ xs.length ∧ Grow w W ∧ OwnS W w.heap.size 1 t.1 (ints (refB ((xs.take j).map rv)))) (fun t _ => xs.length - t.2.toNat)
    ⟨0, rfl, by omega, Mod.refl _ _, OwnS.nil _ _ _⟩ ?_
  rintro ⟨t, _⟩ W ⟨j, rfl, hj, hg, ho⟩
  dsimp only at ho ⊢
  refine br_of (fun hlt => ?_) (fun hge => ?_)
  · simp only [decide_eq_true_eq] at hlt
    have hjl : j < xs.length := by omega
    have hstep : refB ((xs.take (j + 1)).map rv) = if xs[j].1.k = 1 then putGo (refB ((xs.take j).map rv)) xs[j].1.b false else refB ((xs.take j).map rv) := by
      rw [take_succ' hjl, List.map_append, List.map_cons, List.map_nil, refB_snoc]
      rfl
    refine jn_of (fun t' W' => Grow w W' ∧ OwnS W' w.heap.size 1 t' (ints (refB ((xs.take (j + 1)).map rv)))) ?_ ?_
    rotate_left
    · rintro t' W' ⟨h1, h2⟩
      rw [wrap_succ (by omega)]
      exact ⟨⟨j + 1, rfl, hjl, h1, h2⟩, by omega⟩
    have hrl : RL W s xs := ⟨h.1.grow hg, fun x hx => (h.2 x hx).grow hg⟩
    refine fld_of (j := j) (i := 0) (c := .int .i64) (p := xs[j].1.k) hrl hjl rfl ?_
    refine br_of (fun hk1 => ?_) (fun hk1 => ?_)
    · simp only [beq_iff_eq] at hk1
      refine fld_of (j := j) (i := 1) (c := .int .i64) (p := xs[j].1.b) hrl hjl rfl ?_
      have hb := refB_len ((xs.take j).map rv)
      rw [List.length_map, List.length_take] at hb
      refine callF_of (C63 t _ xs[j].1.b W (owns_ints ho) (by omega)) ?_
      rintro r W2 ⟨h2, g2⟩
      refine ⟨Grow.trans hg g2, ?_⟩
      rw [hstep, if_pos hk1]
      exact h2.weaken hg.size
    · simp only [beq_eq_false_iff_ne] at hk1
      refine ⟨hg, ?_⟩
      rw [hstep, if_neg hk1]
      exact ho
  · simp only [decide_eq_false_iff_not] at hge
    rw [List.take_of_length_le (by omega), refB_eq] at ho
    exact ⟨ho, hg⟩

theorem C25 (s : Sl) (xs : List Rc) (w : World) (h : RL w s xs) (hl : s.len ≤ 1000000) : Calls Try.prog 25 #[.slice s.a s.len s.cap] w (RetT [.c .slice, .c (.int .i64)] fun r w' => ComQ w xs r.1 r.2 w') := by
  refine F25_calls s _ _ ?_
  unfold F25
  have hsl := h.len
  refine loop_of (fun t w' => ComI w xs t.2.1 t.1 t.2.2.1 t.2.2.2 w') (fun t _ => xs.length - t.2.2.2.toNat)
    ⟨0, 0, rfl, by omega, rfl, Mod.refl _ _, [], [], Two.nil _ _, by simp, rfl⟩ ?_
  rintro ⟨b, a, _, _⟩ w1 ⟨j, m, rfl, hj, rfl, hg, xo, xw, ht, hxl, he⟩
  dsimp only
  refine br_of (fun hlt => ?_) (fun hge => ?_)
  rotate_left
  · simp only [decide_eq_false_iff_not] at hge
    have : j = xs.length := by omega
    subst this
    refine com_done ht hg he ?_
    simp [comGo]
  simp only [decide_eq_true_eq] at hlt
  have hjl : j < xs.length := by omega
  have hbj := h.2 xs[j] (by simp)
  refine jn_of (fun t w' => ComI w xs t.2.1 t.1 t.2.2 ((j + 1 : Nat) : Int) w') ?_ ?_
  rotate_left
  · rintro t w' g1
    rw [wrap_succ (by omega)]
    refine ⟨g1, ?_⟩
    omega
  rw [com_step hjl] at he
  have hrl : RL w1 s xs := ⟨h.1.grow hg, fun x hx => (h.2 x hx).grow hg⟩
  refine rec_of hrl hjl ?_
  refine callF_of (C23 _ _ _ _ _ _) ?_
  rintro c w8 ⟨rfl, g18⟩
  have gw8 := Grow.trans hg g18
  have hrl8 : RL w8 s xs := ⟨h.1.grow gw8, fun x hx => (h.2 x hx).grow gw8⟩
  have hok : checkB xs[j].1.p.1 xs[j].1.p.2.1 xs[j].1.p.2.2.1 xs[j].1.p.2.2.2.2 xs[j].1.p.2.2.2.1.len = xs[j].1.ok := rfl
  rw [hok]
  have hokv := okV_rv hbj
  refine br_of (fun hc => ?_) (fun hc => ?_)
  · have : xs[j].1.ok = false := by
      cases hh : xs[j].1.ok
      · rfl
      · rw [hh] at hc; simp at hc
    rw [hokv, if_pos this] at he
    exact ⟨by rw [← he], ⟨xo, ht.o.grow g18, by rw [← he]⟩, gw8⟩
  have hokt : xs[j].1.ok = true := by
    cases hh : xs[j].1.ok
    · rw [hh] at hc; simp at hc
    · rfl
  rw [hokv, if_neg (by simp [hokt])] at he
  refine fld_of (j := j) (i := 0) (c := .int .i64) (p := xs[j].1.k) hrl8 hjl rfl ?_
  refine br_of (fun hk1 => ?_) (fun hk1 => ?_)
  · simp only [beq_iff_eq] at hk1
    rw [if_pos hk1] at he
    refine rec_of hrl8 hjl ?_
    have hb8 := hbj.grow gw8
    have hbd := ok_bounds hokt
    refine callF_of (C62 xs[j] _ hb8 (by omega)) ?_
    rintro q w9 ⟨⟨d, rfl, hd⟩, g9⟩
    rw [nw_def]
    refine Two.push (w0 := w8) (x := (({ xs[j].1 with s := d } : Rw), xs[j].2)) (ht.grow g18) gw8.size g9 hd (by omega) ?_
    intro r' w10 h10 m10
    refine ⟨j + 1, m, rfl, hjl, rfl, ?_, xo, _, h10, by simp only [List.length_append, List.length_singleton]; omega, ?_⟩
    · exact Mod.trans (Grow.trans gw8 g9) m10 fun c hc1 hc2 => absurd (OwnS.blk_le ht.p.own hc2) (by omega)
    · rw [List.map_append, ← he]
      rfl
  · simp only [beq_eq_false_iff_ne] at hk1
    rw [if_neg hk1] at he
    refine fld_of (j := j) (i := 4) (c := .int .i64) (p := xs[j].1.m) hrl8 hjl rfl ?_
    have hwl := ht.p.len
    refine br_of (fun hm => ?_) (fun hm => ?_)
    · simp only [bne_iff_ne, ne_eq] at hm
      have hm' : ¬ xs[j].1.m = (b.len : Int) := hm
      have hm2 : xs[j].1.m ≠ ((xw.map rv).length : Int) := by rw [List.length_map, ← hwl]; exact hm'
      rw [if_pos hm2] at he
      exact ⟨by rw [← he], ⟨xo, ht.o.grow g18, by rw [← he]⟩, gw8⟩
    · simp only [bne_eq_false_iff_eq] at hm
      have hm' : xs[j].1.m = (b.len : Int) := hm
      have hm2 : ¬ xs[j].1.m ≠ ((xw.map rv).length : Int) := by rw [List.length_map, ← hwl]; exact fun h => h hm'
      rw [if_neg hm2] at he
      refine Two.join (ht.grow g18) gw8.size (by omega) ?_
      intro r' w10 h10 m10
      rw [wrap_succ (by omega)]
      refine ⟨j + 1, j + 1, rfl, hjl, rfl, ?_, _, _, h10, by simp only [List.length_append, List.length_nil]; omega, ?_⟩
      · exact Mod.trans gw8 m10 fun c hc1 hc2 => absurd (OwnS.blk_le ht.o.own hc2) (by omega)
      · rw [List.map_append, ← he]
        rfl

theorem IS.take {w : World} {s : Sl} {l : List Int} (h : IS w s l) {e : Nat} (he : e ≤ s.len) (c : Nat) : IS w ⟨s.a, e, c⟩ (l.take e) := by
  have hl := h.len
  refine ⟨by simp; omega, ?_⟩
  have hrow := h.row
  show readsO w s.a _
  cases ha : s.a with
  | none =>
    rw [ha] at hrow
    have h0 : ints l = [] := hrow
    have h1 := congrArg List.length h0
    simp at h1
    rw [h1]
    simp [readsO, ints]
  | some ad =>
    rw [ha] at hrow
    have h2 := (readsAt_row.1 hrow).take e
    refine readsAt_row.2 ?_
    simpa [ints, List.map_take] using h2

theorem law7 (s : Sl) (most : Int) (xs : List Rc) (w : World) (hs : RL w s xs) (hle : s.len ≤ s.cap) (hm : 0 ≤ most ∧ most ≤ 255) :
    Calls Try.prog 7 #[.slice s.a s.len s.cap, .int .u8 most] w (RetT [.c .bool] fun r w' => r = true ∧ Grow w w') := by
  refine F7_calls s most _ _ ?_
  unfold F7
  have hsl := hs.len
  refine jn_of (fun b w' => (b = false → s.len ≤ 400) ∧ Grow w w') ?_ ?_
  · refine callF_of (C13 w) ?_
    rintro _ w1 ⟨rfl, g1⟩
    refine br_f rfl (callF_of (C14 s xs w1 ⟨hs.1.grow g1, fun x hx => (hs.2 x hx).grow g1⟩ hle) ?_)
    rintro r w2 ⟨hr, g2⟩
    exact ⟨fun hf => hr (by simpa using hf), Grow.trans g1 g2⟩
  rintro b w1 ⟨hb, g1⟩
  refine br_of (fun _ => ?_) (fun hb0 => ?_)
  · refine callF_of (C13 w1) ?_
    rintro _ w2 ⟨rfl, g2⟩
    exact ⟨rfl, Grow.trans g1 g2⟩
  have h400 := hb hb0
  have hrl : ∀ {W : World}, Grow w W → RL W s xs := fun hg => ⟨hs.1.grow hg, fun x hx => (hs.2 x hx).grow hg⟩
  refine callF_of (C24 s xs w1 (hrl g1) (by omega)) ?_
  rintro ⟨x, n⟩ w2 ⟨hn, ⟨ys, hy, hyv⟩, g2⟩
  have hg2 := Grow.trans g1 g2
  refine callF_of (C25 s xs w2 (hrl hg2) (by omega)) ?_
  rintro ⟨y, m⟩ w3 ⟨hm2, ⟨zs, hz, hzv⟩, g3⟩
  have hg3 := Grow.trans hg2 g3
  refine callF_of (C26 s xs w3 (hrl hg3) (by omega)) ?_
  rintro bl w4 ⟨hbl, g4⟩
  have hg4 := Grow.trans hg3 g4
  dsimp only at hn hy hm2 hz ⊢
  have hgd := Mod.drew hg4
  have hcs := com_size (xs.map rv)
  rw [← hyv, List.length_map, List.length_map] at hcs
  have hyl := hy.len
  refine callF_of (C21 x y ys zs _ (hy.grow (Grow.trans g3 (Mod.drew g4))).rl (hz.grow (Mod.drew g4)).rl (by omega)) ?_
  rintro r w5 ⟨hr, g5⟩
  rw [hyv, hzv, decide_eq_true rfl] at hr
  subst hr
  refine br_t rfl (br_t (by rw [hn, hm2]; simp) ?_)
  have hg5 := Grow.trans hgd g5
  have hbl5 := (owns_ints hbl).grow (Mod.trans (Mod.drew (Mod.refl _ w4)) g5 fun _ _ h => h)
  have hBl : (blocksV (xs.map rv)).length ≤ 400 := by
    unfold blocksV
    rw [(sortI_perm _).length_eq]
    have := setB_len (xs.map rv)
    rw [List.length_map] at this
    omega
  refine callF_of (C29 s xs w5 (hrl hg5) (by omega)) ?_
  rintro v w6 ⟨⟨M, hv, hM⟩, g6⟩
  refine callF_of (C28 hv 1048576 w6 hM (by omega) (by decide)) ?_
  rintro t w7 ⟨ht, g7⟩
  rw [List.take_of_length_le (by simp; omega)] at ht
  have hbl7 := hbl5.grow (Grow.trans g6 g7)
  have htl := (owns_ints ht).len
  refine callF_of (C27 t bl _ _ w7 (owns_ints ht) hbl7 (by omega)) ?_
  rintro r w8 ⟨hr, g8⟩
  rw [decide_eq_true rfl] at hr
  subst hr
  refine br_t rfl ?_
  have hw : IntKind.wrap .i64 most = most := wrap_i64 (by omega)
  rw [hw]
  have hbl8 := hbl7.grow g8
  have hbll := hbl8.len
  have hmin : 0 ≤ imin (bl.len : Int) most ∧ imin (bl.len : Int) most ≤ bl.len ∧ (imin (bl.len : Int) most).toNat = min bl.len most.toNat := by unfold imin; split <;> omega
  refine slc_hi hmin.1 (by have := hbl.le; omega) ?_
  rw [show (if bl.cap = 0 then bl.a else bl.a.map (·.add 0)) = bl.a by rw [map_add_zero, ite_self]]
  have hg8 := Grow.trans hg5 (Grow.trans g6 (Grow.trans g7 g8))
  refine callF_of (C29 s xs w8 (hrl hg8) (by omega)) ?_
  rintro v2 w9 ⟨⟨M2, hv2, hM2⟩, g9⟩
  refine callF_of (C28 hv2 most w9 hM2 (by omega) hm.1) ?_
  rintro t2 w10 ⟨ht2, g10⟩
  have hbl10 := (hbl8.grow (Grow.trans g9 g10)).take (e := (imin (bl.len : Int) most).toNat) (by omega) bl.cap
  have ht2l := (owns_ints ht2).len
  rw [List.length_take] at ht2l
  refine callF_of (C27 t2 ⟨bl.a, (imin (bl.len : Int) most).toNat, bl.cap⟩ _ _ w10 (owns_ints ht2) hbl10 (by omega)) ?_
  rintro r w11 ⟨hr, g11⟩
  refine ⟨?_, Grow.trans hg8 (Grow.trans g9 (Grow.trans g10 g11))⟩
  rw [hr, decide_eq_true_eq, hmin.2.2, hbll]
  rw [List.take_eq_take_iff]
  omega
end Go.Proofs
