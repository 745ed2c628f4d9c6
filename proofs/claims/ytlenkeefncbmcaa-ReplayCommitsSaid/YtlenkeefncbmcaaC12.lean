import Derived.Test.YtlenkeefncbmcaaC11
set_option linter.unusedVariables false
set_option linter.unusedSimpArgs false
set_option linter.unusedSectionVars false
/-! Layer 8, the laws' walks: ReplayRedoes. -/
namespace Go.Proofs
open Go.Eng

theorem rcs_len (xs : List Rc) : (rcs xs).length = xs.length * 5 := by rw [rcs_map, flatMap_len Rw.cells_len]; simp

theorem RL.take {w : World} {s : Sl} {xs : List Rc} (h : RL w s xs) {e : Nat} (he : e ≤ s.len) (c : Nat) : RL w ⟨s.a, e, c⟩ (xs.take e) := by
  have hl := h.len
  refine ⟨⟨by simp; omega, ?_⟩, fun x hx => h.2 x (List.mem_of_mem_take hx)⟩
  have hrow := h.1.row
  rw [← rcs_map] at hrow ⊢
  have : rcs (xs.take e) = (rcs xs).take (e * 5) := by
    have h1 := congrArg (fun l => (rcs l).take (e * 5)) (List.take_append_drop e xs)
    rw [rcs_append, List.take_left' (by rw [rcs_len, List.length_take]; congr 1; omega)] at h1
    exact h1
  rw [this]
  show readsO w s.a _
  cases ha : s.a with
  | none =>
    rw [ha] at hrow
    have h0 : rcs xs = [] := hrow
    rw [h0]
    simp [readsO]
  | some ad =>
    rw [ha] at hrow
    exact readsAt_row.2 ((readsAt_row.1 hrow).take _)

theorem slc_rl {w : World} {s : Sl} {xs : List Rc} {e : Int} {k : Sl → Pr} (h : RL w s xs) (hle : s.len ≤ s.cap) (h0 : 0 ≤ e) (h1 : e ≤ (s.len : Int)) (hk : RL w ⟨s.a, e.toNat, s.cap⟩ (xs.take e.toNat) → k ⟨s.a, e.toNat, s.cap⟩ w) : slc 5 s none (some e) none k w := by
  refine slc_hi h0 (by omega) ?_
  have : (if s.cap = 0 then s.a else s.a.map (·.add 0)) = s.a := by rw [map_add_zero, ite_self]
  rw [this]
  exact hk (h.take (by omega) _)

theorem C14 (s : Sl) (xs : List Rc) (w : World) (h : RL w s xs) (hle : s.len ≤ s.cap) : Calls Try.prog 14 #[.slice s.a s.len s.cap] w (RetT [.c .bool] fun r w' => (r = true → s.len ≤ 400) ∧ Grow w w') := by
  refine F14_calls s _ _ ?_
  unfold F14
  have himin : imin (s.len : Int) 500 ≤ s.len ∧ 0 ≤ imin (s.len : Int) 500 ∧ imin (s.len : Int) 500 ≤ 500 := by unfold imin; split <;> omega
  refine slc_rl h hle himin.2.1 himin.1 fun h' => ?_
  generalize hm : (imin (s.len : Int) 500).toNat = m at h' ⊢
  have hl := h'.len
  refine loop_of (fun t w' => ∃ j : Nat, t.2 = j ∧ j ≤ m ∧ Grow w w') (fun t _ => m - t.2.toNat) ⟨0, rfl, by omega, Mod.refl _ _⟩ ?_
  rintro ⟨n, _⟩ w1 ⟨j, rfl, hj, hg⟩
  dsimp only
  have hl' : (⟨s.a, m, s.cap⟩ : Sl).len = m := rfl
  refine br_of (fun hlt => ?_) (fun _ => ?_)
  · simp only [decide_eq_true_eq] at hlt
    have hjl : j < (xs.take m).length := by omega
    refine rec_of (⟨h'.1.grow hg, fun x hx => (h'.2 x hx).grow hg⟩ : RL _ ⟨s.a, m, s.cap⟩ (xs.take m)) hjl ?_
    refine nw_of fun r w2 g2 e2 s2 bx => ?_
    simp only [deref_some']
    have hgst : ∀ {w4 w5 : World}, Grow w1 w4 → Mod (· = r) w4 w5 → Grow w1 w5 := fun h4 h5 => Mod.trans h4 h5 fun c hc1 hc2 => by omega
    refine bx.st (by simp) trivial fun w3 k3 m3 s3 => ?_
    refine k3.st (by simp) trivial fun w4 k4 m4 s4 => ?_
    refine k4.st (by simp) trivial fun w5 k5 m5 s5 => ?_
    refine k5.st (by simp) trivial fun w6 k6 m6 s6 => ?_
    refine k6.st (by simp) trivial fun w7 k7 m7 s7 => ?_
    have g7 : Grow w1 w7 := hgst (hgst (hgst (hgst (hgst g2 m3) m4) m5) m6) m7
    refine k7.ld (i := 3) (s := .slice) (p := (xs.take m)[j].1.s) rfl ?_
    rw [wrap_succ (by omega)]
    refine ⟨⟨j + 1, rfl, by omega, Grow.trans hg g7⟩, ?_⟩
    omega
  · refine br_of (fun h4 => ⟨fun _ => ?_, hg⟩) (fun _ => ⟨fun h => (by cases h), hg⟩)
    simp only [decide_eq_true_eq] at h4
    omega

theorem lay_succ {p d : List UInt8} {o k : Nat} (h : o + d.length ≤ p.length) (hk : k < d.length) : (lay p o (d.take k)).set (o + k) d[k] = lay p o (d.take (k + 1)) := by
  refine List.ext_getElem? fun i => ?_
  have h1 : (d.take k).length = k := by simp; omega
  have h2 : (d.take (k + 1)).length = k + 1 := by simp; omega
  have hl : (lay p o (d.take k)).length = p.length := lay_len (by omega)
  rw [List.getElem?_set, lay_get (by omega), lay_get (by omega), h1, h2, hl]
  by_cases ha : o + k = i
  · subst ha
    rw [if_pos rfl, if_pos (by omega), if_pos (by omega), List.getElem?_take, if_pos (by omega)]
    rw [show o + k - o = k by omega]
    simp
  · rw [if_neg ha]
    by_cases hb : o ≤ i ∧ i < o + k
    · rw [if_pos hb, if_pos (by omega), List.getElem?_take, if_pos (by omega), List.getElem?_take, if_pos (by omega)]
    · rw [if_neg hb, if_neg (by omega)]

theorem C17 (pg s : Sl) (blk : Int) (l : List UInt8) (xs : List Rc) (w : World) (hp : BS w pg l) (hs : RL w s xs) (hl : s.len ≤ 1000000) :
    Calls Try.prog 17 #[.slice pg.a pg.len pg.cap, .int .i64 blk, .slice s.a s.len s.cap] w (RetT [.c .slice, .c (.int .i64)] fun r w' =>
      r.2 = redoE l xs ∧ OwnS w' w.heap.size 1 r.1 ((if redoE l xs = 0 then redoF blk l xs else []).map ub) ∧ Grow w w') := by
  refine F17_calls pg blk s _ _ ?_
  unfold F17
  refine br_of (fun h1 => ?_) (fun h1 => ?_)
  · have hne : redoE l xs = 1 := by
      unfold redoE
      rw [if_pos]
      have := hp.len
      simp at h1
      omega
    rw [hne]
    exact ⟨rfl, OwnS.nil _ _ _, Mod.refl _ _⟩
  have hl256 : l.length = 256 := by
    have := hp.len
    simp at h1
    omega
  have hsl := hs.len
  refine loop_of (fun i w' => ∃ j : Nat, i = j ∧ j ≤ xs.length ∧ Grow w w' ∧ ∀ k (h : k < xs.length), k < j → xs[k].1.ok = true) (fun i _ => xs.length - i.toNat)
    ⟨0, rfl, by omega, Mod.refl _ _, fun k _ hk => by omega⟩ ?_
  rintro _ w1 ⟨j, rfl, hj, hg1, hall⟩
  refine br_of (fun hlt => ?_) (fun hge => ?_)
  · simp only [decide_eq_true_eq] at hlt
    have hjl : j < xs.length := by omega
    refine rec_of (⟨hs.1.grow hg1, fun x hx => (hs.2 x hx).grow hg1⟩ : RL _ s xs) hjl ?_
    refine callF_of (C23 _ _ _ _ _ _) ?_
    rintro c w2 ⟨rfl, g2⟩
    have hg2 := Grow.trans hg1 g2
    have hok : checkB xs[j].1.p.1 xs[j].1.p.2.1 xs[j].1.p.2.2.1 xs[j].1.p.2.2.2.2 xs[j].1.p.2.2.2.1.len = xs[j].1.ok := rfl
    rw [hok]
    cases hh : xs[j].1.ok with
    | false =>
      refine br_t rfl ?_
      have hne : redoE l xs = 60 := by
        unfold redoE
        rw [if_neg (by simp [hl256]), if_pos]
        rw [List.any_eq_true]
        exact ⟨xs[j], by simp, by simp [hh]⟩
      rw [hne]
      exact ⟨rfl, OwnS.nil _ _ _, hg2⟩
    | true =>
      refine br_f rfl ?_
      rw [wrap_succ (by omega)]
      refine ⟨⟨j + 1, rfl, hjl, hg2, fun k hk1 hk2 => ?_⟩, by omega⟩
      rcases Nat.lt_or_ge k j with h' | h'
      · exact hall k hk1 h'
      · have : k = j := by omega
        subst this
        exact hh
  simp only [decide_eq_false_iff_not] at hge
  have hall2 : ∀ x ∈ xs, x.1.ok = true ∧ x.1.s.len = x.2.length := by
    intro x hx
    refine ⟨?_, (hs.2 x hx).len⟩
    obtain ⟨k, hk, rfl⟩ := List.getElem_of_mem hx
    exact hall k hk (by omega)
  have hne : redoE l xs = 0 := by
    unfold redoE
    rw [if_neg (by simp [hl256]), if_neg]
    rw [List.any_eq_true]
    rintro ⟨x, hx, hb⟩
    rw [(hall2 x hx).1] at hb
    cases hb
  rw [hne, if_pos rfl]
  refine clone_app (hp.grow hg1) (by rw [hp.len, hl256]; decide) ?_
  intro t w2 ht hg2
  have hg12 := Grow.trans hg1 hg2
  refine loop_of (fun i w' => ∃ j : Nat, i = j ∧ j ≤ xs.length ∧ Grow w w' ∧ OwnS w' w.heap.size 1 t ((redoF blk l (xs.take j)).map ub)) (fun i _ => xs.length - i.toNat)
    ⟨0, rfl, by omega, hg12, by simpa [redoF] using ht.weaken hg1.size⟩ ?_
  rintro _ w3 ⟨j, rfl, hj, hg3, ho⟩
  refine br_of (fun hlt => ?_) (fun hge => ?_)
  rotate_left
  · simp only [decide_eq_false_iff_not] at hge
    refine ⟨rfl, ?_, hg3⟩
    rwa [List.take_of_length_le (by omega)] at ho
  simp only [decide_eq_true_eq] at hlt
  have hjl : j < xs.length := by omega
  have hxj := hall2 xs[j] (by simp)
  have hb := ok_bounds hxj.1
  have hF : redoF blk l (xs.take (j + 1)) = if xs[j].1.b = blk then lay (redoF blk l (xs.take j)) xs[j].1.o.toNat xs[j].2 else redoF blk l (xs.take j) := by
    rw [take_succ' hjl, redoF_snoc]
  have hlenF : (redoF blk l (xs.take j)).length = 256 := redoF_len hl256 fun x hx => hall2 x (List.mem_of_mem_take hx)
  generalize redoF blk l (xs.take j) = p at hF hlenF ho
  refine loop_of (fun i w' => ∃ k : Nat, i = k ∧ k ≤ xs[j].2.length ∧ Grow w w' ∧ (k = 0 ∨ xs[j].1.b = blk) ∧ OwnS w' w.heap.size 1 t ((lay p xs[j].1.o.toNat (xs[j].2.take k)).map ub)) (fun i _ => xs[j].2.length - i.toNat)
    ⟨0, rfl, by omega, hg3, .inl rfl, by simpa [lay_nil] using ho⟩ ?_
  rintro _ w4 ⟨k, rfl, hk, hg4, hkb, ho4⟩
  have hrl4 : RL w4 s xs := ⟨hs.1.grow hg4, fun x hx => (hs.2 x hx).grow hg4⟩
  refine jn_of (fun b w' => b = decide (k < xs[j].2.length ∧ xs[j].1.b = blk) ∧ w4 = w') ?_ ?_
  · refine fld_of (j := j) (i := 3) (c := .slice) (p := xs[j].1.s) hrl4 hjl rfl ?_
    refine br_of (fun h => ?_) (fun h => ⟨?_, rfl⟩)
    · simp only [decide_eq_true_eq] at h
      refine fld_of (j := j) (i := 1) (c := .int .i64) (p := xs[j].1.b) hrl4 hjl rfl ?_
      refine ⟨?_, rfl⟩
      rw [Bool.eq_iff_iff, beq_iff_eq, decide_eq_true_eq]
      constructor
      · intro h2; exact ⟨by omega, h2⟩
      · rintro ⟨_, h2⟩; exact h2
    · simp only [decide_eq_false_iff_not] at h
      symm
      rw [decide_eq_false_iff_not]
      rintro ⟨h2, _⟩
      omega
  rintro _ _ ⟨rfl, rfl⟩
  refine br_of (fun hin => ?_) (fun hout => ?_)
  · simp only [decide_eq_true_eq] at hin
    have hgd := Mod.drew hg4
    have hrld : RL w4.drew s xs := ⟨hs.1.grow hgd, fun x hx => (hs.2 x hx).grow hgd⟩
    have hod := ho4.grow (Mod.drew (Mod.refl _ w4))
    refine fld_of (j := j) (i := 2) (c := .int .i64) (p := xs[j].1.o) hrld hjl rfl ?_
    refine fld_of (j := j) (i := 3) (c := .slice) (p := xs[j].1.s) hrld hjl rfl ?_
    refine at_of (b := xs[j].2[k]) (hrld.2 xs[j] (by simp)) (by omega) (by simp) ?_
    have hw : IntKind.wrap .i64 (xs[j].1.o + (k : Int)) = ((xs[j].1.o.toNat + k : Nat) : Int) := by rw [wrap_i64 (by omega)]; omega
    have hw' : (show Int from IntKind.wrap .i64 (xs[j].1.o + (k : Int))) = ((xs[j].1.o.toNat + k : Nat) : Int) := hw
    have hll : (lay p xs[j].1.o.toNat (xs[j].2.take k)).length = 256 := by rw [lay_len]; exact hlenF; simp; omega
    refine put_of hod (by rw [hw]; omega) (by rw [hw, hll]; omega) fun w5 h5 m5 _ => ?_
    rw [wrap_succ (by omega)]
    refine ⟨⟨k + 1, rfl, by omega, Mod.trans hgd m5 fun b hb hb2 => absurd (OwnS.blk_le hod hb2) (by omega), .inr hin.2, ?_⟩, by omega⟩
    rw [hw, Int.toNat_natCast, lay_succ (by omega) hin.1] at h5
    exact h5
  · simp only [decide_eq_false_iff_not] at hout
    rw [wrap_succ (by omega)]
    refine ⟨⟨j + 1, rfl, hjl, hg4, ?_⟩, by omega⟩
    rw [hF]
    by_cases hbb : xs[j].1.b = blk
    · rw [if_pos hbb]
      have : k = xs[j].2.length := by
        have : ¬ k < xs[j].2.length := fun h => hout ⟨h, hbb⟩
        omega
      rw [this, List.take_length] at ho4
      exact ho4
    · rw [if_neg hbb]
      have : k = 0 := hkb.resolve_right hbb
      subst this
      simpa [lay_nil] using ho4

theorem law3 (pg s : Sl) (blk : Int) (l : List UInt8) (xs : List Rc) (w : World) (hp : BS w pg l) (hs : RL w s xs) (hle : s.len ≤ s.cap) :
    Calls Try.prog 3 #[.slice pg.a pg.len pg.cap, .int .i64 blk, .slice s.a s.len s.cap] w (RetT [.c .bool] fun r w' => r = true ∧ Grow w w') := by
  refine F3_calls pg blk s _ _ ?_
  unfold F3
  have hpl := hp.len
  refine jn_of (fun b w' => (b = false → s.len ≤ 400 ∧ pg.len ≤ 5000) ∧ Grow w w') ?_ ?_
  · refine callF_of (C13 w) ?_
    rintro _ w1 ⟨rfl, g1⟩
    refine br_f rfl (callF_of (C14 s xs w1 ⟨hs.1.grow g1, fun x hx => (hs.2 x hx).grow g1⟩ hle) ?_)
    rintro r w2 ⟨hr, g2⟩
    refine br_of (fun _ => ⟨fun h => (by cases h), Grow.trans g1 g2⟩) (fun hf => ⟨fun h => ?_, Grow.trans g1 g2⟩)
    simp only [gt_iff_lt, decide_eq_false_iff_not] at h
    exact ⟨hr (by simpa using hf), by omega⟩
  rintro b w1 ⟨hb, g1⟩
  refine br_of (fun _ => ?_) (fun hb0 => ?_)
  · refine callF_of (C13 w1) ?_
    rintro _ w2 ⟨rfl, g2⟩
    exact ⟨rfl, Grow.trans g1 g2⟩
  obtain ⟨hn, hn2⟩ := hb hb0
  refine callF_of (C15 pg l w1 (hp.grow g1) (by omega)) ?_
  rintro was w2 ⟨hwas, _, g2⟩
  have hg2 := Grow.trans g1 g2
  refine callF_of (C16 pg s blk l xs w2 (hp.grow hg2) ⟨hs.1.grow hg2, fun x hx => (hs.2 x hx).grow hg2⟩ (by omega)) ?_
  rintro ⟨x, e⟩ w3 ⟨he, hx, g3⟩
  have hg3 := Grow.trans hg2 g3
  refine callF_of (C17 pg s blk l xs w3 (hp.grow hg3) ⟨hs.1.grow hg3, fun x hx => (hs.2 x hx).grow hg3⟩ (by omega)) ?_
  rintro ⟨y, f⟩ w4 ⟨hf, hy, g4⟩
  dsimp only at he hx hf hy ⊢
  have hg4 := Grow.trans hg3 g4
  have hx4 := hx.grow g4
  refine jn_of (fun b w' => b = false ∧ w4 = w') ?_ ?_
  · refine callF_of (C18 x y _ _ w4 hx4.bs hy.bs) ?_
    rintro r w5 ⟨hr, hw⟩
    subst hw
    rw [beq_self_eq_true] at hr
    subst hr
    refine br_f rfl ⟨?_, rfl⟩
    rw [he, hf]
    simp
  rintro _ _ ⟨rfl, rfl⟩
  refine br_f rfl ?_
  have hxl : x.len ≤ 1000000000 := by
    rw [hx4.bs.len]
    split
    · rename_i h0
      have hpg : l.length = 256 := by
        unfold redoE at h0
        split at h0
        · cases h0
        · omega
      rw [redoF_len hpg]
      · omega
      · intro x hx'
        refine ⟨?_, (hs.2 x hx').len⟩
        unfold redoE at h0
        rw [if_neg (by omega)] at h0
        split at h0
        · cases h0
        · rename_i h9
          rw [Bool.not_eq_true, List.any_eq_false] at h9
          simpa using h9 x hx'
    · simp
  have hsz2 := hg2.size
  refine xor_loop hx4 hxl fun w5 l' _ m5 => ?_
  have hg5 : Grow w w5 := Mod.trans hg4 m5 fun b hb hb2 => absurd (OwnS.blk_le hx hb2) (by omega)
  have hwas5 : BS w5 was l := ((hwas.grow (Grow.trans g3 g4)).mod m5 fun ad ha hS => by
    have := OwnS.blk_lt hwas ⟨ad, ha, rfl⟩
    have := OwnS.blk_le hx hS
    omega).bs
  refine callF_of (C18 pg was l l w5 (hp.grow hg5) hwas5) ?_
  rintro r w7 ⟨hr, hw⟩
  subst hw
  exact ⟨hr.trans (beq_self_eq_true l), hg5⟩
end Go.Proofs
