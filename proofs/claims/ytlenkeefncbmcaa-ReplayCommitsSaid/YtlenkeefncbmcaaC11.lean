import Derived.Test.YtlenkeefncbmcaaC10
set_option linter.unusedVariables false
set_option linter.unusedSimpArgs false
set_option linter.unusedSectionVars false
/-! Layer 8, the laws' walks: ReplayBack. -/
namespace Go.Proofs
open Go.Eng

theorem C22 (blk : Int) (p1 p2 : Sl) (w : World) : Calls Try.prog 22 #[.int .i64 blk, .slice p1.a p1.len p1.cap, .slice p2.a p2.len p2.cap] w
    (RetT [.c .bool] fun r w' => r = decide (0 ≤ blk ∧ blk < 2048 ∧ p1.len = 256 ∧ p2.len = 256) ∧ w = w') := by
  refine F22_calls blk p1 p2 _ _ ?_
  unfold F22
  simp only [br_def]
  repeat' split
  all_goals first | (simp_all; done) | (simp_all; omega) | (simp_all; rw [Bool.eq_iff_iff, beq_iff_eq, Bool.and_eq_true, decide_eq_true_eq, decide_eq_true_eq]; omega)

theorem ext_idx {a b : List UInt8} (h : ∀ i : Nat, a[i]? = b[i]?) : a = b := List.ext_getElem? h

theorem law5 (blk : Int) (p1 p2 p3 : Sl) (o n m : List UInt8) (w : World) (h1 : BS w p1 o) (h2 : BS w p2 n) (h3 : BS w p3 m) (hle : p2.len ≤ p2.cap) :
    Calls Try.prog 5 #[.int .i64 blk, .slice p1.a p1.len p1.cap, .slice p2.a p2.len p2.cap, .slice p3.a p3.len p3.cap] w (RetT [.c .bool] fun r w' => r = true ∧ Grow w w') := by
  refine F5_calls blk p1 p2 p3 _ _ ?_
  unfold F5
  have hl1 := h1.len
  have hl2 := h2.len
  have hl3 := h3.len
  refine jn_of (fun b w' => (b = false → 0 ≤ blk ∧ blk < 2048 ∧ p1.len = 256 ∧ p2.len = 256) ∧ Grow w w') ?_ ?_
  · refine callF_of (C13 w) ?_
    rintro _ w1 ⟨rfl, g1⟩
    refine br_f rfl (callF_of (C22 blk p1 p2 w1) ?_)
    rintro r _ ⟨hr, rfl⟩
    refine ⟨fun h => ?_, g1⟩
    rw [hr] at h
    simpa using h
  rintro b w1 ⟨hb, g1⟩
  refine br_of (fun _ => ?_) (fun hb0 => ?_)
  · refine callF_of (C13 w1) ?_
    rintro _ w2 ⟨rfl, g2⟩
    exact ⟨rfl, Grow.trans g1 g2⟩
  obtain ⟨hb1, hb2, ho0, hn0⟩ := hb hb0
  have ho : o.length = 256 := by omega
  have hn : n.length = 256 := by omega
  have hE : cutE blk o n = 0 := by unfold cutE; rw [if_pos ⟨hb1, hb2, ho, hn⟩]
  refine callF_of (C19 blk p1 p2 o n w1 (h1.grow g1) (h2.grow g1) hle) ?_
  rintro ⟨l, e⟩ w2 ⟨he, ⟨xs, hx, hv⟩, g2⟩
  dsimp only at he hx ⊢
  rw [hE] at he
  rw [hE, if_pos rfl] at hv
  subst he
  have hg2 := Grow.trans g1 g2
  have hxl : xs.length ≤ 6 := by
    have := congrArg List.length hv
    rw [List.length_map] at this
    rw [this]
    exact pieces_len blk o n 6
  have hll := hx.len
  have hcell : ∀ x ∈ xs, okV (rv x) = true ∧ x.1.k = 1 ∧ x.1.b = blk := fun x hx' => by
    have : rv x ∈ xs.map rv := List.mem_map.2 ⟨x, hx', rfl⟩
    rw [hv] at this
    exact cut_ok hn ⟨hb1, hb2⟩ _ this
  refine jn_of (fun b w' => b = false ∧ w2 = w') ?_ ?_
  · refine br_f rfl (br_f ?_ ?_)
    · simp only [gt_iff_lt, decide_eq_false_iff_not]; omega
    · refine callF_of (C18 p1 p2 o n w2 (h1.grow hg2) (h2.grow hg2)) ?_
      rintro r w' ⟨hr, hw⟩
      subst hw
      refine ⟨trivial, ?_, rfl⟩
      rw [hr]
      by_cases hon : o = n
      · have h0 : xs = [] := by
          rw [(cut_nil ho hn).2 hon] at hv
          simpa using hv
        subst h0
        have : l.len = 0 := by simpa using hll
        rw [this, hon]
        simp
      · have h0 : xs ≠ [] := by
          rintro rfl
          exact hon ((cut_nil ho hn).1 hv.symm)
        have h5 : 0 < xs.length := List.length_pos_iff.2 h0
        have h6 : ((l.len : Int) == 0) = false := by rw [beq_eq_false_iff_ne]; omega
        have h7 : (o == n) = false := by rw [beq_eq_false_iff_ne]; exact hon
        rw [h6, h7]
        rfl
  rintro _ _ ⟨rfl, rfl⟩
  refine br_f rfl ?_
  -- every patch is one
  refine loop_of (fun i w' => ∃ j : Nat, i = j ∧ j ≤ xs.length ∧ Grow w2 w') (fun i _ => xs.length - i.toNat) ⟨0, rfl, by omega, Mod.refl _ _⟩ ?_
  rintro _ w3 ⟨j, rfl, hj, g3⟩
  have hg3 := Grow.trans hg2 g3
  have hx3 := hx.grow g3
  refine br_of (fun hlt => ?_) (fun _ => ?_)
  · simp only [decide_eq_true_eq] at hlt
    have hjl : j < xs.length := by omega
    have hc := hcell xs[j] (by simp)
    refine rec_of hx3.rl hjl ?_
    refine nw_of fun r w4 g4 e4 s4 bx => ?_
    simp only [deref_some']
    have hgst : ∀ {w5 w6 : World}, Grow w3 w5 → Mod (· = r) w5 w6 → Grow w3 w6 := fun h4 h5 => Mod.trans h4 h5 fun c hc1 hc2 => by omega
    refine bx.st (by simp) trivial fun w5 k5 m5 s5 => ?_
    refine k5.st (by simp) trivial fun w6 k6 m6 s6 => ?_
    refine k6.st (by simp) trivial fun w7 k7 m7 s7 => ?_
    refine k7.st (by simp) trivial fun w8 k8 m8 s8 => ?_
    refine k8.st (by simp) trivial fun w9 k9 m9 s9 => ?_
    have g9 : Grow w3 w9 := hgst (hgst (hgst (hgst (hgst g4 m5) m6) m7) m8) m9
    have hbox : Box w9 r xs[j].1.cells := k9
    refine jn_of (fun b w' => b = false ∧ Grow w3 w') ?_ ?_
    · refine Box.ldA (l := lR) (p := xs[j].1.p) hbox ?_
      refine callF_of (C23 _ _ _ _ _ _) ?_
      rintro c w10 ⟨rfl, g10⟩
      have hok : checkB xs[j].1.p.1 xs[j].1.p.2.1 xs[j].1.p.2.2.1 xs[j].1.p.2.2.2.2 xs[j].1.p.2.2.2.1.len = true := by
        have := okV_rv (hx3.rl.2 xs[j] (by simp))
        rw [hc.1] at this
        exact this.symm
      rw [hok]
      have hbox10 := hbox.grow g10
      refine br_f rfl ?_
      refine hbox10.ld (i := 0) (s := .int .i64) (p := xs[j].1.k) rfl ?_
      rw [hc.2.1]
      refine br_f rfl ?_
      refine hbox10.ld (i := 1) (s := .int .i64) (p := xs[j].1.b) rfl ?_
      rw [hc.2.2]
      exact ⟨by simp, Grow.trans g9 g10⟩
    rintro _ w10 ⟨rfl, g10⟩
    refine br_f rfl ?_
    rw [wrap_succ (by omega)]
    exact ⟨⟨j + 1, rfl, hjl, Grow.trans g3 g10⟩, by omega⟩
  -- the torn page
  refine callF_of (C15 p1 o w3 (h1.grow hg3) (by omega)) ?_
  rintro t w4 ⟨ht, _, g4⟩
  have hg4 := Grow.trans hg3 g4
  have htl : t.len = 256 := by have := ht.bs.len; omega
  refine loop_of (fun i w' => ∃ j : Nat, i = j ∧ j ≤ 256 ∧ Mod t.blk w4 w' ∧ ∃ q, OwnS w' w3.heap.size 1 t (List.map ub q) ∧ q.length = 256 ∧ ∀ i : Nat, q[i]? = o[i]? ∨ q[i]? = n[i]?) (fun i _ => 256 - i.toNat)
    ⟨0, rfl, by omega, Mod.refl _ _, o, ht, ho, fun i => .inl rfl⟩ ?_
  rintro _ w5 ⟨j, rfl, hj, m5, q, hq, hql, hqs⟩
  have hsz3 := hg3.size
  have hg5 : Grow w w5 := Mod.trans hg4 m5 fun b hb hb2 => absurd (OwnS.blk_le ht hb2) (by omega)
  refine br_of (fun hlt => ?_) (fun _ => ?_)
  · simp only [decide_eq_true_eq] at hlt
    have hj2 : j < 256 := by omega
    refine jn_of (fun _ w' => Mod t.blk w5 w' ∧ ∃ q, OwnS w' w3.heap.size 1 t (List.map ub q) ∧ q.length = 256 ∧ ∀ i : Nat, q[i]? = o[i]? ∨ q[i]? = n[i]?) ?_ ?_
    rotate_left
    · rintro ⟨⟩ w6 ⟨m6, h6⟩
      rw [wrap_succ (by omega)]
      exact ⟨⟨j + 1, rfl, hj2, Mod.trans m5 m6 fun _ _ h => h, h6⟩, by omega⟩
    refine jn_of (fun _ w' => w5 = w') ?_ ?_
    · have hdiv : IntKind.wrap .i64 ((j : Int).tdiv 8) = ((j / 8 : Nat) : Int) := by
        rw [show ((j : Int).tdiv 8) = ((j / 8 : Nat) : Int) from rfl, wrap_i64 (by omega)]
      rw [hdiv]
      refine ⟨by decide, br_of (fun h => ?_) (fun _ => rfl)⟩
      simp only [decide_eq_true_eq] at h
      refine ⟨by decide, ?_⟩
      refine at_of (b := m[j / 8]) (h3.grow hg5) (by omega) (by rw [Int.toNat_natCast]; exact List.getElem?_eq_getElem _) ?_
      exact ⟨by decide, Int.tmod_nonneg _ (by omega), rfl⟩
    rintro c _ rfl
    refine br_of (fun _ => ?_) (fun _ => ⟨Mod.refl _ _, q, hq, hql, hqs⟩)
    refine at_of (b := n[j]) (h2.grow hg5) (by omega) (by simp) ?_
    refine put_of hq (by omega) (by simp; omega) fun w6 h6 m6 _ => ?_
    refine ⟨m6, _, h6, by simpa using hql, fun i => ?_⟩
    rw [List.getElem?_set]
    split
    · rename_i hij
      have : i = j := by omega
      subst this
      rw [if_pos (by simp; omega)]
      right
      simp
    · exact hqs i
  -- redone
  have hx5 : OwnRs w5 w1.heap.size l xs := (hx3.grow g4).mod m5 (fun b hb1 hb2 => by
      have h4 := OwnS.blk_le ht hb1
      have h5 := OwnS.blk_lt hx3.own hb2
      omega) (fun x hx' b hb1 hb2 => by
      have h4 := OwnS.blk_le ht hb1
      have h5 := OwnS.blk_lt (hx3.dat x hx') hb2
      omega)
  have hrE : ∀ p : List UInt8, p.length = 256 → redoE p xs = 0 := fun p hp => by
    rw [redoE_rv hx5.rl]
    unfold redoEV
    rw [if_neg (by omega), if_neg]
    rw [List.any_eq_true]
    rintro ⟨v, hv1, hv2⟩
    obtain ⟨x, hx', rfl⟩ := List.mem_map.1 hv1
    rw [(hcell x hx').1] at hv2
    cases hv2
  refine callF_of (C16 p1 l blk o xs w5 (h1.grow hg5) hx5.rl (by omega)) ?_
  rintro ⟨x1, f1⟩ w6 ⟨hf1, hx1, g6⟩
  dsimp only at hf1 hx1 ⊢
  rw [hrE o ho] at hf1
  rw [hrE o ho, if_pos rfl, redoF_rv, hv, redo_cut blk ho hn ho fun i => .inl rfl] at hx1
  have hx6 := hx5.grow g6
  refine callF_of (C16 t l blk q xs w6 (hq.grow g6).bs hx6.rl (by omega)) ?_
  rintro ⟨x2, f2⟩ w7 ⟨hf2, hx2, g7⟩
  dsimp only at hf2 hx2 ⊢
  rw [hrE q hql] at hf2
  rw [hrE q hql, if_pos rfl, redoF_rv, hv, redo_cut blk ho hn hql hqs] at hx2
  subst hf1 hf2
  refine br_t rfl (br_t rfl ?_)
  have hg7 := Grow.trans hg5 (Grow.trans g6 g7)
  refine callF_of (C18 x1 p2 n n w7 (hx1.grow g7).bs (h2.grow hg7)) ?_
  rintro r w8 ⟨hr, hw⟩
  have hr' : r = true := hr.trans (beq_self_eq_true n)
  clear hr
  subst hr' hw
  refine br_t rfl ?_
  refine callF_of (C18 x2 p2 n n _ hx2.bs (h2.grow hg7)) ?_
  rintro r w9 ⟨hr, hw⟩
  subst hw
  exact ⟨hr.trans (beq_self_eq_true n), hg7⟩
end Go.Proofs
