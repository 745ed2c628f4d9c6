import Derived.Test.YtlenkeefncbmcaaC5
set_option linter.unusedVariables false
set_option linter.unusedSimpArgs false
set_option linter.unusedSectionVars false
/-! Layer 8, contracts: Same, Clone. -/
namespace Go.Proofs
open Go.Eng

abbrev aggR (r : Rw) : Value := .agg #[.int .i64 r.k, .int .i64 r.b, .int .i64 r.o, .slice r.s.a r.s.len r.s.cap, .int .i64 r.m]

theorem C60 (x y : Rc) (w : World) (hx : BS w x.1.s x.2) (hy : BS w y.1.s y.2) : Calls Try.prog 60 #[aggR x.1, aggR y.1] w (RetT [.c .bool] fun r w' => r = decide (rv x = rv y) ∧ Grow w w') := by
  refine F60_calls _ _ _ _ _ _ _ _ _ _ _ _ ?_
  unfold F60
  refine nw_of fun b1 w1 g1 _ _ bx => nw_of fun b2 w2 g2 _ _ hby => ?_
  have hg := Grow.trans g1 g2
  have hbx := bx.grow g2
  have hx' := hx.grow hg
  have hy' := hy.grow hg
  simp only [deref_some']
  refine hbx.ld (i := 0) (s := .int .i64) (p := x.1.k) rfl ?_
  refine hby.ld (i := 0) (s := .int .i64) (p := y.1.k) rfl ?_
  refine br_of (fun h => ?_) (fun h => ⟨?_, hg⟩)
  rotate_left
  · simp only [beq_eq_false_iff_ne] at h
    symm
    simp [rv, h]
  simp only [beq_iff_eq] at h
  refine hbx.ld (i := 1) (s := .int .i64) (p := x.1.b) rfl ?_
  refine hby.ld (i := 1) (s := .int .i64) (p := y.1.b) rfl ?_
  refine br_of (fun h2 => ?_) (fun h2 => ⟨?_, hg⟩)
  rotate_left
  · simp only [beq_eq_false_iff_ne] at h2
    symm
    simp [rv, h2]
  simp only [beq_iff_eq] at h2
  refine hbx.ld (i := 2) (s := .int .i64) (p := x.1.o) rfl ?_
  refine hby.ld (i := 2) (s := .int .i64) (p := y.1.o) rfl ?_
  refine br_of (fun h3 => ?_) (fun h3 => ⟨?_, hg⟩)
  rotate_left
  · simp only [beq_eq_false_iff_ne] at h3
    symm
    simp [rv, h3]
  simp only [beq_iff_eq] at h3
  refine hbx.ld (i := 3) (s := .slice) (p := x.1.s) rfl ?_
  refine b2s_of hx' ?_
  refine hby.ld (i := 3) (s := .slice) (p := y.1.s) rfl ?_
  refine b2s_of hy' ?_
  rw [bytesOf_toList, bytesOf_toList]
  refine br_of (fun h4 => ?_) (fun h4 => ⟨?_, hg⟩)
  rotate_left
  · simp only [beq_eq_false_iff_ne] at h4
    symm
    simp [rv, h4]
  simp only [beq_iff_eq] at h4
  refine hbx.ld (i := 4) (s := .int .i64) (p := x.1.m) rfl ?_
  refine hby.ld (i := 4) (s := .int .i64) (p := y.1.m) rfl ?_
  refine ⟨?_, hg⟩
  rw [Bool.eq_iff_iff]
  simp [rv, h, h2, h3, h4]

abbrev lR : List CS := [.int .i64, .int .i64, .int .i64, .slice, .int .i64]

/-- a record of a list -/
theorem rec_of {w : World} {s : Sl} {xs : List Rc} {j : Nat} {k : Int × Int × Int × Sl × Int → Pr} (h : RL w s xs) (hj : j < xs.length) (hk : k xs[j].1.p w) :
    (owe ((0 : Int) ≤ (j : Int) ∧ (j : Int) < (s.len : Int)) <| deref s.a fun a => deref (some (a.add (Int.toNat j * 5))) fun a1 => ldA [.int .i64, .int .i64, .int .i64, .slice, .int .i64] a1 k) w := by
  have hl := h.len
  obtain ⟨ad, ha, hrow⟩ := h.1.get (n := 5) Rw.cells_len (i := j) (r := xs[j].1) (by simp [hj]) (by omega)
  refine ⟨by omega, ?_⟩
  rw [ha]
  simp only [deref_some, Int.toNat_natCast]
  exact ldA_of (p := xs[j].1.p) (Rw.reads hrow) hk

theorem C21 (s t : Sl) (xs ys : List Rc) (w : World) (hs : RL w s xs) (ht : RL w t ys) (hb : s.len ≤ 100000000000) : Calls Try.prog 21 #[.slice s.a s.len s.cap, .slice t.a t.len t.cap] w
    (RetT [.c .bool] fun r w' => r = decide (xs.map rv = ys.map rv) ∧ Grow w w') := by
  refine F21_calls s t _ _ ?_
  unfold F21
  have hsl := hs.len
  have htl := ht.len
  refine br_of (fun h => ⟨?_, Mod.refl _ _⟩) (fun h => ?_)
  · simp only [bne_iff_ne, ne_eq] at h
    symm
    rw [decide_eq_false_iff_not]
    intro he
    have := congrArg List.length he
    simp only [List.length_map] at this
    omega
  have hl : xs.length = ys.length := by
    simp only [bne_eq_false_iff_eq] at h
    omega
  refine loop_of (fun i w' => ∃ j : Nat, i = j ∧ j ≤ xs.length ∧ Grow w w' ∧ ∀ k (h : k < j) (h1 : k < xs.length) (h2 : k < ys.length), rv xs[k] = rv ys[k]) (fun i _ => xs.length - i.toNat)
    ⟨0, rfl, by omega, Mod.refl _ _, fun k h => by omega⟩ ?_
  rintro _ w1 ⟨j, rfl, hj, hg, hall⟩
  refine br_of (fun hlt => ?_) (fun hge => ⟨?_, hg⟩)
  · simp only [decide_eq_true_eq] at hlt
    have hjx : j < xs.length := by omega
    have hjy : j < ys.length := by omega
    have hgd := Mod.drew hg
    refine rec_of (⟨hs.1.grow hgd, fun x hx => (hs.2 x hx).grow hgd⟩ : RL _ s xs) hjx ?_
    refine rec_of (⟨ht.1.grow hgd, fun x hx => (ht.2 x hx).grow hgd⟩ : RL _ t ys) hjy ?_
    refine callF_of (C60 xs[j] ys[j] _ ((hs.2 _ (by simp)).grow hgd) ((ht.2 _ (by simp)).grow hgd)) ?_
    rintro r w2 ⟨rfl, hg2⟩
    have hg3 := Grow.trans hgd hg2
    refine br_of (fun hb => ⟨?_, hg3⟩) (fun hb => ?_)
    · simp only [Bool.not_eq_true', decide_eq_false_iff_not] at hb
      symm
      rw [decide_eq_false_iff_not]
      intro he
      apply hb
      have := congrArg (fun l => l[j]?) he
      simpa [hjx, hjy] using this
    · simp only [Bool.not_eq_false', decide_eq_true_eq] at hb
      rw [wrap_succ (by omega)]
      refine ⟨⟨j + 1, rfl, by omega, hg3, fun k h h1 h2 => ?_⟩, by omega⟩
      rcases Nat.lt_or_ge k j with h' | h'
      · exact hall k h' h1 h2
      · have : k = j := by omega
        subst this
        exact hb
  · simp only [decide_eq_false_iff_not] at hge
    symm
    rw [decide_eq_true_eq]
    refine List.ext_getElem (by simpa using hl) fun k h1 h2 => ?_
    simp only [List.length_map] at h1 h2
    simpa using hall k (by omega) h1 h2

/-- the walk of both Clones behind the copy -/
theorem clone_tail {w w3 : World} {x : Rw} {d : Sl} {l : List UInt8} {b1 b2 : Nat} {Q : Int × Int × Int × Sl × Int → Pr} (h1 : Box w3 b1 x.cells) (h2 : Box w3 b2 zRec) (hne : b1 ≠ b2) (hg : Grow w w3) (hb1 : w.heap.size ≤ b1) (hb2 : w.heap.size ≤ b2)
    (hd : OwnS w3 (w.heap.size + 2) 1 d (l.map ub)) (hbb : b1 < w.heap.size + 2 ∧ b2 < w.heap.size + 2) (hk : ∀ w', OwnS w' w.heap.size 1 d (l.map ub) → Grow w w' → Q ({ x with s := d } : Rw).p w') :
    (st (Addr.add ⟨b1, 0, none⟩ 3) (.slice d.a d.len d.cap) <| ldA [.int .i64, .int .i64, .int .i64, .slice, .int .i64] ⟨b1, 0, none⟩ fun (t7 : Int × Int × Int × Sl × Int) =>
      st (Addr.add ⟨b2, 0, none⟩ 0) (.int .i64 t7.1) <| st (Addr.add ⟨b2, 0, none⟩ 1) (.int .i64 t7.2.1) <| st (Addr.add ⟨b2, 0, none⟩ 2) (.int .i64 t7.2.2.1) <|
      st (Addr.add ⟨b2, 0, none⟩ 3) (.slice t7.2.2.2.1.a t7.2.2.2.1.len t7.2.2.2.1.cap) <| st (Addr.add ⟨b2, 0, none⟩ 4) (.int .i64 t7.2.2.2.2) <|
      ldA [.int .i64, .int .i64, .int .i64, .slice, .int .i64] ⟨b2, 0, none⟩ Q) w3 := by
  refine h1.st (by simp) trivial fun w4 k1 m1 s1 => ?_
  refine Box.ldA (l := lR) (p := ({ x with s := d } : Rw).p) k1 ?_
  have h2' := h2.mod m1 (fun h => hne h.symm)
  refine h2'.st (by simp) trivial fun w5 k5 m5 s5 => ?_
  refine k5.st (by simp) trivial fun w6 k6 m6 s6 => ?_
  refine k6.st (by simp) trivial fun w7 k7 m7 s7 => ?_
  refine k7.st (by simp) trivial fun w8 k8 m8 s8 => ?_
  refine k8.st (by simp) trivial fun w9 k9 m9 s9 => ?_
  refine Box.ldA (l := lR) (p := ({ x with s := d } : Rw).p) k9 ?_
  have hm : Mod (fun b => b = b1 ∨ b = b2) w3 w9 := by
    refine Mod.trans (Mod.trans (Mod.trans (Mod.trans (Mod.trans (Mod.mono (T := fun b => b = b1 ∨ b = b2) m1 fun _ _ h => .inl h) m5 ?_) m6 ?_) m7 ?_) m8 ?_) m9 ?_ <;> exact fun _ _ h => .inr h
  refine hk w9 ((hd.mod hm fun ad ha hS => ?_).weaken (by omega)) (Mod.trans hg hm fun b hb hS => ?_)
  · have := OwnS.blk_le hd ⟨ad, ha, rfl⟩
    omega
  · omega

theorem C61 (x : Rc) (w : World) (hx : BS w x.1.s x.2) (hb : x.1.s.len ≤ 100000000000000) : Calls Try.prog 61 #[aggR x.1] w (RetT [.agg [.int .i64, .int .i64, .int .i64, .slice, .int .i64]] fun r w' =>
      (∃ d, r = ({ x.1 with s := d } : Rw).p ∧ OwnS w' w.heap.size 1 d (x.2.map ub)) ∧ Grow w w') := by
  refine F61_calls _ _ _ _ _ _ _ ?_
  unfold F61
  refine nw_of fun b1 w1 g1 e1 s1 hb1 => nw_of fun b2 w2 g2 e2 s2 hb2 => ?_
  have hg := Grow.trans g1 g2
  have hb1' := hb1.grow g2
  simp only [deref_some]
  refine hb1'.ld (i := 3) (s := .slice) (p := x.1.s) rfl ?_
  refine callF_of (C15 x.1.s x.2 _ (hx.grow hg) hb) ?_
  rintro d w3 ⟨hd, _, hg3⟩
  simp only [deref_some']
  refine clone_tail (x := x.1) (l := x.2) (hb1'.grow hg3) (hb2.grow hg3) (by omega) (Grow.trans hg hg3) (by omega) (by omega) (by rwa [s2, s1] at hd) (by omega) ?_
  intro w' h1 h2
  exact ⟨⟨d, rfl, h1⟩, h2⟩

theorem C62 (x : Rc) (w : World) (hx : BS w x.1.s x.2) (hb : x.1.s.len ≤ 100000000000000) : Calls Try.prog 62 #[aggR x.1] w (RetT [.agg [.int .i64, .int .i64, .int .i64, .slice, .int .i64]] fun r w' =>
      (∃ d, r = ({ x.1 with s := d } : Rw).p ∧ OwnS w' w.heap.size 1 d (x.2.map ub)) ∧ Grow w w') := by
  refine F62_calls _ _ _ _ _ _ _ ?_
  unfold F62
  refine nw_of fun b1 w1 g1 e1 s1 hb1 => nw_of fun b2 w2 g2 e2 s2 hb2 => ?_
  have hg := Grow.trans g1 g2
  have hb1' := hb1.grow g2
  simp only [deref_some]
  refine hb1'.ld (i := 3) (s := .slice) (p := x.1.s) rfl ?_
  refine clone_app (hx.grow hg) hb ?_
  intro d w3 hd hg3
  simp only [deref_some']
  refine clone_tail (x := x.1) (l := x.2) (hb1'.grow hg3) (hb2.grow hg3) (by omega) (Grow.trans hg hg3) (by omega) (by omega) (by rwa [s2, s1] at hd) (by omega) ?_
  intro w' h1 h2
  exact ⟨⟨d, rfl, h1⟩, h2⟩
end Go.Proofs
