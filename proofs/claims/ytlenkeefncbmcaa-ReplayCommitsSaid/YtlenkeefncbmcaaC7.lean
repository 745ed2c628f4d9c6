import Derived.Test.YtlenkeefncbmcaaC6
set_option linter.unusedVariables false
set_option linter.unusedSimpArgs false
set_option linter.unusedSectionVars false
/-! Layer 8, contracts: Committed. -/
namespace Go.Proofs
open Go.Eng

def okV (v : Rv) : Bool := checkB v.1 v.2.1 v.2.2.1 v.2.2.2.1 v.2.2.2.2.length
def comGo : List Rv → List Rv → List Rv → Nat → Nat → List Rv × Nat
  | [], out, _, n, _ => (out, n)
  | x :: xs, out, wait, n, i =>
    if okV x = false then (out, n) else if x.1 = 1 then comGo xs out (wait ++ [x]) n (i + 1)
    else if x.2.2.2.1 ≠ (wait.length : Int) then (out, n) else comGo xs (out ++ wait) [] (i + 1) (i + 1)
def com (xs : List Rv) : List Rv × Nat := comGo xs [] [] 0 0

/-- two lists of records, what counts and what waits -/
structure Two (w : World) (n0 : Nat) (a b : Sl) (xo xw : List Rc) : Prop where
  o : OwnRs w n0 a xo
  p : OwnRs w n0 b xw
  pw : (xo ++ xw).Pairwise fun x y => Apart x.1.s y.1.s
  ow : ∀ x ∈ xw, Apart a x.1.s
  wo : ∀ x ∈ xo, Apart b x.1.s
  ab : Apart a b

theorem Apart.nil (s : Sl) : Apart s ⟨none, 0, 0⟩ := fun b _ ⟨ad, h, _⟩ => by cases h

theorem Two.nil (w : World) (n0 : Nat) : Two w n0 ⟨none, 0, 0⟩ ⟨none, 0, 0⟩ [] [] := ⟨OwnRs.nil _ _, OwnRs.nil _ _, .nil, by simp, by simp, Apart.nil _⟩
theorem Two.grow {w w' : World} {n0 : Nat} {a b : Sl} {xo xw : List Rc} (h : Two w n0 a b xo xw) (hg : Grow w w') : Two w' n0 a b xo xw := ⟨h.o.grow hg, h.p.grow hg, h.pw, h.ow, h.wo, h.ab⟩

theorem Two.push {w0 w : World} {n0 : Nat} {a b : Sl} {xo xw : List Rc} {x : Rc} {k : Sl → Pr} (h : Two w0 n0 a b xo xw) (hn0 : n0 ≤ w0.heap.size) (hg : Grow w0 w)
    (hd : OwnS w w0.heap.size 1 x.1.s (x.2.map ub)) (hb : xw.length < 100000000000) (hk : ∀ r w', Two w' n0 a r xo (xw ++ [x]) → Mod b.blk w w' → k r w') :
    app 37 5 56 zRec b ⟨some ⟨w.heap.size, 0, none⟩, 1, 1⟩ k (w.alloc (.cells x.1.cells.toArray 37)) := by
  refine OwnRs.push h.p hn0 hg hd hb ?_
  intro r w' h1 h2 h3
  have hsz := hg.size
  have hlt : ∀ {b}, x.1.s.blk b → w0.heap.size ≤ b := fun h => OwnS.blk_le hd h
  refine hk r w' ⟨(h.o.grow hg).mod h2 (fun c hc1 hc2 => h.ab c hc2 hc1) (fun y hy c hc1 hc2 => h.wo y hy c hc1 hc2), h1, ?_, ?_, ?_, ?_⟩ h2
  · rw [← List.append_assoc, List.pairwise_append]
    refine ⟨h.pw, List.pairwise_singleton _ _, fun y hy c hc b' hb1 hb2 => ?_⟩
    rw [List.mem_singleton] at hc
    subst hc
    have h4 := hlt hb2
    rcases List.mem_append.1 hy with hy | hy
    · have h5 := OwnS.blk_lt (h.o.dat y hy) hb1; omega
    · have h5 := OwnS.blk_lt (h.p.dat y hy) hb1; omega
  · intro y hy c hc1 hc2
    rcases List.mem_append.1 hy with hy | hy
    · exact h.ow y hy c hc1 hc2
    · rw [List.mem_singleton] at hy
      subst hy
      have h4 := hlt hc2
      have h5 := OwnS.blk_lt h.o.own hc1
      omega
  · intro y hy c hc1 hc2
    rcases h3 c hc1 with h4 | h4
    · exact h.wo y hy c h4 hc2
    · have h5 := OwnS.blk_lt (h.o.dat y hy) hc2; omega
  · intro c hc1 hc2
    rcases h3 c hc2 with h4 | h4
    · exact h.ab c hc1 h4
    · have h5 := OwnS.blk_lt h.o.own hc1; omega

theorem Two.join {w : World} {n0 : Nat} {a b : Sl} {xo xw : List Rc} {k : Sl → Pr} (h : Two w n0 a b xo xw) (hn0 : n0 ≤ w.heap.size) (hb : xo.length + xw.length ≤ 100000000000)
    (hk : ∀ r w', Two w' n0 r ⟨none, 0, 0⟩ (xo ++ xw) [] → Mod a.blk w w' → k r w') : app 37 5 56 zRec a b k w := by
  refine OwnRs.more h.o hn0 h.p.own.reads h.p.len h.p.dat h.ow h.pw hb ?_
  intro r w' h1 h2 h3
  exact hk r w' ⟨h1, OwnRs.nil _ _, by simpa using h1.pw, by simp, fun x _ => (Apart.nil _).symm, Apart.nil _⟩ h2

theorem comGo_len : ∀ (xs out wait : List Rv) (n i : Nat), n ≤ i → (comGo xs out wait n i).2 ≤ i + xs.length
  | [], out, wait, n, i, h => by simpa [comGo] using h
  | x :: xs, out, wait, n, i, h => by
    unfold comGo
    simp only [List.length_cons]
    split
    · dsimp only; omega
    · split
      · have := comGo_len xs out (wait ++ [x]) n (i + 1) (by omega)
        omega
      · split
        · dsimp only; omega
        · have := comGo_len xs (out ++ wait) [] (i + 1) (i + 1) (by omega)
          omega

theorem okV_rv {w : World} {x : Rc} (h : BS w x.1.s x.2) : okV (rv x) = x.1.ok := by
  unfold okV Rw.ok rv
  rw [h.len]

theorem com_step {xs : List Rc} {j : Nat} (hj : j < xs.length) (out wait : List Rv) (n : Nat) : comGo ((xs.drop j).map rv) out wait n j =
    if okV (rv xs[j]) = false then (out, n) else if xs[j].1.k = 1 then comGo ((xs.drop (j + 1)).map rv) out (wait ++ [rv xs[j]]) n (j + 1)
    else if xs[j].1.m ≠ (wait.length : Int) then (out, n) else comGo ((xs.drop (j + 1)).map rv) (out ++ wait) [] (j + 1) (j + 1) := by
  rw [List.drop_eq_getElem_cons hj, List.map_cons, comGo]
  rfl

/-- the loop of both Committed: what is known at record j -/
def ComI (w : World) (xs : List Rc) (a b : Sl) (n i : Int) (w' : World) : Prop :=
  ∃ (j m : Nat), i = j ∧ j ≤ xs.length ∧ n = m ∧ Grow w w' ∧ ∃ xo xw, Two w' w.heap.size a b xo xw ∧ xo.length + xw.length ≤ j ∧ comGo ((xs.drop j).map rv) (xo.map rv) (xw.map rv) m j = com (xs.map rv)

def ComQ (w : World) (xs : List Rc) (a : Sl) (n : Int) (w' : World) : Prop :=
  n = (com (xs.map rv)).2 ∧ (∃ ys, OwnRs w' w.heap.size a ys ∧ ys.map rv = (com (xs.map rv)).1) ∧ Grow w w'

theorem com_done {w w' : World} {xs : List Rc} {a b : Sl} {m j : Nat} {xo xw : List Rc} (h : Two w' w.heap.size a b xo xw) (hg : Grow w w') (he : comGo ((xs.drop j).map rv) (xo.map rv) (xw.map rv) m j = com (xs.map rv))
    (hs : comGo ((xs.drop j).map rv) (xo.map rv) (xw.map rv) m j = (xo.map rv, m)) : ComQ w xs a m w' := by
  rw [hs] at he
  exact ⟨by rw [← he], ⟨xo, h.o, by rw [← he]⟩, hg⟩

theorem C24 (s : Sl) (xs : List Rc) (w : World) (h : RL w s xs) (hl : s.len ≤ 1000000) : Calls Try.prog 24 #[.slice s.a s.len s.cap] w (RetT [.c .slice, .c (.int .i64)] fun r w' => ComQ w xs r.1 r.2 w') := by
  refine F24_calls s _ _ ?_
  unfold F24
  have hsl := h.len
  refine jn_of (fun r w' => ComQ w xs r.1 r.2 w') ?_ (fun r w' h => h)
  refine loop_of (fun t w' => ComI w xs t.1 t.2.1 t.2.2.1 t.2.2.2 w') (fun t _ => xs.length - t.2.2.2.toNat)
    ⟨0, 0, rfl, by omega, rfl, Mod.refl _ _, [], [], Two.nil _ _, by simp, rfl⟩ ?_
  rintro ⟨a, b, _, _⟩ w1 ⟨j, m, rfl, hj, rfl, hg, xo, xw, ht, hxl, he⟩
  dsimp only
  refine br_of (fun hlt => ?_) (fun hge => ?_)
  rotate_left
  · simp only [decide_eq_false_iff_not] at hge
    have : j = xs.length := by omega
    subst this
    refine com_done ht hg he ?_
    simp [comGo]
  simp only [decide_eq_true_eq] at hlt
  have hjl : j < xs.length := by omega
  have hbj := h.2 xs[j] (by simp)
  refine jn_of (fun t w' => ComI w xs t.1 t.2.1 t.2.2 ((j + 1 : Nat) : Int) w') ?_ ?_
  rotate_left
  · rintro t w' g1
    rw [wrap_succ (by omega)]
    refine ⟨g1, ?_⟩
    omega
  rw [com_step hjl] at he
  refine rec_of (⟨h.1.grow hg, fun x hx => (h.2 x hx).grow hg⟩ : RL _ s xs) hjl ?_
  refine nw_of fun r w2 g2 e2 s2 bx => ?_
  simp only [deref_some']
  have hg2 := Grow.trans hg g2
  have hgst : ∀ {w4 w5 : World}, Grow w1 w4 → Mod (· = r) w4 w5 → Grow w1 w5 := fun h4 h5 => Mod.trans h4 h5 fun c hc1 hc2 => by omega
  refine bx.st (by simp) trivial fun w3 k3 m3 s3 => ?_
  refine k3.st (by simp) trivial fun w4 k4 m4 s4 => ?_
  refine k4.st (by simp) trivial fun w5 k5 m5 s5 => ?_
  refine k5.st (by simp) trivial fun w6 k6 m6 s6 => ?_
  refine k6.st (by simp) trivial fun w7 k7 m7 s7 => ?_
  have g7 : Grow w1 w7 := hgst (hgst (hgst (hgst (hgst g2 m3) m4) m5) m6) m7
  have hbox : Box w7 r xs[j].1.cells := k7
  refine Box.ldA (l := lR) (p := xs[j].1.p) hbox ?_
  refine callF_of (C59 _ _ _ _ _ _) ?_
  rintro c w8 ⟨rfl, g8⟩
  have g18 := Grow.trans g7 g8
  have gw8 := Grow.trans hg g18
  have hbox8 := hbox.grow g8
  have hok : checkB xs[j].1.p.1 xs[j].1.p.2.1 xs[j].1.p.2.2.1 xs[j].1.p.2.2.2.2 xs[j].1.p.2.2.2.1.len = xs[j].1.ok := rfl
  rw [hok]
  have hokv := okV_rv hbj
  refine br_of (fun hc => ?_) (fun hc => ?_)
  · have : xs[j].1.ok = false := by
      cases hh : xs[j].1.ok
      · rfl
      · rw [hh] at hc; simp at hc
    rw [hokv, if_pos this] at he
    exact ⟨by rw [← he], ⟨xo, ht.o.grow g18, by rw [← he]⟩, gw8⟩
  have hokt : xs[j].1.ok = true := by
    cases hh : xs[j].1.ok
    · rw [hh] at hc; simp at hc
    · rfl
  rw [hokv, if_neg (by simp [hokt])] at he
  refine hbox8.ld (i := 0) (s := .int .i64) (p := xs[j].1.k) rfl ?_
  refine br_of (fun hk1 => ?_) (fun hk1 => ?_)
  · simp only [beq_iff_eq] at hk1
    rw [if_pos hk1] at he
    refine Box.ldA (l := lR) (p := xs[j].1.p) hbox8 ?_
    have hb8 := hbj.grow gw8
    have hbd := ok_bounds hokt
    refine callF_of (C61 xs[j] _ hb8 (by omega)) ?_
    rintro q w9 ⟨⟨d, rfl, hd⟩, g9⟩
    rw [nw_def]
    refine Two.push (w0 := w8) (x := (({ xs[j].1 with s := d } : Rw), xs[j].2)) (ht.grow g18) gw8.size g9 hd (by omega) ?_
    intro r' w10 h10 m10
    refine ⟨j + 1, m, rfl, hjl, rfl, ?_, xo, _, h10, by simp only [List.length_append, List.length_singleton]; omega, ?_⟩
    · exact Mod.trans (Grow.trans gw8 g9) m10 fun c hc1 hc2 => absurd (OwnS.blk_le ht.p.own hc2) (by omega)
    · rw [List.map_append, ← he]
      rfl
  · simp only [beq_eq_false_iff_ne] at hk1
    rw [if_neg hk1] at he
    refine hbox8.ld (i := 4) (s := .int .i64) (p := xs[j].1.m) rfl ?_
    have hwl := ht.p.len
    refine br_of (fun hm => ?_) (fun hm => ?_)
    · simp only [bne_iff_ne, ne_eq] at hm
      have hm' : ¬ xs[j].1.m = (b.len : Int) := hm
      have hm2 : xs[j].1.m ≠ ((xw.map rv).length : Int) := by rw [List.length_map, ← hwl]; exact hm'
      rw [if_pos hm2] at he
      exact ⟨by rw [← he], ⟨xo, ht.o.grow g18, by rw [← he]⟩, gw8⟩
    · simp only [bne_eq_false_iff_eq] at hm
      have hm' : xs[j].1.m = (b.len : Int) := hm
      have hm2 : ¬ xs[j].1.m ≠ ((xw.map rv).length : Int) := by rw [List.length_map, ← hwl]; exact fun h => h hm'
      rw [if_neg hm2] at he
      refine Two.join (ht.grow g18) gw8.size (by omega) ?_
      intro r' w10 h10 m10
      rw [wrap_succ (by omega)]
      refine ⟨j + 1, j + 1, rfl, hjl, rfl, ?_, _, _, h10, by simp only [List.length_append, List.length_nil]; omega, ?_⟩
      · exact Mod.trans gw8 m10 fun c hc1 hc2 => absurd (OwnS.blk_le ht.o.own hc2) (by omega)
      · rw [List.map_append, ← he]
        rfl
end Go.Proofs
