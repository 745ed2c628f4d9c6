import Derived.Test.YtlenkeefncbmcaaC16
set_option linter.unusedVariables false
set_option linter.unusedSimpArgs false
set_option linter.unusedSectionVars false
/-! Collecting what an iterator hands over. -/
namespace Go.Proofs
open Go.Eng

/-- one number is appended -/
theorem app_one {w : World} {n0 : Nat} {t : Sl} {xs : List Int} {b : Nat} {z : Int} {k : Sl → Pr} (h : OwnS w n0 1 t (ints xs)) (hn0 : n0 ≤ w.heap.size) (hb : Box w b [.int .i64 z]) (hl : xs.length ≤ 1000000000)
    (hk : ∀ r w', OwnS w' n0 1 r (ints (xs ++ [z])) → Mod t.blk w w' → (∀ c, r.blk c → t.blk c ∨ w.heap.size ≤ c) → k r w') : app 3 1 8 [.int .i64 0] t ⟨some ⟨b, 0, none⟩, 1, 1⟩ k w := by
  have htl := (owns_ints h).len
  refine app_own2 (vs := ints xs) (new := [.int .i64 z]) h hn0 (fun _ => rfl) (fun h => by cases h) (readsAt_row.2 hb.row) (by simp) rfl (by decide) (by dsimp only; omega) ?_
  intro r w' h1 _ _ _ h5 h6
  exact hk r w' (by rw [ints_append]; exact h1) h5 h6

/-- what a round that appends holds: a variable's block b0 and the slice in it -/
def Acc (w0 w1 : World) (own : Bool) (b0 : Nat) (pre : List Int) (W : World) : Prop :=
  ∃ t, Box W b0 [.slice t.a t.len t.cap] ∧ OwnS W w0.heap.size 1 t (ints pre) ∧ (∀ c, t.blk c → ¬ book w1 own c ∧ c ≠ b0 ∧ w1.heap.size ≤ c) ∧ Grow w0 W

theorem Acc.keep {w0 w1 : World} {own : Bool} {b0 : Nat} {pre : List Int} {W W' : World} (h01 : w0.heap.size ≤ w1.heap.size) (hb : ¬ book w1 own b0) (h : Acc w0 w1 own b0 pre W) (hm : Mod (book w1 own) W W') : Acc w0 w1 own b0 pre W' := by
  obtain ⟨t, h1, h2, h3, h4⟩ := h
  refine ⟨t, h1.mod hm hb, h2.mod hm fun ad ha hS => (h3 _ ⟨ad, ha, rfl⟩).1 hS, h3, Mod.trans h4 hm fun b hlt hS => ?_⟩
  have := hS.1
  omega

/-- the appending itself -/
theorem Acc.push {w0 w1 : World} {own : Bool} {b0 : Nat} {pre : List Int} {W : World} {z : Int} {k : Pr} (hb : ¬ book w1 own b0) (hb0 : w0.heap.size ≤ b0) (h : Acc w0 w1 own b0 pre W) (hsz : w1.heap.size + 2 + (if own = true then 1 else 0) ≤ W.heap.size) (hl : pre.length ≤ 1000000000)
    (hk : ∀ W', Acc w0 w1 own b0 (pre ++ [z]) W' → Mod (notBook w1 own) W W' → Mod (fun c => c = b0 ∨ w1.heap.size ≤ c) W W' → k W') :
    (ldC .slice ⟨b0, 0, none⟩ fun (t8 : Sl) => nw (.cells #[(.int .i64 z)] 3) fun r_1 => app 3 1 8 [(.int .i64 0)] t8 ⟨(some ⟨r_1, 0, none⟩), 1, 1⟩ fun t11 => st ⟨b0, 0, none⟩ (.slice t11.a t11.len t11.cap) k) W := by
  obtain ⟨t, h1, h2, h3, h4⟩ := h
  have h1' : W.cell? ⟨b0, 0, none⟩ = some (.slice t.a t.len t.cap) := h1.row 0 _ rfl
  refine ldC_of (s := .slice) (p := t) h1' ?_
  refine nw_of fun b1 W1 g1 e1 s1 bx => ?_
  have hs4 := h4.size
  refine app_one (h2.grow g1) (by omega) bx hl fun r W2 h5 h6 h7 => ?_
  have hb2 : Box W2 b0 [.slice t.a t.len t.cap] := (h1.grow g1).mod h6 fun hc => (h3 _ hc).2.1 rfl
  have hnb : ∀ c, r.blk c → ¬ book w1 own c ∧ c ≠ b0 ∧ w1.heap.size ≤ c := by
    intro c hc
    rcases h7 c hc with h8 | h8
    · exact h3 c h8
    · have hlt := h1.lt
      refine ⟨fun hB => ?_, by omega, by omega⟩
      have := hB.2
      omega
  have hb3 := hb2.st (i := 0) (v := .slice r.a r.len r.cap) (k := k) (by simp) trivial fun W3 h8 h9 h10 => ?_
  · simpa using hb3
  have hm : Mod (fun c => t.blk c ∨ c = b0) W W3 := Mod.trans (Mod.trans (Grow.mod g1) h6 fun _ _ h => .inl h) h9 fun _ _ h => .inr h
  refine hk W3 ⟨r, h8, h5.mod h9 fun ad ha hS => (hnb _ ⟨ad, ha, rfl⟩).2.1 hS, hnb, ?_⟩ (hm.mono fun c _ hc => ?_) (hm.mono fun c _ hc => hc.elim (fun h => .inr (h3 c h).2.2) .inl)
  · refine Mod.trans h4 hm fun c hlt hc => ?_
    rcases hc with hc | hc
    · have := OwnS.blk_le h2 hc; omega
    · omega
  · rcases hc with hc | hc
    · exact (h3 c hc).1
    · rw [hc]; exact hb

theorem C100 {v : Value} {M : World → Prop} {poss : List Int → Prop} {own : Bool} (hv : IterI v M poss own) (w : World) (hM : ∀ W, Grow w W → M W) (hN : ∀ xs, poss xs → xs.length ≤ 1000000) :
    Calls Try.prog 100 #[.slice none 0 0, v] w (RetT [.c .slice] fun r w' => ∃ xs, poss xs ∧ OwnS w' w.heap.size 1 r (ints xs) ∧ Grow w w') := by
  refine F100_calls ⟨none, 0, 0⟩ v _ _ ?_
  unfold F100
  refine ⟨trivial, nw_of fun b0 w1 g1 e1 s1 bx => ?_⟩
  have hb : ¬ book w1 own b0 := fun h => by have := h.1; omega
  have h01 : w.heap.size ≤ w1.heap.size := by omega
  simp only [deref_some']
  refine rng_of hv (fun pre W => Acc w w1 own b0 pre W) (fun _ _ => False) ⟨⟨none, 0, 0⟩, bx, OwnS.nil _ _ _, fun c ⟨ad, h, _⟩ => by (cases h), g1⟩ (fun pre W W' h hm => h.keep h01 hb hm) (fun _ _ _ h _ => h) (fun pre W ⟨t, _, _, _, h4⟩ => hM W h4) ?_ ?_ (fun _ _ h => h.elim)
  · intro l pre k W0 bg nx lv hU hsuf hsz hbg
    refine hbg _ _ (Mod.refl _ _) fun W1 hm hs hnx _ => ?_
    obtain ⟨suf, hs2⟩ := hsuf
    have hN2 := hN _ hs2
    rw [List.length_append, List.length_cons] at hN2
    refine Acc.push hb (by omega) (hU.keep h01 hb hm) (by omega) (by omega) fun W2 hA hm2 _ => ?_
    exact hnx W2 hm2 hA
  · intro xs W hxs hU hd
    obtain ⟨t, h1, h2, h3, h4⟩ := hU
    have h1' : W.cell? ⟨b0, 0, none⟩ = some (.slice t.a t.len t.cap) := h1.row 0 _ rfl
    refine ldC_of (s := .slice) (p := t) h1' ⟨hd, xs, hxs, ?_⟩
    have hp : Mod (fun b => b = w1.heap.size) W (W.putObj w1.heap.size (.deferred none)) := (Mod.refl _ W).putObj (.inl rfl)
    refine ⟨h2.mod hp fun ad ha hS => (h3 _ ⟨ad, ha, rfl⟩).1 ?_, Mod.trans h4 hp fun c hlt hc => by omega⟩
    rw [hS]
    exact ⟨Nat.le_refl _, by omega⟩
end Go.Proofs
