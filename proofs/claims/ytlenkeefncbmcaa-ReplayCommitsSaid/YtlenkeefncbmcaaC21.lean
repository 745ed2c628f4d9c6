import Derived.Test.YtlenkeefncbmcaaC20
set_option linter.unusedVariables false
set_option linter.unusedSimpArgs false
set_option linter.unusedSectionVars false
/-! Layer 8, contracts: told, slices.Equal at whole numbers. -/
namespace Go.Proofs
open Go.Eng

theorem C28 {v : Value} {M : World → Prop} {l : List Int} {own : Bool} (hv : IterI v M (fun xs => xs = l) own) (most : Int) (w : World) (hM : ∀ W, Grow w W → M W) (hN : l.length ≤ 1000000) (hm0 : 0 ≤ most) :
    Calls Try.prog 28 #[v, .int .i64 most] w (RetT [.c .slice] fun r w' => OwnS w' w.heap.size 1 r (ints (l.take most.toNat)) ∧ Grow w w') := by
  refine F28_calls v most _ _ ?_
  unfold F28
  have hv' := hv
  obtain ⟨f, caps, rfl, _, _⟩ := hv'
  refine ⟨trivial, nw_of fun b0 w1 g1 e1 s1 bx0 => ⟨trivial, nw_of fun b1 w2 g2 e2 s2 bx1 => ⟨.inl trivial, br_f rfl ?_⟩⟩⟩
  simp only [deref_some']
  have hb1 : ¬ book w2 own b1 := fun h => by have := h.1; omega
  have hb0 : ¬ book w2 own b0 := fun h => by have := h.1; omega
  have h02 : w.heap.size ≤ w2.heap.size := by omega
  have hg2 := Grow.trans g1 g2
  refine jn_of (fun s W => s.1 = [w2.heap.size] ∧ W.heap[w2.heap.size]? = some (.deferred (some [])) ∧ Acc w w2 own b1 (l.take most.toNat) W) ?_ ?_
  · refine rng_of hv (fun pre W => Acc w w2 own b1 pre W ∧ Box W b0 [.int .i64 most] ∧ pre.length ≤ most.toNat) (fun j W => j = some 0 ∧ Acc w w2 own b1 (l.take most.toNat) W)
      ⟨⟨⟨none, 0, 0⟩, bx1, OwnS.nil _ _ _, fun c ⟨ad, h, _⟩ => by (cases h), hg2⟩, bx0.grow g2, by simp⟩ (fun pre W W' h hm => ⟨h.1.keep h02 hb1 hm, h.2.1.mod hm hb0, h.2.2⟩) (fun j W W' h hm => ⟨h.1, h.2.keep h02 hb1 hm⟩) (fun pre W ⟨⟨t, _, _, _, h4⟩, _⟩ => hM W h4) ?_ ?_ ?_
    · intro l' pre k W0 bg nx lv hU hsuf hsz hbg
      refine hbg _ _ (Mod.refl _ _) fun W1 hm hs hnx hlv => ?_
      obtain ⟨suf, hs2⟩ := hsuf
      have hN2 := congrArg List.length hs2
      rw [List.length_append, List.length_cons] at hN2
      have hA := hU.1.keep h02 hb1 hm
      have hB := hU.2.1.mod hm hb0
      obtain ⟨t, h1, h2, h3, h4⟩ := hA
      have htl := (owns_ints h2).len
      have h1' : W1.cell? ⟨b1, 0, none⟩ = some (.slice t.a t.len t.cap) := h1.row 0 _ rfl
      refine ldC_of (s := .slice) (p := t) h1' ?_
      refine ldC_of (s := .int .i64) (p := most) (hB.row 0 _ rfl) ?_
      refine br_of (fun hge => ?_) (fun hlt => ?_)
      · simp only [ge_iff_le, decide_eq_true_eq] at hge
        refine hlv _ W1 (Mod.refl _ _) ⟨rfl, ?_⟩
        have hpl : pre.length = most.toNat := by have := hU.2.2; omega
        have hpre : l.take most.toNat = pre := by rw [← hs2, ← hpl]; simp
        rw [hpre]
        exact ⟨t, h1, h2, h3, h4⟩
      · simp only [ge_iff_le, decide_eq_false_iff_not] at hlt
        refine Acc.push (own := own) (w0 := w) (w1 := w2) (pre := pre) hb1 (by omega) ⟨t, h1, h2, h3, h4⟩ (by omega) (by omega) fun W2 hA2 hm2 hm3 => ?_
        refine hnx W2 hm2 ⟨hA2, hB.mod hm3 (by omega), ?_⟩
        simp only [List.length_append, List.length_singleton]
        omega
    · rintro xs W rfl ⟨hA, hB, hle⟩ hd
      refine ⟨rfl, hd, ?_⟩
      rw [List.take_of_length_le hle]
      exact hA
    · rintro j W ⟨rfl, hA⟩ hd
      exact ⟨rfl, hd, hA⟩
  rintro ⟨ds, ⟨⟩⟩ W ⟨hds, hd, t, h1, h2, h3, h4⟩
  dsimp only at hds
  subst hds
  refine ldC_of (s := .slice) (p := t) (h1.row 0 _ rfl) ⟨hd, ?_⟩
  have hp : Mod (fun b => b = w2.heap.size) W (W.putObj w2.heap.size (.deferred none)) := (Mod.refl _ W).putObj (.inl rfl)
  refine ⟨h2.mod hp fun ad ha hS => (h3 _ ⟨ad, ha, rfl⟩).1 ?_, Mod.trans h4 hp fun c hlt hc => by omega⟩
  rw [hS]
  exact ⟨Nat.le_refl _, by omega⟩

theorem C27 (s t : Sl) (a b : List Int) (w : World) (hs : IS w s a) (ht : IS w t b) (hb : s.len ≤ 1000000000) : Calls Try.prog 27 #[.slice s.a s.len s.cap, .slice t.a t.len t.cap] w
    (RetT [.c .bool] fun r w' => r = decide (a = b) ∧ Grow w w') := by
  refine F27_calls s t _ _ ?_
  unfold F27
  have hsl := hs.len
  have htl := ht.len
  refine br_of (fun h => ⟨?_, Mod.refl _ _⟩) (fun h => ?_)
  · simp only [bne_iff_ne, ne_eq] at h
    symm
    rw [decide_eq_false_iff_not]
    rintro rfl
    omega
  have hl : a.length = b.length := by
    simp only [bne_eq_false_iff_eq] at h
    omega
  refine loop_of (fun i w' => ∃ j : Nat, i = j ∧ j ≤ a.length ∧ Grow w w' ∧ ∀ k (h : k < j) (h1 : k < a.length) (h2 : k < b.length), a[k] = b[k]) (fun i _ => a.length - i.toNat)
    ⟨0, rfl, by omega, Mod.refl _ _, fun k h => by omega⟩ ?_
  rintro _ w1 ⟨j, rfl, hj, hg, hall⟩
  refine br_of (fun hlt => ?_) (fun hge => ⟨?_, hg⟩)
  · simp only [decide_eq_true_eq] at hlt
    have hja : j < a.length := by omega
    have hjb : j < b.length := by omega
    have hgd := Mod.drew hg
    refine iat_of (i := (j : Int)) (b := a[j]) (hs.grow hgd) (by omega) (by simp) ?_
    refine iat_of (i := (j : Int)) (b := b[j]) (ht.grow hgd) (by omega) (by simp) ?_
    refine br_of (fun hne => ⟨?_, hgd⟩) (fun heq => ?_)
    · simp only [bne_iff_ne, ne_eq] at hne
      symm
      rw [decide_eq_false_iff_not]
      rintro rfl
      exact hne rfl
    · simp only [bne_eq_false_iff_eq] at heq
      rw [wrap_succ (by omega)]
      refine ⟨⟨j + 1, rfl, hja, hgd, fun k h h1 h2 => ?_⟩, by omega⟩
      rcases Nat.lt_or_ge k j with h' | h'
      · exact hall k h' h1 h2
      · have : k = j := by omega
        subst this
        exact heq
  · simp only [decide_eq_false_iff_not] at hge
    symm
    rw [decide_eq_true_eq]
    exact List.ext_getElem hl fun k h1 h2 => hall k (by omega) h1 h2
end Go.Proofs
