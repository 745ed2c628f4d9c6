import Derived.Test.YtlenkeefncbmcaaC21
set_option linter.unusedVariables false
set_option linter.unusedSimpArgs false
set_option linter.unusedSectionVars false
/-! Layer 8, contracts: the document's Blocks. -/
namespace Go.Proofs
open Go.Eng

def putGo : List Int → Int → Bool → List Int
  | [], n, done => if done = true then [] else [n]
  | x :: xs, n, done =>
    if (done || x == n) = false ∧ n < x then n :: x :: putGo xs n true else x :: putGo xs n (done || x == n)

theorem putGo_cons (x : Int) (xs : List Int) (n : Int) (done : Bool) : putGo (x :: xs) n done = if (done || x == n) = false ∧ n < x then n :: x :: putGo xs n true else x :: putGo xs n (done || x == n) := rfl

theorem putGo_true : ∀ (l : List Int) (n : Int), putGo l n true = l
  | [], n => rfl
  | x :: xs, n => by
    unfold putGo
    rw [Bool.true_or, if_neg (by simp), putGo_true xs n]

theorem putGo_spec : ∀ (l : List Int) (n : Int), l.Pairwise (· < ·) → (putGo l n false).Pairwise (· < ·) ∧ (putGo l n false).Perm (addB l n)
  | [], n, _ => by simp [putGo, addB]
  | x :: xs, n, h => by
    rw [List.pairwise_cons] at h
    unfold putGo
    rw [Bool.false_or]
    by_cases hxn : x = n
    · subst hxn
      rw [if_neg (by simp), beq_self_eq_true, putGo_true]
      refine ⟨List.pairwise_cons.2 h, ?_⟩
      unfold addB
      rw [if_pos (by simp)]
    · have hb : (x == n) = false := by rw [beq_eq_false_iff_ne]; exact hxn
      rw [hb]
      by_cases hlt : n < x
      · rw [if_pos ⟨rfl, hlt⟩, putGo_true]
        have hn : n ∉ x :: xs := by
          intro hm
          rcases List.mem_cons.1 hm with h1 | h1
          · omega
          · have := h.1 n h1; omega
        refine ⟨List.pairwise_cons.2 ⟨fun y hy => ?_, List.pairwise_cons.2 h⟩, ?_⟩
        · rcases List.mem_cons.1 hy with h1 | h1
          · omega
          · have := h.1 y h1; omega
        · unfold addB
          rw [if_neg hn]
          exact (List.perm_append_singleton n (x :: xs)).symm
      · rw [if_neg (fun h => hlt h.2)]
        obtain ⟨h1, h2⟩ := putGo_spec xs n h.2
        refine ⟨List.pairwise_cons.2 ⟨fun y hy => ?_, h1⟩, ?_⟩
        · have hy2 := h2.subset hy
          unfold addB at hy2
          split at hy2
          · exact h.1 y hy2
          · rcases List.mem_append.1 hy2 with h3 | h3
            · exact h.1 y h3
            · rw [List.mem_singleton] at h3; omega
        · refine (h2.cons x).trans ?_
          unfold addB
          by_cases hm : n ∈ xs
          · rw [if_pos hm, if_pos (by simp [hm])]
          · rw [if_neg hm, if_neg (by simp [hm, Ne.symm hxn])]
            rfl

def refB (vs : List Rv) : List Int := vs.foldl (fun ks v => if v.1 = 1 then putGo ks v.2.1 false else ks) []
theorem refB_snoc (vs : List Rv) (v : Rv) : refB (vs ++ [v]) = if v.1 = 1 then putGo (refB vs) v.2.1 false else refB vs := by simp [refB, List.foldl_append]

theorem addB_perm {a b : List Int} (h : a.Perm b) (k : Int) : (addB a k).Perm (addB b k) := by
  unfold addB
  by_cases hk : k ∈ a
  · rw [if_pos hk, if_pos (h.subset hk)]; exact h
  · rw [if_neg hk, if_neg (fun h2 => hk (h.symm.subset h2))]; exact h.append_right _

theorem fold_same : ∀ (vs : List Rv) (a b : List Int), a.Pairwise (· < ·) → a.Perm b →
    (vs.foldl (fun ks v => if v.1 = 1 then putGo ks v.2.1 false else ks) a).Pairwise (· < ·) ∧ (vs.foldl (fun ks v => if v.1 = 1 then putGo ks v.2.1 false else ks) a).Perm (vs.foldl (fun ks v => if v.1 = 1 then addB ks v.2.1 else ks) b)
  | [], a, b, h1, h2 => ⟨h1, h2⟩
  | v :: vs, a, b, h1, h2 => by
    rw [List.foldl_cons, List.foldl_cons]
    split
    · obtain ⟨h3, h4⟩ := putGo_spec a v.2.1 h1
      exact fold_same vs _ _ h3 (h4.trans (addB_perm h2 _))
    · exact fold_same vs _ _ h1 h2

theorem refB_eq (vs : List Rv) : refB vs = blocksV vs := by
  obtain ⟨h1, h2⟩ := fold_same vs [] [] List.Pairwise.nil (List.Perm.refl _)
  exact sorted_eq (h2.trans (sortI_perm _).symm) (h1.imp fun h => by omega) (sortI_sorted _)

theorem C63 (s : Sl) (l : List Int) (n : Int) (w : World) (hs : IS w s l) (hl : l.length ≤ 1000000) : Calls Try.prog 63 #[.slice s.a s.len s.cap, .int .i64 n] w
    (RetT [.c .slice] fun r w' => OwnS w' w.heap.size 1 r (ints (putGo l n false)) ∧ Grow w w') := by
  refine F63_calls s n _ _ ?_
  unfold F63
  have hsl := hs.len
  have hone : ∀ {W : World} {t : Sl} {xs : List Int} {z : Int} {k : Sl → Pr}, OwnS W w.heap.size 1 t (ints xs) → Grow w W → xs.length ≤ 1000000000 →
      (∀ r W', OwnS W' w.heap.size 1 r (ints (xs ++ [z])) → Grow w W' → k r W') → nw (.cells #[(.int .i64 z)] 3) (fun r => app 3 1 8 [(.int .i64 0)] t ⟨(some ⟨r, 0, none⟩), 1, 1⟩ k) W := by
    intro W t xs z k ho hg hx hk
    refine nw_of fun b W1 g1 _ _ bx => ?_
    have hsz := (Grow.trans hg g1).size
    refine app_one (ho.grow g1) hsz bx hx fun r W2 h2 m2 _ => hk r W2 h2 ?_
    exact Mod.trans (Grow.trans hg g1) m2 fun c hc hS => by have := OwnS.blk_le ho hS; omega
  refine loop_of (fun t W => ∃ (j : Nat) (out : List Int), t.2.2 = j ∧ j ≤ l.length ∧ out.length ≤ 2 * j ∧ OwnS W w.heap.size 1 t.1 (ints out) ∧ out ++ putGo (l.drop j) n t.2.1 = putGo l n false ∧ Grow w W) (fun t _ => l.length - t.2.2.toNat)
    ⟨0, [], rfl, by omega, by simp, OwnS.nil _ _ _, rfl, Mod.refl _ _⟩ ?_
  rintro ⟨t, done, _⟩ W ⟨j, out, rfl, hj, hol, ho, he, hg⟩
  dsimp only at ho he ⊢
  refine br_of (fun hlt => ?_) (fun hge => ?_)
  · simp only [decide_eq_true_eq] at hlt
    have hjl : j < l.length := by omega
    have hd : l.drop j = l[j] :: l.drop (j + 1) := List.drop_eq_getElem_cons hjl
    rw [hd] at he
    refine jn_of (fun d W' => d = (done || l[j] == n) ∧ W = W') ?_ ?_
    · refine iat_of (i := (j : Int)) (b := l[j]) (hs.grow hg) (by omega) (by simp) ?_
      refine br_of (fun h => ⟨by rw [h, Bool.or_true], rfl⟩) (fun h => ⟨by rw [h, Bool.or_false], rfl⟩)
    rintro _ _ ⟨rfl, rfl⟩
    refine jn_of (fun q W' => ∃ out', OwnS W' w.heap.size 1 q.1 (ints out') ∧ Grow w W' ∧ out'.length ≤ 2 * j + 1 ∧ (out' ++ [l[j]]) ++ putGo (l.drop (j + 1)) n q.2 = putGo l n false) ?_ ?_
    rotate_left
    · rintro ⟨t2, d2⟩ W' ⟨out', h1, h2, h3, h4⟩
      dsimp only at h1 h4 ⊢
      refine iat_of (i := (j : Int)) (b := l[j]) (hs.grow h2) (by omega) (by simp) ?_
      refine hone h1 h2 (by omega) fun r W2 h5 h6 => ?_
      rw [wrap_succ (by omega)]
      refine ⟨⟨j + 1, _, rfl, hjl, ?_, h5, h4, h6⟩, ?_⟩
      · simp only [List.length_append, List.length_singleton]; omega
      · omega
    refine jn_of (fun c W' => c = decide ((done || l[j] == n) = false ∧ n < l[j]) ∧ W = W') ?_ ?_
    · refine br_of (fun h => ?_) (fun h => ?_)
      · simp only [Bool.not_eq_true'] at h
        refine iat_of (i := (j : Int)) (b := l[j]) (hs.grow hg) (by omega) (by simp) ?_
        refine ⟨?_, rfl⟩
        rw [h]
        simp
      · simp only [Bool.not_eq_false'] at h
        refine ⟨?_, rfl⟩
        rw [h]
        simp
    rintro _ _ ⟨rfl, rfl⟩
    rw [putGo_cons] at he
    refine br_of (fun hc => ?_) (fun hc => ?_)
    · rw [decide_eq_true_eq] at hc
      rw [if_pos hc] at he
      refine hone ho hg (by omega) fun r W2 h5 h6 => ?_
      refine ⟨out ++ [n], h5, h6, by simp only [List.length_append, List.length_singleton]; omega, ?_⟩
      rw [← he]
      simp
    · rw [decide_eq_false_iff_not] at hc
      rw [if_neg hc] at he
      refine ⟨out, ho, hg, by omega, ?_⟩
      rw [← he]
      simp
  · simp only [decide_eq_false_iff_not] at hge
    rw [List.drop_eq_nil_of_le (by omega)] at he
    refine br_of (fun hd => ?_) (fun hd => ?_)
    · simp only [Bool.not_eq_true'] at hd
      rw [hd] at he
      refine hone ho hg (by omega) fun r W2 h5 h6 => ?_
      have he' : out ++ [n] = putGo l n false := he
      rw [← he']
      exact ⟨h5, h6⟩
    · simp only [Bool.not_eq_false'] at hd
      rw [hd] at he
      have he' : out ++ [] = putGo l n false := he
      rw [← he', List.append_nil]
      exact ⟨ho, hg⟩
end Go.Proofs
