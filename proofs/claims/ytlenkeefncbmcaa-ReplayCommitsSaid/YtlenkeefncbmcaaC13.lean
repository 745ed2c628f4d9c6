import Derived.Test.YtlenkeefncbmcaaC12
set_option linter.unusedVariables false
set_option linter.unusedSimpArgs false
set_option linter.unusedSectionVars false
/-! Layer 8: ReplayBegins, the plain law and the walk. -/
namespace Go.Proofs
open Go.Eng

theorem comGo_or : ∀ (xs out wait : List Rv) (n i : Nat), n ≤ i → comGo xs out wait n i = (out, n) ∨ i < (comGo xs out wait n i).2
  | [], out, wait, n, i, h => .inl rfl
  | x :: xs, out, wait, n, i, h => by
    unfold comGo
    split
    · exact .inl rfl
    · split
      · rcases comGo_or xs out (wait ++ [x]) n (i + 1) (by omega) with h1 | h1
        · exact .inl h1
        · exact .inr (by omega)
      · split
        · exact .inl rfl
        · rcases comGo_or xs (out ++ wait) [] (i + 1) (i + 1) (by omega) with h1 | h1
          · right; rw [h1]; exact Nat.lt_succ_self i
          · exact .inr (by omega)

theorem comGo_pre : ∀ (xs out wait : List Rv) (n i : Nat), out <+: (comGo xs out wait n i).1
  | [], out, wait, n, i => List.prefix_refl _
  | x :: xs, out, wait, n, i => by
    unfold comGo
    split
    · exact List.prefix_refl _
    · split
      · exact comGo_pre xs out (wait ++ [x]) n (i + 1)
      · split
        · exact List.prefix_refl _
        · exact (List.prefix_append out wait).trans (comGo_pre xs (out ++ wait) [] (i + 1) (i + 1))

theorem comGo_ge {xs out wait : List Rv} {n i : Nat} (h : n ≤ i) : n ≤ (comGo xs out wait n i).2 := by
  rcases comGo_or xs out wait n i h with h1 | h1
  · rw [h1]; exact Nat.le_refl _
  · omega

theorem comGo_take : ∀ (xs out wait : List Rv) (n i k : Nat), n ≤ i → (comGo (xs.take k) out wait n i).2 ≤ (comGo xs out wait n i).2 ∧ (comGo (xs.take k) out wait n i).1 <+: (comGo xs out wait n i).1
  | [], out, wait, n, i, k, h => by rw [List.take_nil]; exact ⟨Nat.le_refl _, List.prefix_refl _⟩
  | x :: xs, out, wait, n, i, 0, h => ⟨comGo_ge h, comGo_pre _ _ _ _ _⟩
  | x :: xs, out, wait, n, i, k + 1, h => by
    rw [List.take_succ_cons]
    unfold comGo
    split
    · exact ⟨Nat.le_refl _, List.prefix_refl _⟩
    · split
      · exact comGo_take xs out (wait ++ [x]) n (i + 1) k (by omega)
      · split
        · exact ⟨Nat.le_refl _, List.prefix_refl _⟩
        · exact comGo_take xs (out ++ wait) [] (i + 1) (i + 1) k (by omega)

theorem comGo_cut : ∀ (xs out wait : List Rv) (n i : Nat), n ≤ i → comGo (xs.take ((comGo xs out wait n i).2 - i)) out wait n i = comGo xs out wait n i
  | [], out, wait, n, i, h => by rw [List.take_nil]
  | x :: xs, out, wait, n, i, h => by
    rcases comGo_or (x :: xs) out wait n i h with h1 | h1
    · rw [h1]
      show comGo ((x :: xs).take (n - i)) out wait n i = _
      rw [show n - i = 0 by omega]
      rfl
    · generalize hm : (comGo (x :: xs) out wait n i).2 - i = m
      obtain ⟨m', rfl⟩ : ∃ m', m = m' + 1 := ⟨m - 1, by omega⟩
      rw [List.take_succ_cons]
      unfold comGo at hm h1 ⊢
      split
      · rfl
      · rename_i h2
        rw [if_neg h2] at hm h1
        split
        · rename_i h3
          rw [if_pos h3] at hm h1
          have := comGo_cut xs out (wait ++ [x]) n (i + 1) (by omega)
          rwa [show (comGo xs out (wait ++ [x]) n (i + 1)).2 - (i + 1) = m' by omega] at this
        · rename_i h3
          rw [if_neg h3] at hm h1
          split
          · rfl
          · rename_i h4
            rw [if_neg h4] at hm h1
            have := comGo_cut xs (out ++ wait) [] (i + 1) (i + 1) (by omega)
            rwa [show (comGo xs (out ++ wait) [] (i + 1) (i + 1)).2 - (i + 1) = m' by omega] at this

theorem com_le (xs : List Rv) : (com xs).2 ≤ xs.length := by
  have := comGo_len xs [] [] 0 0 (by omega)
  unfold com
  omega
theorem comGo_size : ∀ (xs out wait : List Rv) (n i : Nat), (comGo xs out wait n i).1.length ≤ out.length + wait.length + xs.length
  | [], out, wait, n, i => by
    show out.length ≤ _
    omega
  | x :: xs, out, wait, n, i => by
    unfold comGo
    simp only [List.length_cons]
    split
    · dsimp only; omega
    · split
      · have := comGo_size xs out (wait ++ [x]) n (i + 1)
        simp only [List.length_append, List.length_singleton] at this
        omega
      · split
        · dsimp only; omega
        · have := comGo_size xs (out ++ wait) [] (i + 1) (i + 1)
          simp only [List.length_append, List.length_nil] at this
          omega
theorem com_size (xs : List Rv) : (com xs).1.length ≤ xs.length := by
  have := comGo_size xs [] [] 0 0
  simpa [com] using this
theorem com_cut (xs : List Rv) : com (xs.take (com xs).2) = com xs := comGo_cut xs [] [] 0 0 (by omega)

theorem law6 (s : Sl) (n : Int) (xs : List Rc) (w : World) (hs : RL w s xs) (hle : s.len ≤ s.cap) (hn : 0 ≤ n ∧ n ≤ 65535) :
    Calls Try.prog 6 #[.slice s.a s.len s.cap, .int .u16 n] w (RetT [.c .bool] fun r w' => r = true ∧ Grow w w') := by
  refine F6_calls s n _ _ ?_
  unfold F6
  have hsl := hs.len
  refine jn_of (fun b w' => (b = false → s.len ≤ 400) ∧ Grow w w') ?_ ?_
  · refine callF_of (C13 w) ?_
    rintro _ w1 ⟨rfl, g1⟩
    refine br_f rfl (callF_of (C14 s xs w1 ⟨hs.1.grow g1, fun x hx => (hs.2 x hx).grow g1⟩ hle) ?_)
    rintro r w2 ⟨hr, g2⟩
    exact ⟨fun hf => hr (by simpa using hf), Grow.trans g1 g2⟩
  rintro b w1 ⟨hb, g1⟩
  refine br_of (fun _ => ?_) (fun hb0 => ?_)
  · refine callF_of (C13 w1) ?_
    rintro _ w2 ⟨rfl, g2⟩
    exact ⟨rfl, Grow.trans g1 g2⟩
  have h400 := hb hb0
  rw [show IntKind.wrap .i64 ((s.len : Int) + 1) = (s.len : Int) + 1 from wrap_i64 (by omega), show IntKind.wrap .i64 n = n from wrap_i64 (by omega)]
  have hk0 : 0 ≤ n.tmod ((s.len : Int) + 1) := Int.tmod_nonneg _ hn.1
  have hk1 : n.tmod ((s.len : Int) + 1) < (s.len : Int) + 1 := Int.tmod_lt_of_pos _ (by omega)
  generalize n.tmod ((s.len : Int) + 1) = k at hk0 hk1
  obtain ⟨k, rfl⟩ := Int.eq_ofNat_of_zero_le hk0
  refine ⟨by omega, ?_⟩
  have hs1 : RL w1 s xs := ⟨hs.1.grow g1, fun x hx => (hs.2 x hx).grow g1⟩
  refine slc_rl hs1 hle hk0 (by omega) fun hs1k => ?_
  simp only [Int.toNat_natCast, Int.ofNat_eq_natCast] at hs1k ⊢
  refine callF_of (C24 ⟨s.a, k, s.cap⟩ (xs.take k) w1 hs1k (by dsimp only; omega)) ?_
  rintro ⟨a, x⟩ w2 ⟨hx, ⟨az, ha, hav⟩, g2⟩
  dsimp only at hx ha ⊢
  have hg2 := Grow.trans g1 g2
  have hs2 : RL w2 s xs := ⟨hs.1.grow hg2, fun x hx => (hs.2 x hx).grow hg2⟩
  refine callF_of (C24 s xs w2 hs2 (by omega)) ?_
  rintro ⟨b, y⟩ w3 ⟨hy, ⟨bs, hb2, hbv⟩, g3⟩
  dsimp only at hy hb2 ⊢
  have hg3 := Grow.trans hg2 g3
  rw [List.map_take] at hx hav
  have hp := comGo_take (xs.map rv) [] [] 0 0 k (by omega)
  change (com ((xs.map rv).take k)).2 ≤ (com (xs.map rv)).2 ∧ (com ((xs.map rv).take k)).1 <+: (com (xs.map rv)).1 at hp
  have hxle := com_le ((xs.map rv).take k)
  have hyle := com_le (xs.map rv)
  rw [List.length_take, List.length_map] at hxle
  rw [List.length_map] at hyle
  have hcs := com_size (xs.map rv)
  rw [List.length_map] at hcs
  have hal := ha.len
  have hbl := hb2.len
  have hpl := hp.2.length_le
  rw [← hbv, List.length_map] at hcs
  rw [← hav, ← hbv, List.length_map, List.length_map] at hpl
  have ha3 := ha.grow g3
  refine jn_of (fun b w' => b = false ∧ Grow w3 w') ?_ ?_
  · refine br_f ?_ (br_f ?_ (br_f ?_ (br_f ?_ ?_)))
    · simp only [gt_iff_lt, decide_eq_false_iff_not]; omega
    · simp only [gt_iff_lt, decide_eq_false_iff_not]; omega
    · simp only [gt_iff_lt, decide_eq_false_iff_not]; omega
    · simp only [gt_iff_lt, decide_eq_false_iff_not]; omega
    refine slc_rl hb2.rl hb2.own.le (by omega) (by omega) fun hbt => ?_
    simp only [Int.toNat_natCast] at hbt ⊢
    refine callF_of (C21 a ⟨b.a, a.len, b.cap⟩ az (bs.take a.len) w3 ha3.rl hbt (by omega)) ?_
    rintro r w4 ⟨hr, g4⟩
    have : r = true := by
      rw [hr, decide_eq_true_eq, List.map_take, hbv, hav]
      have h5 := List.prefix_iff_eq_take.1 hp.2
      have h6 : (com ((xs.map rv).take k)).1.length = a.len := by rw [← hav, List.length_map]; omega
      rwa [h6] at h5
    rw [this]
    exact ⟨rfl, g4⟩
  rintro _ w4 ⟨rfl, g4⟩
  refine br_f rfl ?_
  have hg4 := Grow.trans hg3 g4
  have hs4 : RL w4 s xs := ⟨hs.1.grow hg4, fun x hx => (hs.2 x hx).grow hg4⟩
  refine slc_rl hs4 hle (by omega) (by omega) fun hs4y => ?_
  rw [hy] at hs4y ⊢
  simp only [Int.toNat_natCast] at hs4y ⊢
  refine callF_of (C24 ⟨s.a, (com (xs.map rv)).2, s.cap⟩ (xs.take (com (xs.map rv)).2) w4 hs4y (by dsimp only; omega)) ?_
  rintro ⟨c, z⟩ w5 ⟨hz, ⟨cs, hc, hcv⟩, g5⟩
  dsimp only at hz hc ⊢
  rw [List.map_take, com_cut] at hz hcv
  refine br_t (by rw [hz]; simp) ?_
  have hb5 := hb2.grow (Grow.trans g4 g5)
  refine callF_of (C21 c b cs bs w5 hc.rl hb5.rl ?_) ?_
  · have h6 := hc.len
    have h7 := congrArg List.length hcv
    have h8 := congrArg List.length hbv
    rw [List.length_map] at h7 h8
    have h9 := hb2.own.le
    omega
  · rintro r w6 ⟨hr, g6⟩
    refine ⟨?_, Grow.trans (Grow.trans hg4 g5) g6⟩
    rw [hr, decide_eq_true_eq, hcv, hbv]
end Go.Proofs
