import Derived.Test.YtlenkeefncbmcaaC8
import Derived.Test.YtlenkeefncbmcaaF3
set_option linter.unusedVariables false
set_option linter.unusedSimpArgs false
set_option linter.unusedSectionVars false
/-! Layer 8, the laws' walks: ReplayCuts. -/
namespace Go.Proofs
open Go.Eng

theorem wrap_u8_ex (n : Int) : ∃ b : UInt8, IntKind.wrap .u8 n = (b.toNat : Int) := by
  refine ⟨UInt8.ofNat (n % 256).toNat, ?_⟩
  simp only [IntKind.wrap, IntKind.signed, IntKind.bits]
  simp
  omega

/-- a field of a record of a list -/
theorem fld_rs {w : World} {n0 : Nat} {s : Sl} {rs : List Rc} {j i : Nat} {c : CS} {p : PayC c} {k : PayC c → Pr} (h : OwnS w n0 5 s (rcs rs)) (hj : j < rs.length) (hi : rs[j].1.cells[i]? = some (valC c p)) (hk : k p w) :
    (owe ((0 : Int) ≤ (j : Int) ∧ (j : Int) < (s.len : Int)) <| deref s.a fun a => deref (some (a.add (Int.toNat j * 5))) fun a1 => deref (some (a1.add i)) fun a2 => ldC c a2 k) w := by
  have h1 : RS w s (rs.map (·.1)) := OwnS.ss Rw.cells_len (by decide) (n0 := n0) (by rw [← rcs_map]; exact h)
  have hl := h1.len
  rw [List.length_map] at hl
  obtain ⟨ad, ha, hrow⟩ := h1.get (n := 5) Rw.cells_len (i := j) (r := rs[j].1) (by simp [hj]) (by omega)
  refine ⟨by omega, ?_⟩
  rw [ha]
  simp only [deref_some', Int.toNat_natCast]
  exact ldC_of (hrow.get hi) hk

/-- all the bytes of an owned slice are turned over -/
theorem xor_loop {w : World} {n0 : Nat} {s : Sl} {l : List UInt8} {k : Pr} (h : OwnS w n0 1 s (l.map ub)) (hl : s.len ≤ 1000000000) (hk : ∀ w' (l' : List UInt8), OwnS w' n0 1 s (l'.map ub) → Mod s.blk w w' → k w') :
    loopE (S := Int) (fun X i => br (decide (i < (s.len : Int))) (owe ((0 : Int) ≤ i ∧ i < (s.len : Int)) <| deref s.a fun a => deref (some (a.add (Int.toNat i * 1))) fun a_1 => ldC (.int .u8) a_1 fun (t : Int) =>
      owe ((0 : Int) ≤ i ∧ i < (s.len : Int)) <| deref s.a fun a_2 => deref (some (a_2.add (Int.toNat i * 1))) fun a_3 => st a_3 (.int .u8 (bXor .u8 t 255)) <| X (IntKind.wrap .i64 (i + 1))) k) 0 w := by
  refine loop_of (fun i w' => ∃ j : Nat, i = j ∧ j ≤ s.len ∧ Mod s.blk w w' ∧ ∃ l', OwnS w' n0 1 s (List.map ub l')) (fun i _ => s.len - i.toNat) ⟨0, rfl, by omega, Mod.refl _ _, l, h⟩ ?_
  rintro _ w1 ⟨j, rfl, hj, hm, l', h'⟩
  have hlen := h'.bs.len
  refine br_of (fun hlt => ?_) (fun _ => hk w1 l' h' hm)
  simp only [decide_eq_true_eq] at hlt
  refine at_of (b := l'[j]) h'.bs (by omega) (by simp) ?_
  obtain ⟨b, hb⟩ := wrap_u8_ex (BitVec.ofInt IntKind.u8.bits (l'[j].toNat : Int) ^^^ BitVec.ofInt IntKind.u8.bits 255).toNat
  have hb' : bXor .u8 (l'[j].toNat : Int) 255 = (b.toNat : Int) := hb
  rw [hb']
  refine put_of h' (by omega) (by simp; omega) fun w2 h2 m2 _ => ?_
  rw [wrap_succ (by omega)]
  exact ⟨⟨j + 1, rfl, by omega, Mod.trans hm m2 fun _ _ h => h, _, h2⟩, by omega⟩

/-- the loop of F4 over all patches -/
theorem xors {w : World} {n0 : Nat} {s : Sl} {xs : List Rc} {k : Pr} (h : OwnRs w n0 s xs) (hn : xs.length ≤ 1000000) (hd : ∀ x ∈ xs, x.2.length ≤ 1000000) (hk : ∀ w', Mod (n0 ≤ ·) w w' → k w') :
    loopE (S := Int) (fun X s_2 => br (decide (s_2 < (s.len : Int))) (
      owe ((0 : Int) ≤ s_2 ∧ s_2 < (s.len : Int)) <| deref s.a fun a => deref (some (a.add (Int.toNat s_2 * 5))) fun a_1 => deref (some (a_1.add 3)) fun a_2 => ldC .slice a_2 fun (t61 : Sl) =>
      loopE (S := Int) (fun X_1 s_3 => br (decide (s_3 < (t61.len : Int))) (
        owe ((0 : Int) ≤ s_2 ∧ s_2 < (s.len : Int)) <| deref s.a fun a_3 => deref (some (a_3.add (Int.toNat s_2 * 5))) fun a_4 => deref (some (a_4.add 3)) fun a_5 => ldC .slice a_5 fun (t70 : Sl) =>
        owe ((0 : Int) ≤ s_3 ∧ s_3 < (t70.len : Int)) <| deref t70.a fun a_6 => deref (some (a_6.add (Int.toNat s_3 * 1))) fun a_7 => ldC (.int .u8) a_7 fun (t73 : Int) =>
        owe ((0 : Int) ≤ s_3 ∧ s_3 < (t70.len : Int)) <| deref t70.a fun a_8 => deref (some (a_8.add (Int.toNat s_3 * 1))) fun a_9 => st a_9 (.int .u8 (bXor .u8 t73 255)) <|
        X_1 ((IntKind.wrap .i64 (s_3 + 1)))) (X ((IntKind.wrap .i64 (s_2 + 1))))) 0) k) 0 w := by
  have hsl := h.len
  have hpw := List.pairwise_iff_getElem.1 h.pw
  have hap : ∀ i j (hi : i < xs.length) (hj : j < xs.length), i ≠ j → Apart xs[i].1.s xs[j].1.s := by
    intro i j hi hj hne
    rcases Nat.lt_or_ge i j with h' | h'
    · exact hpw i j hi hj h'
    · exact (hpw j i hj hi (by omega)).symm
  refine loop_of (fun i w' => ∃ j : Nat, i = j ∧ j ≤ xs.length ∧ Mod (n0 ≤ ·) w w' ∧ OwnS w' n0 5 s (rcs xs) ∧ ∀ k (hk : k < xs.length), ∃ l', OwnS w' n0 1 xs[k].1.s (List.map ub l')) (fun i _ => xs.length - i.toNat)
    ⟨0, rfl, by omega, Mod.refl _ _, h.own, fun k hk => ⟨_, h.dat xs[k] (List.getElem_mem hk)⟩⟩ ?_
  rintro _ w1 ⟨j, rfl, hj, hm, hown, hall⟩
  refine br_of (fun hlt => ?_) (fun _ => hk w1 hm)
  simp only [decide_eq_true_eq] at hlt
  have hjl : j < xs.length := by omega
  refine fld_rs (i := 3) (c := .slice) (p := xs[j].1.s) hown hjl rfl ?_
  have hdl : xs[j].1.s.len ≤ 1000000 := by rw [(h.dat xs[j] (by simp)).bs.len]; exact hd _ (by simp)
  refine loop_of (fun i w' => ∃ k : Nat, i = k ∧ k ≤ xs[j].1.s.len ∧ Mod (n0 ≤ ·) w w' ∧ OwnS w' n0 5 s (rcs xs) ∧ ∀ k (hk : k < xs.length), ∃ l', OwnS w' n0 1 xs[k].1.s (List.map ub l')) (fun i _ => xs[j].1.s.len - i.toNat)
    ⟨0, rfl, by omega, hm, hown, hall⟩ ?_
  rintro _ w2 ⟨k, rfl, hk2, hm2, hown2, hall2⟩
  refine br_of (fun hlt2 => ?_) (fun _ => ?_)
  · simp only [decide_eq_true_eq] at hlt2
    obtain ⟨l', h'⟩ := hall2 j hjl
    have hlen := h'.bs.len
    refine fld_rs (i := 3) (c := .slice) (p := xs[j].1.s) hown2 hjl rfl ?_
    refine at_of (b := l'[k]) h'.bs (by omega) (by simp) ?_
    obtain ⟨b, hb⟩ := wrap_u8_ex (BitVec.ofInt IntKind.u8.bits (l'[k].toNat : Int) ^^^ BitVec.ofInt IntKind.u8.bits 255).toNat
    have hb' : bXor .u8 (l'[k].toNat : Int) 255 = (b.toNat : Int) := hb
    rw [hb']
    refine put_of h' (by omega) (by simp; omega) fun w3 h3 m3 _ => ?_
    rw [wrap_succ (by omega)]
    refine ⟨⟨k + 1, rfl, by omega, Mod.trans hm2 m3 fun b _ hb => OwnS.blk_le h' hb, hown2.mod m3 fun ad ha hS => h.dis xs[j] (by simp) _ ⟨ad, ha, rfl⟩ hS, fun i hi => ?_⟩, by omega⟩
    by_cases hij : i = j
    · subst hij
      exact ⟨_, h3⟩
    · obtain ⟨l2, h2⟩ := hall2 i hi
      exact ⟨l2, h2.mod m3 fun ad ha hS => hap i j hi hjl hij _ ⟨ad, ha, rfl⟩ hS⟩
  · rw [wrap_succ (by omega)]
    exact ⟨⟨j + 1, rfl, hjl, hm2, hown2, hall2⟩, by omega⟩

theorem pieceV_small (blk : Int) (o n : List UInt8) (hn : n.length ≤ 1000000) (k : Nat) : ∀ v ∈ pieceV blk o n k, v.2.2.2.2.length ≤ 1000000 := by
  intro v hv
  unfold pieceV at hv
  split at hv
  · rw [List.mem_singleton] at hv
    subst hv
    simp
    omega
  · cases hv

theorem cutV_small (blk : Int) (o n : List UInt8) (hn : n.length ≤ 1000000) : ∀ v ∈ cutV blk o n, v.2.2.2.2.length ≤ 1000000 := by
  intro v hv
  simp only [cutV, List.mem_flatMap] at hv
  obtain ⟨k, _, hv⟩ := hv
  exact pieceV_small blk o n hn k v hv

theorem law4 (blk : Int) (p1 p2 : Sl) (o n : List UInt8) (w : World) (h1 : BS w p1 o) (h2 : BS w p2 n) (hle : p2.len ≤ p2.cap) :
    Calls Try.prog 4 #[.int .i64 blk, .slice p1.a p1.len p1.cap, .slice p2.a p2.len p2.cap] w (RetT [.c .bool] fun r w' => r = true ∧ Grow w w') := by
  refine F4_calls blk p1 p2 _ _ ?_
  unfold F4
  have hl1 := h1.len
  have hl2 := h2.len
  refine jn_of (fun b w' => (b = false → n.length ≤ 5000) ∧ Grow w w') ?_ ?_
  · refine callF_of (C13 w) ?_
    rintro _ w1 ⟨rfl, g1⟩
    refine br_f rfl (br_of (fun _ => ⟨fun h => (by cases h), g1⟩) (fun _ => ⟨fun h => ?_, g1⟩))
    simp only [gt_iff_lt, decide_eq_false_iff_not] at h
    omega
  rintro b w1 ⟨hb, g1⟩
  refine br_of (fun _ => ?_) (fun hb0 => ?_)
  · refine callF_of (C13 w1) ?_
    rintro _ w2 ⟨rfl, g2⟩
    exact ⟨rfl, Grow.trans g1 g2⟩
  have hn := hb hb0
  refine callF_of (C15 p2 n w1 (h2.grow g1) (by omega)) ?_
  rintro was w2 ⟨hwas, _, g2⟩
  have hg2 := Grow.trans g1 g2
  refine callF_of (C19 blk p1 p2 o n w2 (h1.grow hg2) (h2.grow hg2) hle) ?_
  rintro ⟨l, e⟩ w3 ⟨he, ⟨xs, hx, hv⟩, g3⟩
  have hg3 := Grow.trans hg2 g3
  refine callF_of (C20 blk p1 p2 o n w3 (h1.grow hg3) (h2.grow hg3) hle) ?_
  rintro ⟨l', f⟩ w4 ⟨hf, ⟨ys, hy, hv'⟩, g4⟩
  dsimp only at he hx hf hy ⊢
  have hg4 := Grow.trans hg3 g4
  have hx4 := hx.grow g4
  have hxl : xs.length ≤ 6 := by
    have := congrArg List.length hv
    rw [List.length_map] at this
    rw [this]
    split
    · exact pieces_len blk o n 6
    · simp
  refine jn_of (fun b w' => b = false ∧ Grow w4 w') ?_ ?_
  · refine callF_of (C21 l l' xs ys w4 hx4.rl hy.rl (by rw [hx4.len]; omega)) ?_
    rintro r w5 ⟨hr, g5⟩
    rw [hv, hv', decide_eq_true rfl] at hr
    subst hr
    refine br_f rfl ⟨?_, g5⟩
    rw [he, hf]
    simp
  rintro _ w5 ⟨rfl, g5⟩
  refine br_f rfl ?_
  have hx5 := hx4.grow g5
  have hg5 := Grow.trans hg4 g5
  refine xors hx5 (by omega) (fun x hx => ?_) fun w6 m6 => ?_
  · have h3 : rv x ∈ xs.map rv := List.mem_map.2 ⟨x, hx, rfl⟩
    rw [hv] at h3
    split at h3
    · exact cutV_small blk o n (by omega) _ h3
    · cases h3
  have hsz2 := hg2.size
  have hwas6 : BS w6 was n := ((hwas.grow (Grow.trans g3 (Grow.trans g4 g5))).mod m6 fun ad ha hS => by
    have := OwnS.blk_lt hwas ⟨ad, ha, rfl⟩
    exact absurd hS (by omega)).bs
  have hg6 : Grow w w6 := Mod.trans hg5 m6 fun b hb hS => by omega
  refine callF_of (C18 p2 was n n w6 (h2.grow hg6) hwas6) ?_
  rintro r w7 ⟨hr, hw⟩
  subst hw
  exact ⟨hr.trans (beq_self_eq_true n), hg6⟩
end Go.Proofs
