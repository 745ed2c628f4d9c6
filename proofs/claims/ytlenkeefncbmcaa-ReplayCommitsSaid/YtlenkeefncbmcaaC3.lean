import Derived.Test.YtlenkeefncbmcaaC2
import Derived.Test.YtlenkeefncbmcaaF2
set_option linter.unusedVariables false
set_option linter.unusedSimpArgs false
set_option linter.unusedSectionVars false
/-! Layer 8, contracts: lists of records with memory of their own. -/
namespace Go.Proofs
open Go.Eng

def rcs (xs : List Rc) : List Value := xs.flatMap (·.1.cells)
theorem rcs_append (xs ys : List Rc) : rcs (xs ++ ys) = rcs xs ++ rcs ys := by simp [rcs]
theorem rcs_one (x : Rc) : rcs [x] = x.1.cells := by simp [rcs]
theorem rcs_map (xs : List Rc) : rcs xs = (xs.map (·.1)).flatMap Rw.cells := by simp [rcs, List.flatMap_map]
theorem rcs_na (xs : List Rc) : ∀ v ∈ rcs xs, NotAgg v := by
  intro v hv
  simp only [rcs, List.mem_flatMap] at hv
  obtain ⟨x, _, hv⟩ := hv
  simp only [Rw.cells, List.mem_cons, List.not_mem_nil, or_false] at hv
  rcases hv with rfl | rfl | rfl | rfl | rfl <;> trivial

/-- two slices lie in different blocks -/
def Apart (s t : Sl) : Prop := ∀ b, s.blk b → t.blk b → False
theorem Apart.symm {s t : Sl} (h : Apart s t) : Apart t s := fun b h1 h2 => h b h2 h1

structure OwnRs (w : World) (n0 : Nat) (s : Sl) (xs : List Rc) : Prop where
  own : OwnS w n0 5 s (rcs xs)
  dat : ∀ x ∈ xs, OwnS w n0 1 x.1.s (x.2.map ub)
  dis : ∀ x ∈ xs, Apart s x.1.s
  pw : xs.Pairwise fun x y => Apart x.1.s y.1.s

theorem OwnS.blk_lt {w : World} {n0 n : Nat} {s : Sl} {vs : List Value} (h : OwnS w n0 n s vs) {b : Nat} (hb : s.blk b) : b < w.heap.size := by
  obtain ⟨ad, h1, rfl⟩ := hb
  rcases h.row with ⟨h2, _⟩ | ⟨b, off, spare, h2, h3, h4, _⟩
  · rw [h2] at h1; cases h1
  · rw [h2] at h1; cases h1; exact h4
theorem OwnS.blk_le {w : World} {n0 n : Nat} {s : Sl} {vs : List Value} (h : OwnS w n0 n s vs) {b : Nat} (hb : s.blk b) : n0 ≤ b := by
  obtain ⟨ad, h1, rfl⟩ := hb
  rcases h.row with ⟨h2, _⟩ | ⟨b, off, spare, h2, h3, h4, _⟩
  · rw [h2] at h1; cases h1
  · rw [h2] at h1; cases h1; exact h3

theorem OwnRs.nil (w : World) (n0 : Nat) : OwnRs w n0 ⟨none, 0, 0⟩ [] := ⟨OwnS.nil _ _ _, by simp, by simp, .nil⟩

theorem OwnRs.mod {S : Nat → Prop} {w w' : World} {n0 : Nat} {s : Sl} {xs : List Rc} (h : OwnRs w n0 s xs) (hm : Mod S w w') (hs : ∀ b, S b → s.blk b → False) (hx : ∀ x ∈ xs, ∀ b, S b → x.1.s.blk b → False) : OwnRs w' n0 s xs :=
  ⟨h.own.mod hm fun ad ha hS => hs _ hS ⟨ad, ha, rfl⟩, fun x hx' => (h.dat x hx').mod hm fun ad ha hS => hx x hx' _ hS ⟨ad, ha, rfl⟩, h.dis, h.pw⟩
theorem OwnRs.grow {w w' : World} {n0 : Nat} {s : Sl} {xs : List Rc} (h : OwnRs w n0 s xs) (hm : Grow w w') : OwnRs w' n0 s xs := h.mod hm (fun _ h _ => h) (fun _ _ _ h _ => h)
theorem OwnRs.weaken {w : World} {n0 n1 : Nat} {s : Sl} {xs : List Rc} (h : OwnRs w n0 s xs) (hn : n1 ≤ n0) : OwnRs w n1 s xs :=
  ⟨h.own.weaken hn, fun x hx => (h.dat x hx).weaken hn, h.dis, h.pw⟩
theorem OwnRs.len {w : World} {n0 : Nat} {s : Sl} {xs : List Rc} (h : OwnRs w n0 s xs) : s.len = xs.length := by
  have := h.own.len
  rw [rcs_map, flatMap_len Rw.cells_len] at this
  simp only [List.length_map] at this
  omega
theorem OwnRs.rl {w : World} {n0 : Nat} {s : Sl} {xs : List Rc} (h : OwnRs w n0 s xs) : RL w s xs := by
  refine ⟨OwnS.ss Rw.cells_len (by decide) (n0 := n0) ?_, fun x hx => (h.dat x hx).bs⟩
  rw [← rcs_map]
  exact h.own

/-- a record of zeros -/
abbrev zRec : List Value := [.int .i64 0, .int .i64 0, .int .i64 0, .slice none 0 0, .int .i64 0]

/-- append of records to records -/
theorem OwnRs.more {w : World} {n0 : Nat} {s t : Sl} {xs ys : List Rc} {k : Sl → Pr} (h : OwnRs w n0 s xs) (hn0 : n0 ≤ w.heap.size) (ht : readsO w t.a (rcs ys)) (htl : t.len = ys.length)
    (hd : ∀ y ∈ ys, OwnS w n0 1 y.1.s (y.2.map ub)) (hs : ∀ y ∈ ys, Apart s y.1.s) (hp : (xs ++ ys).Pairwise fun x y => Apart x.1.s y.1.s) (hb : xs.length + ys.length ≤ 100000000000)
    (hk : ∀ r w', OwnRs w' n0 r (xs ++ ys) → Mod s.blk w w' → (∀ b, r.blk b → s.blk b ∨ w.heap.size ≤ b) → k r w') : app 37 5 56 zRec s t k w := by
  have hlen : (rcs ys).length = ys.length * 5 := by rw [rcs_map, flatMap_len Rw.cells_len]; simp
  have hsl := h.len
  refine app_own2 (vs := rcs xs) (new := rcs ys) h.own hn0 (fun _ => by rw [hlen, htl]) ?_ ht (rcs_na ys) rfl (by decide) (by rw [htl, hsl]; omega) ?_
  · intro ha
    rw [ha] at ht
    have h0 : rcs ys = [] := ht
    rw [h0] at hlen
    simp only [List.length_nil] at hlen
    omega
  intro r w' h1 h2 _ _ h5 h6
  refine hk r w' ⟨by rw [rcs_append]; exact h1, ?_, ?_, hp⟩ h5 h6
  · intro x hx
    rcases List.mem_append.1 hx with hx | hx
    · exact (h.dat x hx).mod h5 fun ad ha hS => h.dis x hx _ hS ⟨ad, ha, rfl⟩
    · exact (hd x hx).mod h5 fun ad ha hS => hs x hx _ hS ⟨ad, ha, rfl⟩
  · intro x hx b hb1 hb2
    rcases List.mem_append.1 hx with hx | hx
    · rcases h6 b hb1 with h7 | h7
      · exact h.dis x hx b h7 hb2
      · have := OwnS.blk_lt (h.dat x hx) hb2
        omega
    · rcases h6 b hb1 with h7 | h7
      · exact hs x hx b h7 hb2
      · have := OwnS.blk_lt (hd x hx) hb2
        omega

/-- append of one record whose bytes are new -/
theorem OwnRs.push {w0 w : World} {n0 : Nat} {s : Sl} {xs : List Rc} {x : Rc} {k : Sl → Pr} (h : OwnRs w0 n0 s xs) (hn0 : n0 ≤ w0.heap.size) (hg : Grow w0 w)
    (hd : OwnS w w0.heap.size 1 x.1.s (x.2.map ub)) (hb : xs.length < 100000000000)
    (hk : ∀ r w', OwnRs w' n0 r (xs ++ [x]) → Mod s.blk w w' → (∀ b, r.blk b → s.blk b ∨ w.heap.size ≤ b) → k r w') :
    app 37 5 56 zRec s ⟨some ⟨w.heap.size, 0, none⟩, 1, 1⟩ k (w.alloc (.cells x.1.cells.toArray 37)) := by
  have hg2 : Grow w (w.alloc (.cells x.1.cells.toArray 37)) := (Mod.refl _ w).alloc _
  have h2 := h.grow (Grow.trans hg hg2)
  have hsz := hg.size
  have hsz2 := hg2.size
  refine OwnRs.more (ys := [x]) h2 (by omega) ?_ rfl ?_ ?_ ?_ (by simp only [List.length_singleton]; omega) ?_
  · rw [rcs_one]
    refine readsAt_row.2 fun j v hj => ?_
    rw [add_mk, Nat.zero_add, World.cell?_alloc_new]
    simpa using hj
  · intro y hy
    rw [List.mem_singleton] at hy
    subst hy
    exact (hd.grow hg2).weaken hn0
  · intro y hy b hb1 hb2
    rw [List.mem_singleton] at hy
    subst hy
    have h3 := OwnS.blk_lt h.own hb1
    have h4 := OwnS.blk_le hd hb2
    omega
  · rw [List.pairwise_append]
    refine ⟨h.pw, List.pairwise_singleton _ _, fun y hy c hc b hb1 hb2 => ?_⟩
    rw [List.mem_singleton] at hc
    subst hc
    have h3 := OwnS.blk_lt (h.dat y hy) hb1
    have h4 := OwnS.blk_le hd hb2
    omega
  · intro r w' g1 g2 g3
    refine hk r w' g1 (Mod.trans hg2.mod g2 fun _ _ h => h) fun b hb => ?_
    rcases g3 b hb with h5 | h5
    · exact .inl h5
    · exact .inr (by omega)
end Go.Proofs
