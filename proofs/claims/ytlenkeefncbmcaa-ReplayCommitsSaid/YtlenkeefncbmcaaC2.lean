import Derived.Test.YtlenkeefncbmcaaC1
set_option linter.unusedVariables false
set_option linter.unusedSimpArgs false
set_option linter.unusedSectionVars false
/-! Layer 8, contracts: Redo. -/
namespace Go.Proofs
open Go.Eng

/-- a record and its bytes -/
abbrev Rc := Rw × List UInt8
def RL (w : World) (s : Sl) (xs : List Rc) : Prop := RS w s (xs.map (·.1)) ∧ ∀ x ∈ xs, BS w x.1.s x.2

theorem RL.grow {w w' : World} {s : Sl} {xs : List Rc} (h : RL w s xs) (hm : Grow w w') : RL w' s xs := ⟨h.1.grow hm, fun x hx => (h.2 x hx).grow hm⟩
theorem RL.len {w : World} {s : Sl} {xs : List Rc} (h : RL w s xs) : s.len = xs.length := by rw [h.1.len]; simp

def lay (p : List UInt8) (o : Nat) (d : List UInt8) : List UInt8 := p.take o ++ d ++ p.drop (o + d.length)
def redoF (blk : Int) (p : List UInt8) (xs : List Rc) : List UInt8 := xs.foldl (fun p x => if x.1.b = blk then lay p x.1.o.toNat x.2 else p) p
def redoE (p : List UInt8) (xs : List Rc) : Int := if p.length ≠ 256 then 1 else if xs.any (fun x => !x.1.ok) then 60 else 0

theorem lay_len {p d : List UInt8} {o : Nat} (h : o + d.length ≤ p.length) : (lay p o d).length = p.length := by
  simp [lay]; omega
theorem lay_nil (p : List UInt8) (o : Nat) : lay p o [] = p := by simp [lay]

theorem ok_bounds {r : Rw} (h : r.ok = true) : r.s.len ≤ 44 ∧ 0 ≤ r.o ∧ r.o + r.s.len ≤ 256 ∧ ((r.k = 1 ∧ 1 ≤ r.s.len) ∨ (r.k = 2 ∧ r.s.len = 0)) := by
  simp only [Rw.ok, checkB, patchB, Bool.or_eq_true, Bool.and_eq_true, beq_iff_eq, decide_eq_true_eq] at h
  omega

theorem redoF_len {blk : Int} : ∀ {xs : List Rc} {p : List UInt8}, p.length = 256 → (∀ x ∈ xs, x.1.ok = true ∧ x.1.s.len = x.2.length) → (redoF blk p xs).length = 256
  | [], p, hp, _ => hp
  | x :: xs, p, hp, h => by
    have hx := h x (by simp)
    have hb := ok_bounds hx.1
    unfold redoF
    rw [List.foldl_cons]
    refine redoF_len ?_ (fun y hy => h y (by simp [hy]))
    split
    · rw [lay_len]
      · exact hp
      · omega
    · exact hp

theorem redoF_snoc (blk : Int) (p : List UInt8) (xs : List Rc) (x : Rc) : redoF blk p (xs ++ [x]) = if x.1.b = blk then lay (redoF blk p xs) x.1.o.toNat x.2 else redoF blk p xs := by
  simp [redoF, List.foldl_append]

theorem take_succ' {α : Type} {l : List α} {j : Nat} (h : j < l.length) : l.take (j + 1) = l.take j ++ [l[j]] := by
  rw [List.take_add_one]; simp [h]

theorem wrap_succ {j : Nat} (h : j < 1000000000000000000) : IntKind.wrap .i64 ((j : Int) + 1) = ((j + 1 : Nat) : Int) := by rw [wrap_i64 (by omega)]; rfl

theorem C16 (pg s : Sl) (blk : Int) (l : List UInt8) (xs : List Rc) (w : World) (hp : BS w pg l) (hs : RL w s xs) (hl : s.len ≤ 1000000) :
    Calls Try.prog 16 #[.slice pg.a pg.len pg.cap, .int .i64 blk, .slice s.a s.len s.cap] w (RetT [.c .slice, .c (.int .i64)] fun r w' =>
      r.2 = redoE l xs ∧ OwnS w' w.heap.size 1 r.1 ((if redoE l xs = 0 then redoF blk l xs else []).map ub) ∧ Grow w w') := by
  refine F16_calls pg blk s _ _ ?_
  unfold F16
  refine br_of (fun h1 => ?_) (fun h1 => ?_)
  · have hne : redoE l xs = 1 := by
      unfold redoE
      rw [if_pos]
      have := hp.len
      simp at h1
      omega
    rw [hne]
    exact ⟨rfl, OwnS.nil _ _ _, Mod.refl _ _⟩
  have hl256 : l.length = 256 := by
    have := hp.len
    simp at h1
    omega
  refine callF_of (C57 s (xs.map (·.1)) w hs.1 hl) ?_
  rintro r w1 ⟨rfl, hg1⟩
  refine br_of (fun h2 => ?_) (fun h2 => ?_)
  · have hne : redoE l xs = 60 := by
      unfold redoE
      rw [if_neg (by simp [hl256]), if_pos]
      simpa [List.any_map, Function.comp_def] using h2
    rw [hne]
    exact ⟨rfl, OwnS.nil _ _ _, hg1⟩
  have hne : redoE l xs = 0 := by
    unfold redoE
    rw [if_neg (by simp [hl256]), if_neg]
    rw [List.any_map] at h2
    simp only [Function.comp_def] at h2
    rw [h2]; simp
  have hall : ∀ x ∈ xs, x.1.ok = true ∧ x.1.s.len = x.2.length := by
    intro x hx
    refine ⟨?_, (hs.2 x hx).len⟩
    rw [List.any_eq_false] at h2
    simpa using h2 x.1 (List.mem_map.2 ⟨x, hx, rfl⟩)
  rw [hne, if_pos rfl]
  refine callF_of (C15 pg l w1 (hp.grow hg1) (by rw [hp.len, hl256]; decide)) ?_
  rintro t w2 ⟨ht, _, hg2⟩
  have hg12 := Grow.trans hg1 hg2
  refine loop_of (fun i w' => ∃ j : Nat, i = j ∧ j ≤ xs.length ∧ Grow w w' ∧ OwnS w' w.heap.size 1 t ((redoF blk l (xs.take j)).map ub)) (fun i _ => (s.len : Int).toNat - i.toNat)
    ⟨0, rfl, by omega, hg12, by simpa [redoF] using ht.weaken hg1.size⟩ ?_
  rintro _ w3 ⟨j, rfl, hj, hg3, ho⟩
  have hlen := hs.len
  refine br_of (fun hlt => ?_) (fun hge => ?_)
  rotate_left
  · simp only [decide_eq_false_iff_not] at hge
    refine ⟨rfl, ?_, hg3⟩
    rwa [List.take_of_length_le (by omega)] at ho
  simp only [decide_eq_true_eq] at hlt
  have hjl : j < xs.length := by omega
  refine jn_of (fun _ w' => Grow w w' ∧ OwnS w' w.heap.size 1 t ((redoF blk l (xs.take (j + 1))).map ub)) ?_ ?_
  rotate_left
  · rintro ⟨⟩ w' ⟨h4, h5⟩
    rw [wrap_succ (by omega)]
    exact ⟨⟨j + 1, rfl, by omega, h4, h5⟩, by omega⟩
  obtain ⟨ad, ha, hrow⟩ := (hs.1.grow hg3).get (n := 5) Rw.cells_len (i := j) (r := xs[j].1) (by simp [hjl]) (by omega)
  refine ⟨⟨by omega, hlt⟩, ?_⟩
  rw [ha]
  simp only [deref_some, Int.toNat_natCast]
  refine ldA_of (p := xs[j].1.p) (Rw.reads hrow) ?_
  simp [st, Rw.p]
  have hxj := hall xs[j] (by simp)
  have hb := ok_bounds hxj.1
  refine jn_of (fun b w' => b = decide (xs[j].1.k = 1 ∧ xs[j].1.b = blk) ∧ w' = w3.alloc (.cells #[.int .i64 xs[j].1.k, .int .i64 xs[j].1.b, .int .i64 xs[j].1.o, .slice xs[j].1.s.a xs[j].1.s.len xs[j].1.s.cap, .int .i64 xs[j].1.m] 37)) ?_ ?_
  · by_cases hk : xs[j].1.k = 1
    · simp [ldC, hk]
      rw [Bool.eq_iff_iff]; simp
    · simp [ldC, hk]
  · rintro b w4 ⟨rfl, rfl⟩
    have hg4 : Grow w (w3.alloc (.cells #[.int .i64 xs[j].1.k, .int .i64 xs[j].1.b, .int .i64 xs[j].1.o, .slice xs[j].1.s.a xs[j].1.s.len xs[j].1.s.cap, .int .i64 xs[j].1.m] 37)) := hg3.alloc _
    have ho4 := ho.grow ((Mod.refl _ w3).alloc (.cells #[.int .i64 xs[j].1.k, .int .i64 xs[j].1.b, .int .i64 xs[j].1.o, .slice xs[j].1.s.a xs[j].1.s.len xs[j].1.s.cap, .int .i64 xs[j].1.m] 37))
    have hF : redoF blk l (xs.take (j + 1)) = if xs[j].1.b = blk then lay (redoF blk l (xs.take j)) xs[j].1.o.toNat xs[j].2 else redoF blk l (xs.take j) := by
      rw [take_succ' hjl, redoF_snoc]
    have hlenF : (redoF blk l (xs.take j)).length = 256 := redoF_len hl256 fun x hx => hall x (List.mem_of_mem_take hx)
    refine br_of (fun hb2 => ?_) (fun hb2 => ?_)
    · simp only [decide_eq_true_eq] at hb2
      simp [ldC]
      refine slc_lo (by omega) (by have := ho4.bs.len; rw [hlenF] at this; omega) ?_
      simp
      refine ldC_of (p := xs[j].1.s) (by simp) ?_
      have hg5 := Mod.drew hg4
      have ho5 := ho4.grow ((Mod.refl _ _).drew)
      have htl : t.len = 256 := by have := ho4.bs.len; simpa [hlenF] using this
      have hbs := (hs.2 xs[j] (by simp)).grow hg5
      have hxl := hbs.len
      refine cpy_own (o := xs[j].1.o.toNat) (src := xs[j].1.s) (new := xs[j].2.map ub) ho5 (by omega) ?_ rfl hbs.row (fun _ => by simp [hxl]) hbs.none_len (by dsimp only; omega) NotAgg_ub ?_
      · by_cases hc : t.cap = xs[j].1.o.toNat
        · right
          have := ho5.le
          dsimp only
          omega
        · left; dsimp only; rw [if_neg hc]; simp
      · intro w5 g1 g2 g3
        refine ⟨Mod.trans hg5 g2 ?_, ?_⟩
        · rintro b hb9 ⟨ad2, h3, rfl⟩
          have := (ho5.le_block h3).1
          omega
        · rw [hF, if_pos hb2.2]
          simpa [lay, List.map_take, List.map_drop] using g1
    · refine ⟨hg4, ?_⟩
      rw [hF]
      split
      · rename_i hbb
        simp only [decide_eq_false_iff_not, not_and] at hb2
        have : xs[j].1.k = 2 := by
          rcases hb.2.2.2 with ⟨h, _⟩ | ⟨h, _⟩
          · exact absurd hbb (hb2 h)
          · exact h
        have hnil : xs[j].2 = [] := List.eq_nil_of_length_eq_zero (by omega)
        rw [hnil, lay_nil]
        exact ho4
      · exact ho4
end Go.Proofs
