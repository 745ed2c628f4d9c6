import Derived.Test.YtlenkeefncbmcaaFA
import Derived.Test.YtlenkeefncbmcaaLA
import Derived.Test.YtlenkeefncbmcaaSA
set_option linter.unusedVariables false
set_option linter.unusedSimpArgs false
set_option linter.unusedSectionVars false
/-! Layer 8, contracts, first part. -/
namespace Go.Proofs
open Go.Eng

def patchB (b o m : Int) (n : Nat) : Bool := decide (m = 0 ∧ 0 ≤ b ∧ b < 2048 ∧ 1 ≤ n ∧ n ≤ 44 ∧ 0 ≤ o ∧ o ≤ 256 - (n : Int))
def checkB (k b o m : Int) (n : Nat) : Bool := (k == 1 && patchB b o m n) || (k == 2 && decide (0 ≤ m ∧ m ≤ 65536 ∧ b = 0 ∧ o = 0 ∧ n = 0))

theorem C88 (k b o m : Int) (s : Sl) (w : World) : Calls Try.prog 88 #[.agg #[.int .i64 k, .int .i64 b, .int .i64 o, .slice s.a s.len s.cap, .int .i64 m]] w (RetT [.c .bool] fun r w' => r = patchB b o m s.len ∧ Grow w w') := by
  refine F88_calls _ _ _ _ _ _ _ ?_
  unfold F88
  simp [ldC, exS]
  have hg : ∀ o, Grow w (w.alloc o) := fun o => (Mod.refl _ w).alloc o
  have hw : (s.len : Int) ≤ 44 → IntKind.wrap .i64 (256 - (s.len : Int)) = 256 - s.len := fun h => wrap_i64 (by omega)
  repeat' split
  all_goals refine ⟨?_, hg _⟩
  all_goals simp only [patchB, Bool.false_eq, decide_eq_false_iff_not]
  all_goals first | omega | (rw [hw (by assumption)]; congr 1; apply propext; omega)

theorem C59 (k b o m : Int) (s : Sl) (w : World) : Calls Try.prog 59 #[.agg #[.int .i64 k, .int .i64 b, .int .i64 o, .slice s.a s.len s.cap, .int .i64 m]] w (RetT [.c (.int .i64)] fun r w' => r = (if checkB k b o m s.len then 0 else 60) ∧ Grow w w') := by
  refine F59_calls _ _ _ _ _ _ _ ?_
  unfold F59
  simp
  have hg : ∀ o, Grow w (w.alloc o) := fun o => (Mod.refl _ w).alloc o
  refine jn_of (fun r w' => r = checkB k b o m s.len ∧ Grow w w') ?_ ?_
  · simp [ldC, exS]
    split
    · rename_i hk
      subst hk
      refine ldA_of (p := (1, b, o, s, m)) (by simp [valA, readsAt]) ?_
      refine callF_of (C88 _ _ _ _ _ _) ?_
      rintro r w' ⟨rfl, h⟩
      exact ⟨by simp [checkB], Grow.trans (hg _) h⟩
    · rename_i hk
      repeat' split
      all_goals refine ⟨?_, hg _⟩
      all_goals simp only [checkB]
      all_goals (rw [Bool.eq_iff_iff]; simp_all; try omega)
  · rintro r w' ⟨rfl, h⟩
    refine br_of (fun h2 => ⟨?_, h⟩) (fun h2 => ⟨?_, h⟩) <;> simp_all

theorem C23 (k b o m : Int) (s : Sl) (w : World) : Calls Try.prog 23 #[.agg #[.int .i64 k, .int .i64 b, .int .i64 o, .slice s.a s.len s.cap, .int .i64 m]] w (RetT [.c (.int .i64)] fun r w' => r = (if checkB k b o m s.len then 0 else 60) ∧ Grow w w') := by
  refine F23_calls _ _ _ _ _ _ _ ?_
  unfold F23
  have hg : ∀ o, Grow w (w.alloc o) := fun o => (Mod.refl _ w).alloc o
  simp [ldC, exS]
  have hw : (s.len : Int) ≤ 44 → IntKind.wrap .i64 (256 - (s.len : Int)) = 256 - s.len := fun h => wrap_i64 (by omega)
  split
  · rename_i hk
    subst hk
    refine jn_of (fun r w' => r = checkB 1 b o m s.len ∧ Grow w w') ?_ ?_
    · simp [ldC, exS]
      repeat' split
      all_goals refine ⟨?_, hg _⟩
      all_goals simp only [checkB, patchB]
      all_goals (rw [Bool.eq_iff_iff]; simp_all; try omega)
    · rintro r w' ⟨rfl, h⟩
      exact br_of (fun h2 => ⟨h2, h⟩) (fun h2 => ⟨h2, h⟩)
  · split
    · rename_i _ hk
      subst hk
      refine jn_of (fun r w' => r = checkB 2 b o m s.len ∧ Grow w w') ?_ ?_
      · simp [ldC, exS]
        repeat' split
        all_goals refine ⟨?_, hg _⟩
        all_goals simp only [checkB]
        all_goals (rw [Bool.eq_iff_iff]; simp_all; try omega)
      · rintro r w' ⟨rfl, h⟩
        exact br_of (fun h2 => ⟨h2, h⟩) (fun h2 => ⟨h2, h⟩)
    · rename_i h1 h2
      exact ⟨by simp [checkB, h1, h2], hg _⟩

theorem C58 (k b o m : Int) (s : Sl) (w : World) : Calls Try.prog 58 #[.agg #[.int .i64 k, .int .i64 b, .int .i64 o, .slice s.a s.len s.cap, .int .i64 m]] w (RetT [.c .bool] fun r w' => r = !checkB k b o m s.len ∧ Grow w w') := by
  refine F58_calls _ _ _ _ _ _ _ ?_
  unfold F58
  simp
  refine ldA_of (p := (k, b, o, s, m)) (by simp [valA, readsAt]) ?_
  refine callF_of (C59 _ _ _ _ _ _) ?_
  rintro r w' ⟨rfl, h⟩
  exact ⟨by cases checkB k b o m s.len <;> rfl, Grow.trans ((Mod.refl _ w).alloc _) h⟩

/-! ### records -/

structure Rw where
  k : Int
  b : Int
  o : Int
  s : Sl
  m : Int

def Rw.cells (r : Rw) : List Value := [.int .i64 r.k, .int .i64 r.b, .int .i64 r.o, .slice r.s.a r.s.len r.s.cap, .int .i64 r.m]
@[simp] theorem Rw.cells_len (r : Rw) : r.cells.length = 5 := rfl
def Rw.p (r : Rw) : Int × Int × Int × Sl × Int := (r.k, r.b, r.o, r.s, r.m)
def Rw.ok (r : Rw) : Bool := checkB r.k r.b r.o r.m r.s.len

theorem Rw.reads {w : World} {r : Rw} {a : Addr} (h : Row w a r.cells) : readsAt w a 0 (valA [.int .i64, .int .i64, .int .i64, .slice, .int .i64] r.p) := readsAt_row.2 h

abbrev RS := SS Rw.cells

theorem C87 (s : Sl) (rs : List Rw) (w : World) (h : RS w s rs) (hl : s.len ≤ 1000000) : Calls Try.prog 87 #[.slice s.a s.len s.cap, .func (.func 58) #[] #[]] w
    (RetT [.c (.int .i64)] fun r w' => (0 ≤ r ↔ ∃ x ∈ rs, x.ok = false) ∧ Grow w w') := by
  refine F87_calls s (.func (.func 58) #[] #[]) _ _ ?_
  unfold F87
  refine loop_of (fun i w' => ∃ j : Nat, i = j ∧ j ≤ rs.length ∧ Grow w w' ∧ ∀ k x, k < j → rs[k]? = some x → x.ok = true) (fun i _ => (s.len : Int).toNat - i.toNat) ⟨0, rfl, by omega, Mod.refl _ _, fun k x hk => by omega⟩ ?_
  rintro _ w1 ⟨j, rfl, hj, hg, hall⟩
  have hlen := h.len
  refine br_of (fun hlt => ?_) (fun hge => ?_)
  · simp only [decide_eq_true_eq] at hlt
    have hjl : j < rs.length := by omega
    obtain ⟨ad, ha, hrow⟩ := (h.grow hg).get (n := 5) Rw.cells_len (i := j) (r := rs[j]) (by simp [hjl]) (by omega)
    refine ⟨⟨by omega, hlt⟩, ?_⟩
    rw [ha]
    simp only [deref_some, Int.toNat_natCast]
    refine ldA_of (p := rs[j].p) (Rw.reads hrow) ?_
    refine .inl ⟨58, #[], #[], rfl, by kernel_rfl, ?_⟩
    refine Calls.mono (C58 _ _ _ _ _ _) ?_
    rintro e w2 ⟨p, rfl, rfl, hg2⟩
    refine ⟨_, rfl, ?_⟩
    refine br_of (fun hb => ?_) (fun hb => ?_)
    · refine ⟨⟨fun _ => ⟨rs[j], by simp, by simpa [Rw.ok, Rw.p] using hb⟩, fun _ => Int.natCast_nonneg _⟩, Grow.trans hg hg2⟩
    · have hw : IntKind.wrap .i64 ((j : Int) + 1) = ((j + 1 : Nat) : Int) := by rw [wrap_i64 (by omega)]; rfl
      rw [hw]
      refine ⟨⟨j + 1, rfl, by omega, Grow.trans hg hg2, fun k x hk hx => ?_⟩, by omega⟩
      rcases Nat.lt_or_ge k j with h' | h'
      · exact hall k x h' hx
      · have : k = j := by omega
        subst this
        simp [hjl] at hx
        subst hx
        simpa [Rw.ok, Rw.p] using hb
  · simp only [decide_eq_false_iff_not] at hge
    refine ⟨⟨fun h => absurd (show (0 : Int) ≤ -1 from h) (by decide), fun ⟨x, hx, hok⟩ => ?_⟩, hg⟩
    obtain ⟨k, hk, rfl⟩ := List.getElem_of_mem hx
    have := hall k rs[k] (by omega) (by simp)
    rw [this] at hok
    cases hok

theorem C57 (s : Sl) (rs : List Rw) (w : World) (h : RS w s rs) (hl : s.len ≤ 1000000) : Calls Try.prog 57 #[.slice s.a s.len s.cap, .func (.func 58) #[] #[]] w
    (RetT [.c .bool] fun r w' => r = rs.any (fun x => !x.ok) ∧ Grow w w') := by
  refine F57_calls s (.func (.func 58) #[] #[]) _ _ ?_
  unfold F57
  refine callF_of (C87 s rs w h hl) ?_
  rintro r w' ⟨h1, h2⟩
  refine ⟨?_, h2⟩
  rw [Bool.eq_iff_iff]
  simp only [decide_eq_true_eq, List.any_eq_true, Bool.not_eq_true']
  exact h1

theorem C15 (s : Sl) (l : List UInt8) (w : World) (h : BS w s l) (hl : s.len ≤ 140737488351232) : Calls Try.prog 15 #[.slice s.a s.len s.cap] w
    (RetT [.c .slice] fun r w' => OwnS w' w.heap.size 1 r (l.map ub) ∧ (s.a = none → r.a = none) ∧ Grow w w') := by
  refine F15_calls s _ _ ?_
  unfold F15
  refine ⟨trivial, br_of (fun hn => ?_) (fun hn => ?_)⟩
  · have ha : s.a = none := by simpa using hn
    have h0 := h.none_len ha
    have hl0 : l = [] := List.eq_nil_of_length_eq_zero (by rw [← h.len, h0])
    subst hl0
    exact ⟨OwnS.nil _ _ _, fun _ => rfl, Mod.refl _ _⟩
  · have ha : s.a ≠ none := fun h => by simp [h] at hn
    refine app_own (n0 := w.heap.size) (vs := []) (new := l.map ub) ⟨by simp, by simp, .inr ⟨w.heap.size, 0, [], rfl, Nat.le_refl _, by simp, fun o => by simp, Row.nil _ _, rfl⟩⟩ (by simp) (fun _ => by simp [h.len]) (fun hx => absurd hx ha)
      (h.row.grow ((Mod.refl _ w).alloc _)) NotAgg_ub rfl (by decide) (by simp; omega) ?_
    intro r w' h1 h2 h3 h4 h5
    refine ⟨by simpa using h1, fun hx => absurd hx ha, Mod.trans ((Mod.refl _ w).alloc _) h5 ?_⟩
    rintro b hb ⟨ad, had, rfl⟩
    simp only [Option.some.injEq] at had
    subst had
    exact absurd hb (Nat.lt_irrefl _)

theorem C18 (s t : Sl) (l m : List UInt8) (w : World) (h : BS w s l) (h2 : BS w t m) : Calls Try.prog 18 #[.slice s.a s.len s.cap, .slice t.a t.len t.cap] w
    (RetT [.c .bool] fun r w' => r = (l == m) ∧ w' = w) := by
  refine F18_calls s t _ _ ?_
  unfold F18
  refine b2s_of h (b2s_of h2 ?_)
  simp
end Go.Proofs

/-! Layer 8, contracts: Redo. -/
namespace Go.Proofs
open Go.Eng

/-- a record and its bytes -/
abbrev Rc := Rw × List UInt8
def RL (w : World) (s : Sl) (xs : List Rc) : Prop := RS w s (xs.map (·.1)) ∧ ∀ x ∈ xs, BS w x.1.s x.2

theorem RL.grow {w w' : World} {s : Sl} {xs : List Rc} (h : RL w s xs) (hm : Grow w w') : RL w' s xs := ⟨h.1.grow hm, fun x hx => (h.2 x hx).grow hm⟩
theorem RL.len {w : World} {s : Sl} {xs : List Rc} (h : RL w s xs) : s.len = xs.length := by rw [h.1.len]; simp

def lay (p : List UInt8) (o : Nat) (d : List UInt8) : List UInt8 := p.take o ++ d ++ p.drop (o + d.length)
def redoF (blk : Int) (p : List UInt8) (xs : List Rc) : List UInt8 := xs.foldl (fun p x => if x.1.b = blk then lay p x.1.o.toNat x.2 else p) p
def redoE (p : List UInt8) (xs : List Rc) : Int := if p.length ≠ 256 then 1 else if xs.any (fun x => !x.1.ok) then 60 else 0

theorem lay_len {p d : List UInt8} {o : Nat} (h : o + d.length ≤ p.length) : (lay p o d).length = p.length := by
  simp [lay]; omega
theorem lay_nil (p : List UInt8) (o : Nat) : lay p o [] = p := by simp [lay]

theorem ok_bounds {r : Rw} (h : r.ok = true) : r.s.len ≤ 44 ∧ 0 ≤ r.o ∧ r.o + r.s.len ≤ 256 ∧ ((r.k = 1 ∧ 1 ≤ r.s.len) ∨ (r.k = 2 ∧ r.s.len = 0)) := by
  simp only [Rw.ok, checkB, patchB, Bool.or_eq_true, Bool.and_eq_true, beq_iff_eq, decide_eq_true_eq] at h
  omega

theorem redoF_len {blk : Int} : ∀ {xs : List Rc} {p : List UInt8}, p.length = 256 → (∀ x ∈ xs, x.1.ok = true ∧ x.1.s.len = x.2.length) → (redoF blk p xs).length = 256
  | [], p, hp, _ => hp
  | x :: xs, p, hp, h => by
    have hx := h x (by simp)
    have hb := ok_bounds hx.1
    unfold redoF
    rw [List.foldl_cons]
    refine redoF_len ?_ (fun y hy => h y (by simp [hy]))
    split
    · rw [lay_len]
      · exact hp
      · omega
    · exact hp

theorem redoF_snoc (blk : Int) (p : List UInt8) (xs : List Rc) (x : Rc) : redoF blk p (xs ++ [x]) = if x.1.b = blk then lay (redoF blk p xs) x.1.o.toNat x.2 else redoF blk p xs := by
  simp [redoF, List.foldl_append]

theorem take_succ' {α : Type} {l : List α} {j : Nat} (h : j < l.length) : l.take (j + 1) = l.take j ++ [l[j]] := by
  rw [List.take_add_one]; simp [h]

theorem wrap_succ {j : Nat} (h : j < 1000000000000000000) : IntKind.wrap .i64 ((j : Int) + 1) = ((j + 1 : Nat) : Int) := by rw [wrap_i64 (by omega)]; rfl

theorem C16 (pg s : Sl) (blk : Int) (l : List UInt8) (xs : List Rc) (w : World) (hp : BS w pg l) (hs : RL w s xs) (hl : s.len ≤ 1000000) :
    Calls Try.prog 16 #[.slice pg.a pg.len pg.cap, .int .i64 blk, .slice s.a s.len s.cap] w (RetT [.c .slice, .c (.int .i64)] fun r w' =>
      r.2 = redoE l xs ∧ OwnS w' w.heap.size 1 r.1 ((if redoE l xs = 0 then redoF blk l xs else []).map ub) ∧ Grow w w') := by
  refine F16_calls pg blk s _ _ ?_
  unfold F16
  refine br_of (fun h1 => ?_) (fun h1 => ?_)
  · have hne : redoE l xs = 1 := by
      unfold redoE
      rw [if_pos]
      have := hp.len
      simp at h1
      omega
    rw [hne]
    exact ⟨rfl, OwnS.nil _ _ _, Mod.refl _ _⟩
  have hl256 : l.length = 256 := by
    have := hp.len
    simp at h1
    omega
  refine callF_of (C57 s (xs.map (·.1)) w hs.1 hl) ?_
  rintro r w1 ⟨rfl, hg1⟩
  refine br_of (fun h2 => ?_) (fun h2 => ?_)
  · have hne : redoE l xs = 60 := by
      unfold redoE
      rw [if_neg (by simp [hl256]), if_pos]
      simpa [List.any_map, Function.comp_def] using h2
    rw [hne]
    exact ⟨rfl, OwnS.nil _ _ _, hg1⟩
  have hne : redoE l xs = 0 := by
    unfold redoE
    rw [if_neg (by simp [hl256]), if_neg]
    rw [List.any_map] at h2
    simp only [Function.comp_def] at h2
    rw [h2]; simp
  have hall : ∀ x ∈ xs, x.1.ok = true ∧ x.1.s.len = x.2.length := by
    intro x hx
    refine ⟨?_, (hs.2 x hx).len⟩
    rw [List.any_eq_false] at h2
    simpa using h2 x.1 (List.mem_map.2 ⟨x, hx, rfl⟩)
  rw [hne, if_pos rfl]
  refine callF_of (C15 pg l w1 (hp.grow hg1) (by rw [hp.len, hl256]; decide)) ?_
  rintro t w2 ⟨ht, _, hg2⟩
  have hg12 := Grow.trans hg1 hg2
  refine loop_of (fun i w' => ∃ j : Nat, i = j ∧ j ≤ xs.length ∧ Grow w w' ∧ OwnS w' w.heap.size 1 t ((redoF blk l (xs.take j)).map ub)) (fun i _ => (s.len : Int).toNat - i.toNat)
    ⟨0, rfl, by omega, hg12, by simpa [redoF] using ht.weaken hg1.size⟩ ?_
  rintro _ w3 ⟨j, rfl, hj, hg3, ho⟩
  have hlen := hs.len
  refine br_of (fun hlt => ?_) (fun hge => ?_)
  rotate_left
  · simp only [decide_eq_false_iff_not] at hge
    refine ⟨rfl, ?_, hg3⟩
    rwa [List.take_of_length_le (by omega)] at ho
  simp only [decide_eq_true_eq] at hlt
  have hjl : j < xs.length := by omega
  refine jn_of (fun _ w' => Grow w w' ∧ OwnS w' w.heap.size 1 t ((redoF blk l (xs.take (j + 1))).map ub)) ?_ ?_
  rotate_left
  · rintro ⟨⟩ w' ⟨h4, h5⟩
    rw [wrap_succ (by omega)]
    exact ⟨⟨j + 1, rfl, by omega, h4, h5⟩, by omega⟩
  obtain ⟨ad, ha, hrow⟩ := (hs.1.grow hg3).get (n := 5) Rw.cells_len (i := j) (r := xs[j].1) (by simp [hjl]) (by omega)
  refine ⟨⟨by omega, hlt⟩, ?_⟩
  rw [ha]
  simp only [deref_some, Int.toNat_natCast]
  refine ldA_of (p := xs[j].1.p) (Rw.reads hrow) ?_
  simp [st, Rw.p]
  have hxj := hall xs[j] (by simp)
  have hb := ok_bounds hxj.1
  refine jn_of (fun b w' => b = decide (xs[j].1.k = 1 ∧ xs[j].1.b = blk) ∧ w' = w3.alloc (.cells #[.int .i64 xs[j].1.k, .int .i64 xs[j].1.b, .int .i64 xs[j].1.o, .slice xs[j].1.s.a xs[j].1.s.len xs[j].1.s.cap, .int .i64 xs[j].1.m] 37)) ?_ ?_
  · by_cases hk : xs[j].1.k = 1
    · simp [ldC, hk]
      rw [Bool.eq_iff_iff]; simp
    · simp [ldC, hk]
  · rintro b w4 ⟨rfl, rfl⟩
    have hg4 : Grow w (w3.alloc (.cells #[.int .i64 xs[j].1.k, .int .i64 xs[j].1.b, .int .i64 xs[j].1.o, .slice xs[j].1.s.a xs[j].1.s.len xs[j].1.s.cap, .int .i64 xs[j].1.m] 37)) := hg3.alloc _
    have ho4 := ho.grow ((Mod.refl _ w3).alloc (.cells #[.int .i64 xs[j].1.k, .int .i64 xs[j].1.b, .int .i64 xs[j].1.o, .slice xs[j].1.s.a xs[j].1.s.len xs[j].1.s.cap, .int .i64 xs[j].1.m] 37))
    have hF : redoF blk l (xs.take (j + 1)) = if xs[j].1.b = blk then lay (redoF blk l (xs.take j)) xs[j].1.o.toNat xs[j].2 else redoF blk l (xs.take j) := by
      rw [take_succ' hjl, redoF_snoc]
    have hlenF : (redoF blk l (xs.take j)).length = 256 := redoF_len hl256 fun x hx => hall x (List.mem_of_mem_take hx)
    refine br_of (fun hb2 => ?_) (fun hb2 => ?_)
    · simp only [decide_eq_true_eq] at hb2
      simp [ldC]
      refine slc_lo (by omega) (by have := ho4.bs.len; rw [hlenF] at this; omega) ?_
      simp
      refine ldC_of (p := xs[j].1.s) (by simp) ?_
      have hg5 := Mod.drew hg4
      have ho5 := ho4.grow ((Mod.refl _ _).drew)
      have htl : t.len = 256 := by have := ho4.bs.len; simpa [hlenF] using this
      have hbs := (hs.2 xs[j] (by simp)).grow hg5
      have hxl := hbs.len
      refine cpy_own (o := xs[j].1.o.toNat) (src := xs[j].1.s) (new := xs[j].2.map ub) ho5 (by omega) ?_ rfl hbs.row (fun _ => by simp [hxl]) hbs.none_len (by dsimp only; omega) NotAgg_ub ?_
      · by_cases hc : t.cap = xs[j].1.o.toNat
        · right
          have := ho5.le
          dsimp only
          omega
        · left; dsimp only; rw [if_neg hc]; simp
      · intro w5 g1 g2 g3
        refine ⟨Mod.trans hg5 g2 ?_, ?_⟩
        · rintro b hb9 ⟨ad2, h3, rfl⟩
          have := (ho5.le_block h3).1
          omega
        · rw [hF, if_pos hb2.2]
          simpa [lay, List.map_take, List.map_drop] using g1
    · refine ⟨hg4, ?_⟩
      rw [hF]
      split
      · rename_i hbb
        simp only [decide_eq_false_iff_not, not_and] at hb2
        have : xs[j].1.k = 2 := by
          rcases hb.2.2.2 with ⟨h, _⟩ | ⟨h, _⟩
          · exact absurd hbb (hb2 h)
          · exact h
        have hnil : xs[j].2 = [] := List.eq_nil_of_length_eq_zero (by omega)
        rw [hnil, lay_nil]
        exact ho4
      · exact ho4
end Go.Proofs

/-! Layer 8, contracts: lists of records with memory of their own. -/
namespace Go.Proofs
open Go.Eng

def rcs (xs : List Rc) : List Value := xs.flatMap (·.1.cells)
theorem rcs_append (xs ys : List Rc) : rcs (xs ++ ys) = rcs xs ++ rcs ys := by simp [rcs]
theorem rcs_one (x : Rc) : rcs [x] = x.1.cells := by simp [rcs]
theorem rcs_map (xs : List Rc) : rcs xs = (xs.map (·.1)).flatMap Rw.cells := by simp [rcs, List.flatMap_map]
theorem rcs_na (xs : List Rc) : ∀ v ∈ rcs xs, NotAgg v := by
  intro v hv
  simp only [rcs, List.mem_flatMap] at hv
  obtain ⟨x, _, hv⟩ := hv
  simp only [Rw.cells, List.mem_cons, List.not_mem_nil, or_false] at hv
  rcases hv with rfl | rfl | rfl | rfl | rfl <;> trivial

/-- two slices lie in different blocks -/
def Apart (s t : Sl) : Prop := ∀ b, s.blk b → t.blk b → False
theorem Apart.symm {s t : Sl} (h : Apart s t) : Apart t s := fun b h1 h2 => h b h2 h1

structure OwnRs (w : World) (n0 : Nat) (s : Sl) (xs : List Rc) : Prop where
  own : OwnS w n0 5 s (rcs xs)
  dat : ∀ x ∈ xs, OwnS w n0 1 x.1.s (x.2.map ub)
  dis : ∀ x ∈ xs, Apart s x.1.s
  pw : xs.Pairwise fun x y => Apart x.1.s y.1.s

theorem OwnS.blk_lt {w : World} {n0 n : Nat} {s : Sl} {vs : List Value} (h : OwnS w n0 n s vs) {b : Nat} (hb : s.blk b) : b < w.heap.size := by
  obtain ⟨ad, h1, rfl⟩ := hb
  rcases h.row with ⟨h2, _⟩ | ⟨b, off, spare, h2, h3, h4, _⟩
  · rw [h2] at h1; cases h1
  · rw [h2] at h1; cases h1; exact h4
theorem OwnS.blk_le {w : World} {n0 n : Nat} {s : Sl} {vs : List Value} (h : OwnS w n0 n s vs) {b : Nat} (hb : s.blk b) : n0 ≤ b := by
  obtain ⟨ad, h1, rfl⟩ := hb
  rcases h.row with ⟨h2, _⟩ | ⟨b, off, spare, h2, h3, h4, _⟩
  · rw [h2] at h1; cases h1
  · rw [h2] at h1; cases h1; exact h3

theorem OwnRs.nil (w : World) (n0 : Nat) : OwnRs w n0 ⟨none, 0, 0⟩ [] := ⟨OwnS.nil _ _ _, by simp, by simp, .nil⟩

theorem OwnRs.mod {S : Nat → Prop} {w w' : World} {n0 : Nat} {s : Sl} {xs : List Rc} (h : OwnRs w n0 s xs) (hm : Mod S w w') (hs : ∀ b, S b → s.blk b → False) (hx : ∀ x ∈ xs, ∀ b, S b → x.1.s.blk b → False) : OwnRs w' n0 s xs :=
  ⟨h.own.mod hm fun ad ha hS => hs _ hS ⟨ad, ha, rfl⟩, fun x hx' => (h.dat x hx').mod hm fun ad ha hS => hx x hx' _ hS ⟨ad, ha, rfl⟩, h.dis, h.pw⟩
theorem OwnRs.grow {w w' : World} {n0 : Nat} {s : Sl} {xs : List Rc} (h : OwnRs w n0 s xs) (hm : Grow w w') : OwnRs w' n0 s xs := h.mod hm (fun _ h _ => h) (fun _ _ _ h _ => h)
theorem OwnRs.weaken {w : World} {n0 n1 : Nat} {s : Sl} {xs : List Rc} (h : OwnRs w n0 s xs) (hn : n1 ≤ n0) : OwnRs w n1 s xs :=
  ⟨h.own.weaken hn, fun x hx => (h.dat x hx).weaken hn, h.dis, h.pw⟩
theorem OwnRs.len {w : World} {n0 : Nat} {s : Sl} {xs : List Rc} (h : OwnRs w n0 s xs) : s.len = xs.length := by
  have := h.own.len
  rw [rcs_map, flatMap_len Rw.cells_len] at this
  simp only [List.length_map] at this
  omega
theorem OwnRs.rl {w : World} {n0 : Nat} {s : Sl} {xs : List Rc} (h : OwnRs w n0 s xs) : RL w s xs := by
  refine ⟨OwnS.ss Rw.cells_len (by decide) (n0 := n0) ?_, fun x hx => (h.dat x hx).bs⟩
  rw [← rcs_map]
  exact h.own

/-- a record of zeros -/
abbrev zRec : List Value := [.int .i64 0, .int .i64 0, .int .i64 0, .slice none 0 0, .int .i64 0]

/-- append of records to records -/
theorem OwnRs.more {w : World} {n0 : Nat} {s t : Sl} {xs ys : List Rc} {k : Sl → Pr} (h : OwnRs w n0 s xs) (hn0 : n0 ≤ w.heap.size) (ht : readsO w t.a (rcs ys)) (htl : t.len = ys.length)
    (hd : ∀ y ∈ ys, OwnS w n0 1 y.1.s (y.2.map ub)) (hs : ∀ y ∈ ys, Apart s y.1.s) (hp : (xs ++ ys).Pairwise fun x y => Apart x.1.s y.1.s) (hb : xs.length + ys.length ≤ 100000000000)
    (hk : ∀ r w', OwnRs w' n0 r (xs ++ ys) → Mod s.blk w w' → (∀ b, r.blk b → s.blk b ∨ w.heap.size ≤ b) → k r w') : app 37 5 56 zRec s t k w := by
  have hlen : (rcs ys).length = ys.length * 5 := by rw [rcs_map, flatMap_len Rw.cells_len]; simp
  have hsl := h.len
  refine app_own2 (vs := rcs xs) (new := rcs ys) h.own hn0 (fun _ => by rw [hlen, htl]) ?_ ht (rcs_na ys) rfl (by decide) (by rw [htl, hsl]; omega) ?_
  · intro ha
    rw [ha] at ht
    have h0 : rcs ys = [] := ht
    rw [h0] at hlen
    simp only [List.length_nil] at hlen
    omega
  intro r w' h1 h2 _ _ h5 h6
  refine hk r w' ⟨by rw [rcs_append]; exact h1, ?_, ?_, hp⟩ h5 h6
  · intro x hx
    rcases List.mem_append.1 hx with hx | hx
    · exact (h.dat x hx).mod h5 fun ad ha hS => h.dis x hx _ hS ⟨ad, ha, rfl⟩
    · exact (hd x hx).mod h5 fun ad ha hS => hs x hx _ hS ⟨ad, ha, rfl⟩
  · intro x hx b hb1 hb2
    rcases List.mem_append.1 hx with hx | hx
    · rcases h6 b hb1 with h7 | h7
      · exact h.dis x hx b h7 hb2
      · have := OwnS.blk_lt (h.dat x hx) hb2
        omega
    · rcases h6 b hb1 with h7 | h7
      · exact hs x hx b h7 hb2
      · have := OwnS.blk_lt (hd x hx) hb2
        omega

/-- append of one record whose bytes are new -/
theorem OwnRs.push {w0 w : World} {n0 : Nat} {s : Sl} {xs : List Rc} {x : Rc} {k : Sl → Pr} (h : OwnRs w0 n0 s xs) (hn0 : n0 ≤ w0.heap.size) (hg : Grow w0 w)
    (hd : OwnS w w0.heap.size 1 x.1.s (x.2.map ub)) (hb : xs.length < 100000000000)
    (hk : ∀ r w', OwnRs w' n0 r (xs ++ [x]) → Mod s.blk w w' → (∀ b, r.blk b → s.blk b ∨ w.heap.size ≤ b) → k r w') :
    app 37 5 56 zRec s ⟨some ⟨w.heap.size, 0, none⟩, 1, 1⟩ k (w.alloc (.cells x.1.cells.toArray 37)) := by
  have hg2 : Grow w (w.alloc (.cells x.1.cells.toArray 37)) := (Mod.refl _ w).alloc _
  have h2 := h.grow (Grow.trans hg hg2)
  have hsz := hg.size
  have hsz2 := hg2.size
  refine OwnRs.more (ys := [x]) h2 (by omega) ?_ rfl ?_ ?_ ?_ (by simp only [List.length_singleton]; omega) ?_
  · rw [rcs_one]
    refine readsAt_row.2 fun j v hj => ?_
    rw [add_mk, Nat.zero_add, World.cell?_alloc_new]
    simpa using hj
  · intro y hy
    rw [List.mem_singleton] at hy
    subst hy
    exact (hd.grow hg2).weaken hn0
  · intro y hy b hb1 hb2
    rw [List.mem_singleton] at hy
    subst hy
    have h3 := OwnS.blk_lt h.own hb1
    have h4 := OwnS.blk_le hd hb2
    omega
  · rw [List.pairwise_append]
    refine ⟨h.pw, List.pairwise_singleton _ _, fun y hy c hc b hb1 hb2 => ?_⟩
    rw [List.mem_singleton] at hc
    subst hc
    have h3 := OwnS.blk_lt (h.dat y hy) hb1
    have h4 := OwnS.blk_le hd hb2
    omega
  · intro r w' g1 g2 g3
    refine hk r w' g1 (Mod.trans hg2.mod g2 fun _ _ h => h) fun b hb => ?_
    rcases g3 b hb with h5 | h5
    · exact .inl h5
    · exact .inr (by omega)
end Go.Proofs

/-! Layer 8, contracts: Cut. -/
namespace Go.Proofs
open Go.Eng

/-- a record's values -/
abbrev Rv := Int × Int × Int × Int × List UInt8
def rv (x : Rc) : Rv := (x.1.k, x.1.b, x.1.o, x.1.m, x.2)

def fstD (o n : List UInt8) (lo hi : Nat) : Option Nat := (List.range' lo (hi - lo)).find? fun i => o[i]? != n[i]?
def lstD (o n : List UInt8) (lo hi : Nat) : Option Nat := ((List.range' 0 (hi - lo)).find? fun t => o[hi - 1 - t]? != n[hi - 1 - t]?).map (hi - 1 - ·)
def hiK (k : Nat) : Nat := min (44 * k + 44) 256
def pieceV (blk : Int) (o n : List UInt8) (k : Nat) : List Rv :=
  match fstD o n (44 * k) (hiK k), lstD o n (44 * k) (hiK k) with
  | some f, some l => [(1, blk, (f : Int), 0, (n.take (l + 1)).drop f)]
  | _, _ => []
def cutV (blk : Int) (o n : List UInt8) : List Rv := (List.range 6).flatMap (pieceV blk o n)
def cutE (blk : Int) (o n : List UInt8) : Int := if 0 ≤ blk ∧ blk < 2048 ∧ o.length = 256 ∧ n.length = 256 then 0 else 1

theorem fstD_none {o n : List UInt8} {lo hi : Nat} (h : ∀ j, lo ≤ j → j < hi → o[j]? = n[j]?) : fstD o n lo hi = none := by
  unfold fstD
  rw [List.find?_eq_none]
  intro x hx
  rw [List.mem_range'_1] at hx
  simp [h x (by omega) (by omega)]

theorem fstD_some {o n : List UInt8} {lo hi f : Nat} (h1 : lo ≤ f) (h2 : f < hi) (h3 : o[f]? ≠ n[f]?) (h : ∀ j, lo ≤ j → j < f → o[j]? = n[j]?) : fstD o n lo hi = some f := by
  unfold fstD
  rw [List.find?_range'_eq_some]
  refine ⟨by simpa using h3, by rw [List.mem_range'_1]; omega, fun j hj1 hj2 => by simp [h j hj1 hj2]⟩

theorem lstD_some {o n : List UInt8} {lo hi l : Nat} (h1 : lo ≤ l) (h2 : l < hi) (h3 : o[l]? ≠ n[l]?) (h : ∀ j, l < j → j < hi → o[j]? = n[j]?) : lstD o n lo hi = some l := by
  unfold lstD
  have : ((List.range' 0 (hi - lo)).find? fun t => o[hi - 1 - t]? != n[hi - 1 - t]?) = some (hi - 1 - l) := by
    rw [List.find?_range'_eq_some]
    refine ⟨?_, by rw [List.mem_range'_1]; omega, fun j hj1 hj2 => ?_⟩
    · rw [show hi - 1 - (hi - 1 - l) = l by omega]; simpa using h3
    · simp [h (hi - 1 - j) (by omega) (by omega)]
  rw [this]
  simp only [Option.map_some, Option.some.injEq]
  omega

theorem range_succ' {α : Type} (f : Nat → List α) (j : Nat) : (List.range (j + 1)).flatMap f = (List.range j).flatMap f ++ f j := by
  rw [List.range_succ, List.flatMap_append]; simp

theorem piece_len (blk : Int) (o n : List UInt8) (k : Nat) : (pieceV blk o n k).length ≤ 1 := by
  unfold pieceV
  split <;> simp

theorem pieces_len (blk : Int) (o n : List UInt8) : ∀ j, ((List.range j).flatMap (pieceV blk o n)).length ≤ j
  | 0 => by simp
  | j + 1 => by
    rw [range_succ', List.length_append]
    have := piece_len blk o n j
    have := pieces_len blk o n j
    omega

theorem C19 (blk : Int) (p1 p2 : Sl) (o n : List UInt8) (w : World) (h1 : BS w p1 o) (h2 : BS w p2 n) (hle : p2.len ≤ p2.cap) :
    Calls Try.prog 19 #[.int .i64 blk, .slice p1.a p1.len p1.cap, .slice p2.a p2.len p2.cap] w (RetT [.c .slice, .c (.int .i64)] fun r w' =>
      r.2 = cutE blk o n ∧ (∃ xs, OwnRs w' w.heap.size r.1 xs ∧ xs.map rv = if cutE blk o n = 0 then cutV blk o n else []) ∧ Grow w w') := by
  refine F19_calls blk p1 p2 _ _ ?_
  unfold F19
  have hl1 := h1.len
  have hl2 := h2.len
  refine jn_of (fun b w' => b = decide (cutE blk o n ≠ 0) ∧ w = w') ?_ ?_
  · unfold cutE
    simp only [br_def]
    repeat' split
    all_goals (simp_all <;> omega)
  rintro b w' ⟨rfl, rfl⟩
  refine br_of (fun hc => ?_) (fun hc => ?_)
  · simp only [ne_eq, decide_eq_true_eq] at hc
    refine ⟨?_, ⟨[], OwnRs.nil _ _, by simp [hc]⟩, Mod.refl _ _⟩
    unfold cutE at hc ⊢
    split at hc
    · exact absurd rfl hc
    · rw [if_neg (by assumption)]
  have hc0 : cutE blk o n = 0 := by simpa using hc
  have hlens : o.length = 256 ∧ n.length = 256 := by
    unfold cutE at hc0
    split at hc0
    · omega
    · cases hc0
  rw [hc0]
  simp only [if_true]
  refine loop_of (fun s w' => ∃ j : Nat, s.2 = j ∧ j ≤ 6 ∧ Grow w w' ∧ ∃ xs, OwnRs w' w.heap.size s.1 xs ∧ xs.map rv = (List.range j).flatMap (pieceV blk o n)) (fun s _ => 6 - s.2.toNat)
    ⟨0, rfl, by omega, Mod.refl _ _, [], OwnRs.nil _ _, rfl⟩ ?_
  rintro ⟨out, _⟩ w1 ⟨j, rfl, hj, hg1, xs, ho, hx⟩
  dsimp only
  refine br_of (fun hlt => ?_) (fun hge => ?_)
  rotate_left
  · simp only [decide_eq_false_iff_not] at hge
    have : j = 6 := by omega
    subst this
    exact ⟨trivial, ⟨xs, ho, hx⟩, hg1⟩
  simp only [decide_eq_true_eq] at hlt
  have e44 : IntKind.wrap .i64 ((j : Int) * 44) = ((44 * j : Nat) : Int) := by rw [wrap_i64 (by omega)]; omega
  have ehi : imin (IntKind.wrap .i64 (((44 * j : Nat) : Int) + 44)) 256 = (hiK j : Int) := by
    rw [wrap_i64 (by omega)]
    unfold imin hiK
    split <;> omega
  rw [e44]
  simp only [ehi]
  have hhi : hiK j ≤ 256 ∧ 44 * j < hiK j := by unfold hiK; omega
  have hxl : xs.length ≤ 6 := by
    have := congrArg List.length hx
    rw [List.length_map] at this
    have := pieces_len blk o n j
    omega
  refine jn_of (fun out' w' => Grow w w' ∧ ∃ xs, OwnRs w' w.heap.size out' xs ∧ xs.map rv = (List.range (j + 1)).flatMap (pieceV blk o n)) ?_ ?_
  rotate_left
  · rintro out' w' ⟨g1, g2⟩
    rw [wrap_succ (by omega)]
    refine ⟨⟨j + 1, rfl, by omega, g1, g2⟩, ?_⟩
    omega
  refine loop_of (fun s w' => s.1 = out ∧ ∃ i : Nat, s.2 = i ∧ 44 * j ≤ i ∧ i ≤ hiK j ∧ Grow w1 w' ∧ ∀ t, 44 * j ≤ t → t < i → o[t]? = n[t]?) (fun s _ => 256 - s.2.toNat)
    ⟨rfl, 44 * j, rfl, Nat.le_refl _, by omega, Mod.refl _ _, fun t h1 h2 => by omega⟩ ?_
  rintro ⟨_, _⟩ w2 ⟨rfl, i, rfl, hi1, hi2, hg2, hall⟩
  dsimp only
  have hgw2 := Grow.trans hg1 hg2
  refine br_of (fun hlt2 => ?_) (fun hge2 => ?_)
  rotate_left
  · simp only [decide_eq_false_iff_not] at hge2
    have : i = hiK j := by omega
    subst this
    refine ⟨hgw2, xs, ho.grow hg2, ?_⟩
    rw [range_succ', hx]
    unfold pieceV
    rw [fstD_none hall]
    simp
  simp only [decide_eq_true_eq] at hlt2
  have hi3 : i < hiK j := by omega
  have hgd := Mod.drew hgw2
  have hoi : o[i]? = some o[i] := by simp
  have hni : n[i]? = some n[i] := by simp
  refine at_of (b := o[i]) (h1.grow hgd) (by omega) (by simp) ?_
  refine at_of (b := n[i]) (h2.grow hgd) (by omega) (by simp) ?_
  rw [toNat_beq]
  refine br_of (fun heq => ?_) (fun hne => ?_)
  · simp only [decide_eq_true_eq] at heq
    rw [wrap_succ (by omega)]
    refine ⟨⟨rfl, i + 1, rfl, by omega, by omega, Mod.drew hg2, fun t ht1 ht2 => ?_⟩, ?_⟩
    · rcases Nat.lt_or_ge t i with h' | h'
      · exact hall t ht1 h'
      · have : t = i := by omega
        subst this
        rw [hoi, hni, heq]
    · omega
  simp only [decide_eq_false_iff_not] at hne
  have hdi : o[i]? ≠ n[i]? := by rw [hoi, hni]; simpa using hne
  refine loop_of (fun s w' => ∃ e : Nat, s = e ∧ i < e ∧ e ≤ hiK j ∧ Grow w1 w' ∧ ∀ t, e ≤ t → t < hiK j → o[t]? = n[t]?) (fun s _ => s.toNat)
    ⟨hiK j, rfl, hi3, Nat.le_refl _, Mod.drew hg2, fun t h1 h2 => by omega⟩ ?_
  rintro _ w3 ⟨e, rfl, he1, he2, hg3, hall3⟩
  have hgw3 := Grow.trans hg1 hg3
  have hgd3 := Mod.drew hgw3
  have ee : IntKind.wrap .i64 ((e : Int) - 1) = ((e - 1 : Nat) : Int) := by rw [wrap_i64 (by omega)]; omega
  rw [ee]
  have hoe : o[e - 1]? = some o[e - 1] := by simp
  have hne' : n[e - 1]? = some n[e - 1] := by simp
  refine at_of (b := o[e - 1]) (h1.grow hgd3) (by omega) (by simp) ?_
  refine at_of (b := n[e - 1]) (h2.grow hgd3) (by omega) (by simp) ?_
  rw [toNat_beq]
  refine br_of (fun heq => ?_) (fun hne3 => ?_)
  · simp only [decide_eq_true_eq] at heq
    have hei : e - 1 ≠ i := by
      rintro rfl
      exact hne heq
    refine ⟨⟨e - 1, rfl, by omega, by omega, Mod.drew hg3, fun t ht1 ht2 => ?_⟩, by omega⟩
    rcases Nat.lt_or_ge t e with h' | h'
    · have : t = e - 1 := by omega
      subst this
      rw [hoe, hne', heq]
    · exact hall3 t h' ht2
  simp only [decide_eq_false_iff_not] at hne3
  have hde : o[e - 1]? ≠ n[e - 1]? := by rw [hoe, hne']; simpa using hne3
  refine slc_bs (h2.grow hgd3) hle (by omega) (by omega) (by omega) ?_
  intro t ht htl
  refine callF_of (C15 t _ _ ht (by omega)) ?_
  rintro d w4 ⟨hd, _, hg4⟩
  have hg34 := Grow.trans (Mod.drew hg3) hg4
  have hgw4 := Grow.trans hg1 hg34
  rw [nw_def]
  refine OwnRs.push (w0 := w3.drew) (xs := xs) (x := (⟨1, blk, i, d, 0⟩, _)) (ho.grow (Mod.drew hg3)) ?_ hg4 hd (by omega) ?_
  · exact hgd3.size
  intro r w5 g1 g2 _
  have hg5 : Grow w w5 := Mod.trans hgw4 g2 fun b hb hb2 => absurd (OwnS.blk_le ho.own hb2) (by omega)
  refine ⟨hg5, _, g1, ?_⟩
  rw [range_succ', List.map_append, hx]
  congr 1
  unfold pieceV
  rw [fstD_some hi1 hi3 hdi hall, lstD_some (l := e - 1) (by omega) (by omega) hde fun t ht1 ht2 => hall3 t (by omega) ht2]
  simp only [List.map_cons, List.map_nil, rv, Int.toNat_natCast]
  rw [show e - 1 + 1 = e by omega]
end Go.Proofs

/-! Layer 8, contracts: the document's Cut. -/
namespace Go.Proofs
open Go.Eng

/-- what is known of the first and the last place before i -/
def FL (o n : List UInt8) (lo i : Nat) (a b : Int) : Prop :=
  (a = -1 ∧ b = -1 ∧ ∀ t, lo ≤ t → t < i → o[t]? = n[t]?) ∨
  ∃ f l : Nat, a = f ∧ b = l ∧ lo ≤ f ∧ f ≤ l ∧ l < i ∧ o[f]? ≠ n[f]? ∧ o[l]? ≠ n[l]? ∧ (∀ t, lo ≤ t → t < f → o[t]? = n[t]?) ∧ ∀ t, l < t → t < i → o[t]? = n[t]?

theorem C20 (blk : Int) (p1 p2 : Sl) (o n : List UInt8) (w : World) (h1 : BS w p1 o) (h2 : BS w p2 n) (hle : p2.len ≤ p2.cap) :
    Calls Try.prog 20 #[.int .i64 blk, .slice p1.a p1.len p1.cap, .slice p2.a p2.len p2.cap] w (RetT [.c .slice, .c (.int .i64)] fun r w' =>
      r.2 = cutE blk o n ∧ (∃ xs, OwnRs w' w.heap.size r.1 xs ∧ xs.map rv = if cutE blk o n = 0 then cutV blk o n else []) ∧ Grow w w') := by
  refine F20_calls blk p1 p2 _ _ ?_
  unfold F20
  have hl1 := h1.len
  have hl2 := h2.len
  refine jn_of (fun b w' => b = decide (cutE blk o n ≠ 0) ∧ w = w') ?_ ?_
  · unfold cutE
    simp only [br_def]
    repeat' split
    all_goals (simp_all <;> omega)
  rintro b w' ⟨rfl, rfl⟩
  refine br_of (fun hc => ?_) (fun hc => ?_)
  · simp only [ne_eq, decide_eq_true_eq] at hc
    refine ⟨?_, ⟨[], OwnRs.nil _ _, by simp [hc]⟩, Mod.refl _ _⟩
    unfold cutE at hc ⊢
    split at hc
    · exact absurd rfl hc
    · rw [if_neg (by assumption)]
  have hc0 : cutE blk o n = 0 := by simpa using hc
  have hlens : o.length = 256 ∧ n.length = 256 := by
    unfold cutE at hc0
    split at hc0
    · omega
    · cases hc0
  rw [hc0]
  simp only [if_true]
  refine loop_of (fun s w' => ∃ j : Nat, s.2 = (44 * j : Nat) ∧ j ≤ 6 ∧ Grow w w' ∧ ∃ xs, OwnRs w' w.heap.size s.1 xs ∧ xs.map rv = (List.range j).flatMap (pieceV blk o n)) (fun s _ => 300 - s.2.toNat)
    ⟨0, rfl, by omega, Mod.refl _ _, [], OwnRs.nil _ _, rfl⟩ ?_
  rintro ⟨out, fr⟩ w1 ⟨j, hfr, hj, hg1, xs, ho, hx⟩
  dsimp only at hfr ho ⊢
  refine br_of (fun hlt => ?_) (fun hge => ?_)
  rotate_left
  · simp only [decide_eq_false_iff_not] at hge
    have : j = 6 := by omega
    subst this
    exact ⟨trivial, ⟨xs, ho, hx⟩, hg1⟩
  simp only [decide_eq_true_eq] at hlt
  have e44 : IntKind.wrap .i64 (fr + 44) = ((44 * (j + 1) : Nat) : Int) := by rw [wrap_i64 (by omega)]; omega
  rw [e44]
  have hhi : hiK j ≤ 256 ∧ 44 * j < hiK j ∧ hiK j ≤ 44 * (j + 1) ∧ (hiK j = 256 ∨ hiK j = 44 * (j + 1)) := by unfold hiK; omega
  have hxl : xs.length ≤ 6 := by
    have := congrArg List.length hx
    rw [List.length_map] at this
    have := pieces_len blk o n j
    omega
  refine jn_of (fun out' w' => Grow w w' ∧ ∃ xs, OwnRs w' w.heap.size out' xs ∧ xs.map rv = (List.range (j + 1)).flatMap (pieceV blk o n)) ?_ ?_
  rotate_left
  · rintro out' w' ⟨g1, g2⟩
    refine ⟨⟨j + 1, rfl, by omega, g1, g2⟩, ?_⟩
    omega
  refine loop_of (fun s w' => ∃ i : Nat, s.2.2 = i ∧ 44 * j ≤ i ∧ i ≤ hiK j ∧ Grow w1 w' ∧ FL o n (44 * j) i s.1 s.2.1) (fun s _ => 300 - s.2.2.toNat)
    ⟨44 * j, hfr, Nat.le_refl _, by omega, Mod.refl _ _, .inl ⟨rfl, rfl, fun t h1 h2 => by omega⟩⟩ ?_
  rintro ⟨a, b, _⟩ w2 ⟨i, rfl, hi1, hi2, hg2, hfl⟩
  dsimp only at hfl ⊢
  have hgw2 := Grow.trans hg1 hg2
  refine jn_of (fun c w' => c = decide (i < hiK j) ∧ w2 = w') ?_ ?_
  · refine br_of (fun hc => ⟨?_, rfl⟩) (fun hc => ⟨?_, rfl⟩)
    · simp only [decide_eq_true_eq] at hc
      rw [Bool.eq_iff_iff]
      simp only [decide_eq_true_eq]
      omega
    · simp only [decide_eq_false_iff_not] at hc
      have : ¬ i < hiK j := by omega
      simp [this]
  rintro _ _ ⟨rfl, rfl⟩
  refine br_of (fun hlt2 => ?_) (fun hge2 => ?_)
  · simp only [decide_eq_true_eq] at hlt2
    have hoi : o[i]? = some o[i] := by simp
    have hni : n[i]? = some n[i] := by simp
    have hgd := Mod.drew hgw2
    refine jn_of (fun s w' => Grow w1 w' ∧ FL o n (44 * j) (i + 1) s.1 s.2) ?_ ?_
    rotate_left
    · rintro s w' ⟨g1, g2⟩
      rw [wrap_succ (by omega)]
      refine ⟨⟨i + 1, rfl, by omega, by omega, g1, g2⟩, ?_⟩
      omega
    refine at_of (b := o[i]) (h1.grow hgd) (by omega) (by simp) ?_
    refine at_of (b := n[i]) (h2.grow hgd) (by omega) (by simp) ?_
    rw [show (((o[i].toNat : Int)) != ((n[i].toNat : Int))) = !decide (o[i] = n[i]) by rw [← toNat_beq]; rfl]
    refine br_of (fun hne => ?_) (fun heq => ?_)
    · simp only [Bool.not_eq_true', decide_eq_false_iff_not] at hne
      have hd : o[i]? ≠ n[i]? := by rw [hoi, hni]; simpa using hne
      refine jn_of (fun f w' => w2.drew = w' ∧ ((a < 0 ∧ f = i) ∨ (0 ≤ a ∧ f = a))) ?_ ?_
      · refine br_of (fun h => ⟨rfl, ?_⟩) (fun h => ⟨rfl, ?_⟩)
        · simp only [decide_eq_true_eq] at h
          exact .inl ⟨h, rfl⟩
        · simp only [decide_eq_false_iff_not] at h
          exact .inr ⟨by omega, rfl⟩
      rintro f _ ⟨rfl, hf⟩
      refine ⟨Mod.drew hg2, ?_⟩
      rcases hfl with ⟨ha, hb, hall⟩ | ⟨f', l', ha, hb, q1, q2, q3, q4, q5, q6, q7⟩
      · refine .inr ⟨i, i, by dsimp only; omega, rfl, hi1, Nat.le_refl _, by omega, hd, hd, hall, fun t _ _ => by omega⟩
      · refine .inr ⟨f', i, by dsimp only; omega, rfl, q1, by omega, by omega, q4, hd, q6, fun t _ _ => by omega⟩
    · simp only [Bool.not_eq_false', decide_eq_true_eq] at heq
      have he : o[i]? = n[i]? := by rw [hoi, hni, heq]
      refine ⟨Mod.drew hg2, ?_⟩
      rcases hfl with ⟨ha, hb, hall⟩ | ⟨f', l', ha, hb, q1, q2, q3, q4, q5, q6, q7⟩
      · refine .inl ⟨ha, hb, fun t ht1 ht2 => ?_⟩
        rcases Nat.lt_or_ge t i with h' | h'
        · exact hall t ht1 h'
        · have : t = i := by omega
          subst this
          exact he
      · refine .inr ⟨f', l', ha, hb, q1, q2, by omega, q4, q5, q6, fun t ht1 ht2 => ?_⟩
        rcases Nat.lt_or_ge t i with h' | h'
        · exact q7 t ht1 h'
        · have : t = i := by omega
          subst this
          exact he
  · simp only [decide_eq_false_iff_not] at hge2
    have : i = hiK j := by omega
    subst this
    refine br_of (fun ha0 => ?_) (fun ha0 => ?_)
    · simp only [ge_iff_le, decide_eq_true_eq] at ha0
      rcases hfl with ⟨ha, hb, hall⟩ | ⟨f', l', rfl, rfl, q1, q2, q3, q4, q5, q6, q7⟩
      · omega
      rw [wrap_succ (by omega)]
      refine slc_bs (h2.grow hgw2) hle (by omega) (by omega) (by omega) ?_
      intro t ht htl
      refine clone_app ht (by omega) ?_
      intro d w4 hd hg4
      have hg24 := Grow.trans hg2 hg4
      have hgw4 := Grow.trans hg1 hg24
      rw [nw_def]
      refine OwnRs.push (w0 := w2) (xs := xs) (x := (⟨1, blk, f', d, 0⟩, _)) (ho.grow hg2) hgw2.size hg4 hd (by omega) ?_
      intro r w5 g1 g2 _
      have hg5 : Grow w w5 := Mod.trans hgw4 g2 fun b hb hb2 => absurd (OwnS.blk_le ho.own hb2) (by omega)
      refine ⟨hg5, _, g1, ?_⟩
      rw [range_succ', List.map_append, hx]
      congr 1
      unfold pieceV
      rw [fstD_some q1 (by omega) q4 q6, lstD_some (l := l') (by omega) q3 q5 q7]
      simp only [List.map_cons, List.map_nil, rv, Int.toNat_natCast]
    · simp only [ge_iff_le, decide_eq_false_iff_not] at ha0
      rcases hfl with ⟨ha, hb, hall⟩ | ⟨f', l', rfl, rfl, q1, q2, q3, q4, q5, q6, q7⟩
      · refine ⟨hgw2, xs, ho.grow hg2, ?_⟩
        rw [range_succ', hx]
        unfold pieceV
        rw [fstD_none hall]
        simp
      · omega
end Go.Proofs

/-! Layer 8, contracts: Same, Clone. -/
namespace Go.Proofs
open Go.Eng

abbrev aggR (r : Rw) : Value := .agg #[.int .i64 r.k, .int .i64 r.b, .int .i64 r.o, .slice r.s.a r.s.len r.s.cap, .int .i64 r.m]

theorem C60 (x y : Rc) (w : World) (hx : BS w x.1.s x.2) (hy : BS w y.1.s y.2) : Calls Try.prog 60 #[aggR x.1, aggR y.1] w (RetT [.c .bool] fun r w' => r = decide (rv x = rv y) ∧ Grow w w') := by
  refine F60_calls _ _ _ _ _ _ _ _ _ _ _ _ ?_
  unfold F60
  refine nw_of fun b1 w1 g1 _ _ bx => nw_of fun b2 w2 g2 _ _ hby => ?_
  have hg := Grow.trans g1 g2
  have hbx := bx.grow g2
  have hx' := hx.grow hg
  have hy' := hy.grow hg
  simp only [deref_some']
  refine hbx.ld (i := 0) (s := .int .i64) (p := x.1.k) rfl ?_
  refine hby.ld (i := 0) (s := .int .i64) (p := y.1.k) rfl ?_
  refine br_of (fun h => ?_) (fun h => ⟨?_, hg⟩)
  rotate_left
  · simp only [beq_eq_false_iff_ne] at h
    symm
    simp [rv, h]
  simp only [beq_iff_eq] at h
  refine hbx.ld (i := 1) (s := .int .i64) (p := x.1.b) rfl ?_
  refine hby.ld (i := 1) (s := .int .i64) (p := y.1.b) rfl ?_
  refine br_of (fun h2 => ?_) (fun h2 => ⟨?_, hg⟩)
  rotate_left
  · simp only [beq_eq_false_iff_ne] at h2
    symm
    simp [rv, h2]
  simp only [beq_iff_eq] at h2
  refine hbx.ld (i := 2) (s := .int .i64) (p := x.1.o) rfl ?_
  refine hby.ld (i := 2) (s := .int .i64) (p := y.1.o) rfl ?_
  refine br_of (fun h3 => ?_) (fun h3 => ⟨?_, hg⟩)
  rotate_left
  · simp only [beq_eq_false_iff_ne] at h3
    symm
    simp [rv, h3]
  simp only [beq_iff_eq] at h3
  refine hbx.ld (i := 3) (s := .slice) (p := x.1.s) rfl ?_
  refine b2s_of hx' ?_
  refine hby.ld (i := 3) (s := .slice) (p := y.1.s) rfl ?_
  refine b2s_of hy' ?_
  rw [bytesOf_toList, bytesOf_toList]
  refine br_of (fun h4 => ?_) (fun h4 => ⟨?_, hg⟩)
  rotate_left
  · simp only [beq_eq_false_iff_ne] at h4
    symm
    simp [rv, h4]
  simp only [beq_iff_eq] at h4
  refine hbx.ld (i := 4) (s := .int .i64) (p := x.1.m) rfl ?_
  refine hby.ld (i := 4) (s := .int .i64) (p := y.1.m) rfl ?_
  refine ⟨?_, hg⟩
  rw [Bool.eq_iff_iff]
  simp [rv, h, h2, h3, h4]

abbrev lR : List CS := [.int .i64, .int .i64, .int .i64, .slice, .int .i64]

/-- a record of a list -/
theorem rec_of {w : World} {s : Sl} {xs : List Rc} {j : Nat} {k : Int × Int × Int × Sl × Int → Pr} (h : RL w s xs) (hj : j < xs.length) (hk : k xs[j].1.p w) :
    (owe ((0 : Int) ≤ (j : Int) ∧ (j : Int) < (s.len : Int)) <| deref s.a fun a => deref (some (a.add (Int.toNat j * 5))) fun a1 => ldA [.int .i64, .int .i64, .int .i64, .slice, .int .i64] a1 k) w := by
  have hl := h.len
  obtain ⟨ad, ha, hrow⟩ := h.1.get (n := 5) Rw.cells_len (i := j) (r := xs[j].1) (by simp [hj]) (by omega)
  refine ⟨by omega, ?_⟩
  rw [ha]
  simp only [deref_some, Int.toNat_natCast]
  exact ldA_of (p := xs[j].1.p) (Rw.reads hrow) hk

theorem C21 (s t : Sl) (xs ys : List Rc) (w : World) (hs : RL w s xs) (ht : RL w t ys) (hb : s.len ≤ 100000000000) : Calls Try.prog 21 #[.slice s.a s.len s.cap, .slice t.a t.len t.cap] w
    (RetT [.c .bool] fun r w' => r = decide (xs.map rv = ys.map rv) ∧ Grow w w') := by
  refine F21_calls s t _ _ ?_
  unfold F21
  have hsl := hs.len
  have htl := ht.len
  refine br_of (fun h => ⟨?_, Mod.refl _ _⟩) (fun h => ?_)
  · simp only [bne_iff_ne, ne_eq] at h
    symm
    rw [decide_eq_false_iff_not]
    intro he
    have := congrArg List.length he
    simp only [List.length_map] at this
    omega
  have hl : xs.length = ys.length := by
    simp only [bne_eq_false_iff_eq] at h
    omega
  refine loop_of (fun i w' => ∃ j : Nat, i = j ∧ j ≤ xs.length ∧ Grow w w' ∧ ∀ k (h : k < j) (h1 : k < xs.length) (h2 : k < ys.length), rv xs[k] = rv ys[k]) (fun i _ => xs.length - i.toNat)
    ⟨0, rfl, by omega, Mod.refl _ _, fun k h => by omega⟩ ?_
  rintro _ w1 ⟨j, rfl, hj, hg, hall⟩
  refine br_of (fun hlt => ?_) (fun hge => ⟨?_, hg⟩)
  · simp only [decide_eq_true_eq] at hlt
    have hjx : j < xs.length := by omega
    have hjy : j < ys.length := by omega
    have hgd := Mod.drew hg
    refine rec_of (⟨hs.1.grow hgd, fun x hx => (hs.2 x hx).grow hgd⟩ : RL _ s xs) hjx ?_
    refine rec_of (⟨ht.1.grow hgd, fun x hx => (ht.2 x hx).grow hgd⟩ : RL _ t ys) hjy ?_
    refine callF_of (C60 xs[j] ys[j] _ ((hs.2 _ (by simp)).grow hgd) ((ht.2 _ (by simp)).grow hgd)) ?_
    rintro r w2 ⟨rfl, hg2⟩
    have hg3 := Grow.trans hgd hg2
    refine br_of (fun hb => ⟨?_, hg3⟩) (fun hb => ?_)
    · simp only [Bool.not_eq_true', decide_eq_false_iff_not] at hb
      symm
      rw [decide_eq_false_iff_not]
      intro he
      apply hb
      have := congrArg (fun l => l[j]?) he
      simpa [hjx, hjy] using this
    · simp only [Bool.not_eq_false', decide_eq_true_eq] at hb
      rw [wrap_succ (by omega)]
      refine ⟨⟨j + 1, rfl, by omega, hg3, fun k h h1 h2 => ?_⟩, by omega⟩
      rcases Nat.lt_or_ge k j with h' | h'
      · exact hall k h' h1 h2
      · have : k = j := by omega
        subst this
        exact hb
  · simp only [decide_eq_false_iff_not] at hge
    symm
    rw [decide_eq_true_eq]
    refine List.ext_getElem (by simpa using hl) fun k h1 h2 => ?_
    simp only [List.length_map] at h1 h2
    simpa using hall k (by omega) h1 h2

/-- the walk of both Clones behind the copy -/
theorem clone_tail {w w3 : World} {x : Rw} {d : Sl} {l : List UInt8} {b1 b2 : Nat} {Q : Int × Int × Int × Sl × Int → Pr} (h1 : Box w3 b1 x.cells) (h2 : Box w3 b2 zRec) (hne : b1 ≠ b2) (hg : Grow w w3) (hb1 : w.heap.size ≤ b1) (hb2 : w.heap.size ≤ b2)
    (hd : OwnS w3 (w.heap.size + 2) 1 d (l.map ub)) (hbb : b1 < w.heap.size + 2 ∧ b2 < w.heap.size + 2) (hk : ∀ w', OwnS w' w.heap.size 1 d (l.map ub) → Grow w w' → Q ({ x with s := d } : Rw).p w') :
    (st (Addr.add ⟨b1, 0, none⟩ 3) (.slice d.a d.len d.cap) <| ldA [.int .i64, .int .i64, .int .i64, .slice, .int .i64] ⟨b1, 0, none⟩ fun (t7 : Int × Int × Int × Sl × Int) =>
      st (Addr.add ⟨b2, 0, none⟩ 0) (.int .i64 t7.1) <| st (Addr.add ⟨b2, 0, none⟩ 1) (.int .i64 t7.2.1) <| st (Addr.add ⟨b2, 0, none⟩ 2) (.int .i64 t7.2.2.1) <|
      st (Addr.add ⟨b2, 0, none⟩ 3) (.slice t7.2.2.2.1.a t7.2.2.2.1.len t7.2.2.2.1.cap) <| st (Addr.add ⟨b2, 0, none⟩ 4) (.int .i64 t7.2.2.2.2) <|
      ldA [.int .i64, .int .i64, .int .i64, .slice, .int .i64] ⟨b2, 0, none⟩ Q) w3 := by
  refine h1.st (by simp) trivial fun w4 k1 m1 s1 => ?_
  refine Box.ldA (l := lR) (p := ({ x with s := d } : Rw).p) k1 ?_
  have h2' := h2.mod m1 (fun h => hne h.symm)
  refine h2'.st (by simp) trivial fun w5 k5 m5 s5 => ?_
  refine k5.st (by simp) trivial fun w6 k6 m6 s6 => ?_
  refine k6.st (by simp) trivial fun w7 k7 m7 s7 => ?_
  refine k7.st (by simp) trivial fun w8 k8 m8 s8 => ?_
  refine k8.st (by simp) trivial fun w9 k9 m9 s9 => ?_
  refine Box.ldA (l := lR) (p := ({ x with s := d } : Rw).p) k9 ?_
  have hm : Mod (fun b => b = b1 ∨ b = b2) w3 w9 := by
    refine Mod.trans (Mod.trans (Mod.trans (Mod.trans (Mod.trans (Mod.mono (T := fun b => b = b1 ∨ b = b2) m1 fun _ _ h => .inl h) m5 ?_) m6 ?_) m7 ?_) m8 ?_) m9 ?_ <;> exact fun _ _ h => .inr h
  refine hk w9 ((hd.mod hm fun ad ha hS => ?_).weaken (by omega)) (Mod.trans hg hm fun b hb hS => ?_)
  · have := OwnS.blk_le hd ⟨ad, ha, rfl⟩
    omega
  · omega

theorem C61 (x : Rc) (w : World) (hx : BS w x.1.s x.2) (hb : x.1.s.len ≤ 100000000000000) : Calls Try.prog 61 #[aggR x.1] w (RetT [.agg [.int .i64, .int .i64, .int .i64, .slice, .int .i64]] fun r w' =>
      (∃ d, r = ({ x.1 with s := d } : Rw).p ∧ OwnS w' w.heap.size 1 d (x.2.map ub)) ∧ Grow w w') := by
  refine F61_calls _ _ _ _ _ _ _ ?_
  unfold F61
  refine nw_of fun b1 w1 g1 e1 s1 hb1 => nw_of fun b2 w2 g2 e2 s2 hb2 => ?_
  have hg := Grow.trans g1 g2
  have hb1' := hb1.grow g2
  simp only [deref_some]
  refine hb1'.ld (i := 3) (s := .slice) (p := x.1.s) rfl ?_
  refine callF_of (C15 x.1.s x.2 _ (hx.grow hg) (by omega)) ?_
  rintro d w3 ⟨hd, _, hg3⟩
  simp only [deref_some']
  refine clone_tail (x := x.1) (l := x.2) (hb1'.grow hg3) (hb2.grow hg3) (by omega) (Grow.trans hg hg3) (by omega) (by omega) (by rwa [s2, s1] at hd) (by omega) ?_
  intro w' h1 h2
  exact ⟨⟨d, rfl, h1⟩, h2⟩

theorem C62 (x : Rc) (w : World) (hx : BS w x.1.s x.2) (hb : x.1.s.len ≤ 100000000000000) : Calls Try.prog 62 #[aggR x.1] w (RetT [.agg [.int .i64, .int .i64, .int .i64, .slice, .int .i64]] fun r w' =>
      (∃ d, r = ({ x.1 with s := d } : Rw).p ∧ OwnS w' w.heap.size 1 d (x.2.map ub)) ∧ Grow w w') := by
  refine F62_calls _ _ _ _ _ _ _ ?_
  unfold F62
  refine nw_of fun b1 w1 g1 e1 s1 hb1 => nw_of fun b2 w2 g2 e2 s2 hb2 => ?_
  have hg := Grow.trans g1 g2
  have hb1' := hb1.grow g2
  simp only [deref_some]
  refine hb1'.ld (i := 3) (s := .slice) (p := x.1.s) rfl ?_
  refine clone_app (hx.grow hg) hb ?_
  intro d w3 hd hg3
  simp only [deref_some']
  refine clone_tail (x := x.1) (l := x.2) (hb1'.grow hg3) (hb2.grow hg3) (by omega) (Grow.trans hg hg3) (by omega) (by omega) (by rwa [s2, s1] at hd) (by omega) ?_
  intro w' h1 h2
  exact ⟨⟨d, rfl, h1⟩, h2⟩
end Go.Proofs

/-! Layer 8, contracts: Committed. -/
namespace Go.Proofs
open Go.Eng

def okV (v : Rv) : Bool := checkB v.1 v.2.1 v.2.2.1 v.2.2.2.1 v.2.2.2.2.length
def comGo : List Rv → List Rv → List Rv → Nat → Nat → List Rv × Nat
  | [], out, _, n, _ => (out, n)
  | x :: xs, out, wait, n, i =>
    if okV x = false then (out, n) else if x.1 = 1 then comGo xs out (wait ++ [x]) n (i + 1)
    else if x.2.2.2.1 ≠ (wait.length : Int) then (out, n) else comGo xs (out ++ wait) [] (i + 1) (i + 1)
def com (xs : List Rv) : List Rv × Nat := comGo xs [] [] 0 0

/-- two lists of records, what counts and what waits -/
structure Two (w : World) (n0 : Nat) (a b : Sl) (xo xw : List Rc) : Prop where
  o : OwnRs w n0 a xo
  p : OwnRs w n0 b xw
  pw : (xo ++ xw).Pairwise fun x y => Apart x.1.s y.1.s
  ow : ∀ x ∈ xw, Apart a x.1.s
  wo : ∀ x ∈ xo, Apart b x.1.s
  ab : Apart a b

theorem Apart.nil (s : Sl) : Apart s ⟨none, 0, 0⟩ := fun b _ ⟨ad, h, _⟩ => by cases h

theorem Two.nil (w : World) (n0 : Nat) : Two w n0 ⟨none, 0, 0⟩ ⟨none, 0, 0⟩ [] [] := ⟨OwnRs.nil _ _, OwnRs.nil _ _, .nil, by simp, by simp, Apart.nil _⟩
theorem Two.grow {w w' : World} {n0 : Nat} {a b : Sl} {xo xw : List Rc} (h : Two w n0 a b xo xw) (hg : Grow w w') : Two w' n0 a b xo xw := ⟨h.o.grow hg, h.p.grow hg, h.pw, h.ow, h.wo, h.ab⟩

theorem Two.push {w0 w : World} {n0 : Nat} {a b : Sl} {xo xw : List Rc} {x : Rc} {k : Sl → Pr} (h : Two w0 n0 a b xo xw) (hn0 : n0 ≤ w0.heap.size) (hg : Grow w0 w)
    (hd : OwnS w w0.heap.size 1 x.1.s (x.2.map ub)) (hb : xw.length < 100000000000) (hk : ∀ r w', Two w' n0 a r xo (xw ++ [x]) → Mod b.blk w w' → k r w') :
    app 37 5 56 zRec b ⟨some ⟨w.heap.size, 0, none⟩, 1, 1⟩ k (w.alloc (.cells x.1.cells.toArray 37)) := by
  refine OwnRs.push h.p hn0 hg hd hb ?_
  intro r w' h1 h2 h3
  have hsz := hg.size
  have hlt : ∀ {b}, x.1.s.blk b → w0.heap.size ≤ b := fun h => OwnS.blk_le hd h
  refine hk r w' ⟨(h.o.grow hg).mod h2 (fun c hc1 hc2 => h.ab c hc2 hc1) (fun y hy c hc1 hc2 => h.wo y hy c hc1 hc2), h1, ?_, ?_, ?_, ?_⟩ h2
  · rw [← List.append_assoc, List.pairwise_append]
    refine ⟨h.pw, List.pairwise_singleton _ _, fun y hy c hc b' hb1 hb2 => ?_⟩
    rw [List.mem_singleton] at hc
    subst hc
    have h4 := hlt hb2
    rcases List.mem_append.1 hy with hy | hy
    · have h5 := OwnS.blk_lt (h.o.dat y hy) hb1; omega
    · have h5 := OwnS.blk_lt (h.p.dat y hy) hb1; omega
  · intro y hy c hc1 hc2
    rcases List.mem_append.1 hy with hy | hy
    · exact h.ow y hy c hc1 hc2
    · rw [List.mem_singleton] at hy
      subst hy
      have h4 := hlt hc2
      have h5 := OwnS.blk_lt h.o.own hc1
      omega
  · intro y hy c hc1 hc2
    rcases h3 c hc1 with h4 | h4
    · exact h.wo y hy c h4 hc2
    · have h5 := OwnS.blk_lt (h.o.dat y hy) hc2; omega
  · intro c hc1 hc2
    rcases h3 c hc2 with h4 | h4
    · exact h.ab c hc1 h4
    · have h5 := OwnS.blk_lt h.o.own hc1; omega

theorem Two.join {w : World} {n0 : Nat} {a b : Sl} {xo xw : List Rc} {k : Sl → Pr} (h : Two w n0 a b xo xw) (hn0 : n0 ≤ w.heap.size) (hb : xo.length + xw.length ≤ 100000000000)
    (hk : ∀ r w', Two w' n0 r ⟨none, 0, 0⟩ (xo ++ xw) [] → Mod a.blk w w' → k r w') : app 37 5 56 zRec a b k w := by
  refine OwnRs.more h.o hn0 h.p.own.reads h.p.len h.p.dat h.ow h.pw hb ?_
  intro r w' h1 h2 h3
  exact hk r w' ⟨h1, OwnRs.nil _ _, by simpa using h1.pw, by simp, fun x _ => (Apart.nil _).symm, Apart.nil _⟩ h2

theorem comGo_len : ∀ (xs out wait : List Rv) (n i : Nat), n ≤ i → (comGo xs out wait n i).2 ≤ i + xs.length
  | [], out, wait, n, i, h => by simpa [comGo] using h
  | x :: xs, out, wait, n, i, h => by
    unfold comGo
    simp only [List.length_cons]
    split
    · dsimp only; omega
    · split
      · have := comGo_len xs out (wait ++ [x]) n (i + 1) (by omega)
        omega
      · split
        · dsimp only; omega
        · have := comGo_len xs (out ++ wait) [] (i + 1) (i + 1) (by omega)
          omega

theorem okV_rv {w : World} {x : Rc} (h : BS w x.1.s x.2) : okV (rv x) = x.1.ok := by
  unfold okV Rw.ok rv
  rw [h.len]

theorem com_step {xs : List Rc} {j : Nat} (hj : j < xs.length) (out wait : List Rv) (n : Nat) : comGo ((xs.drop j).map rv) out wait n j =
    if okV (rv xs[j]) = false then (out, n) else if xs[j].1.k = 1 then comGo ((xs.drop (j + 1)).map rv) out (wait ++ [rv xs[j]]) n (j + 1)
    else if xs[j].1.m ≠ (wait.length : Int) then (out, n) else comGo ((xs.drop (j + 1)).map rv) (out ++ wait) [] (j + 1) (j + 1) := by
  rw [List.drop_eq_getElem_cons hj, List.map_cons, comGo]
  rfl

/-- the loop of both Committed: what is known at record j -/
def ComI (w : World) (xs : List Rc) (a b : Sl) (n i : Int) (w' : World) : Prop :=
  ∃ (j m : Nat), i = j ∧ j ≤ xs.length ∧ n = m ∧ Grow w w' ∧ ∃ xo xw, Two w' w.heap.size a b xo xw ∧ xo.length + xw.length ≤ j ∧ comGo ((xs.drop j).map rv) (xo.map rv) (xw.map rv) m j = com (xs.map rv)

def ComQ (w : World) (xs : List Rc) (a : Sl) (n : Int) (w' : World) : Prop :=
  n = (com (xs.map rv)).2 ∧ (∃ ys, OwnRs w' w.heap.size a ys ∧ ys.map rv = (com (xs.map rv)).1) ∧ Grow w w'

theorem com_done {w w' : World} {xs : List Rc} {a b : Sl} {m j : Nat} {xo xw : List Rc} (h : Two w' w.heap.size a b xo xw) (hg : Grow w w') (he : comGo ((xs.drop j).map rv) (xo.map rv) (xw.map rv) m j = com (xs.map rv))
    (hs : comGo ((xs.drop j).map rv) (xo.map rv) (xw.map rv) m j = (xo.map rv, m)) : ComQ w xs a m w' := by
  rw [hs] at he
  exact ⟨by rw [← he], ⟨xo, h.o, by rw [← he]⟩, hg⟩

theorem C24 (s : Sl) (xs : List Rc) (w : World) (h : RL w s xs) (hl : s.len ≤ 1000000) : Calls Try.prog 24 #[.slice s.a s.len s.cap] w (RetT [.c .slice, .c (.int .i64)] fun r w' => ComQ w xs r.1 r.2 w') := by
  refine F24_calls s _ _ ?_
  unfold F24
  have hsl := h.len
  refine jn_of (fun r w' => ComQ w xs r.1 r.2 w') ?_ (fun r w' h => h)
  refine loop_of (fun t w' => ComI w xs t.1 t.2.1 t.2.2.1 t.2.2.2 w') (fun t _ => xs.length - t.2.2.2.toNat)
    ⟨0, 0, rfl, by omega, rfl, Mod.refl _ _, [], [], Two.nil _ _, by simp, rfl⟩ ?_
  rintro ⟨a, b, _, _⟩ w1 ⟨j, m, rfl, hj, rfl, hg, xo, xw, ht, hxl, he⟩
  dsimp only
  refine br_of (fun hlt => ?_) (fun hge => ?_)
  rotate_left
  · simp only [decide_eq_false_iff_not] at hge
    have : j = xs.length := by omega
    subst this
    refine com_done ht hg he ?_
    simp [comGo]
  simp only [decide_eq_true_eq] at hlt
  have hjl : j < xs.length := by omega
  have hbj := h.2 xs[j] (by simp)
  refine jn_of (fun t w' => ComI w xs t.1 t.2.1 t.2.2 ((j + 1 : Nat) : Int) w') ?_ ?_
  rotate_left
  · rintro t w' g1
    rw [wrap_succ (by omega)]
    refine ⟨g1, ?_⟩
    omega
  rw [com_step hjl] at he
  refine rec_of (⟨h.1.grow hg, fun x hx => (h.2 x hx).grow hg⟩ : RL _ s xs) hjl ?_
  refine nw_of fun r w2 g2 e2 s2 bx => ?_
  simp only [deref_some']
  have hg2 := Grow.trans hg g2
  have hgst : ∀ {w4 w5 : World}, Grow w1 w4 → Mod (· = r) w4 w5 → Grow w1 w5 := fun h4 h5 => Mod.trans h4 h5 fun c hc1 hc2 => by omega
  refine bx.st (by simp) trivial fun w3 k3 m3 s3 => ?_
  refine k3.st (by simp) trivial fun w4 k4 m4 s4 => ?_
  refine k4.st (by simp) trivial fun w5 k5 m5 s5 => ?_
  refine k5.st (by simp) trivial fun w6 k6 m6 s6 => ?_
  refine k6.st (by simp) trivial fun w7 k7 m7 s7 => ?_
  have g7 : Grow w1 w7 := hgst (hgst (hgst (hgst (hgst g2 m3) m4) m5) m6) m7
  have hbox : Box w7 r xs[j].1.cells := k7
  refine Box.ldA (l := lR) (p := xs[j].1.p) hbox ?_
  refine callF_of (C59 _ _ _ _ _ _) ?_
  rintro c w8 ⟨rfl, g8⟩
  have g18 := Grow.trans g7 g8
  have gw8 := Grow.trans hg g18
  have hbox8 := hbox.grow g8
  have hok : checkB xs[j].1.p.1 xs[j].1.p.2.1 xs[j].1.p.2.2.1 xs[j].1.p.2.2.2.2 xs[j].1.p.2.2.2.1.len = xs[j].1.ok := rfl
  rw [hok]
  have hokv := okV_rv hbj
  refine br_of (fun hc => ?_) (fun hc => ?_)
  · have : xs[j].1.ok = false := by
      cases hh : xs[j].1.ok
      · rfl
      · rw [hh] at hc; simp at hc
    rw [hokv, if_pos this] at he
    exact ⟨by rw [← he], ⟨xo, ht.o.grow g18, by rw [← he]⟩, gw8⟩
  have hokt : xs[j].1.ok = true := by
    cases hh : xs[j].1.ok
    · rw [hh] at hc; simp at hc
    · rfl
  rw [hokv, if_neg (by simp [hokt])] at he
  refine hbox8.ld (i := 0) (s := .int .i64) (p := xs[j].1.k) rfl ?_
  refine br_of (fun hk1 => ?_) (fun hk1 => ?_)
  · simp only [beq_iff_eq] at hk1
    rw [if_pos hk1] at he
    refine Box.ldA (l := lR) (p := xs[j].1.p) hbox8 ?_
    have hb8 := hbj.grow gw8
    have hbd := ok_bounds hokt
    refine callF_of (C61 xs[j] _ hb8 (by omega)) ?_
    rintro q w9 ⟨⟨d, rfl, hd⟩, g9⟩
    rw [nw_def]
    refine Two.push (w0 := w8) (x := (({ xs[j].1 with s := d } : Rw), xs[j].2)) (ht.grow g18) gw8.size g9 hd (by omega) ?_
    intro r' w10 h10 m10
    refine ⟨j + 1, m, rfl, hjl, rfl, ?_, xo, _, h10, by simp only [List.length_append, List.length_singleton]; omega, ?_⟩
    · exact Mod.trans (Grow.trans gw8 g9) m10 fun c hc1 hc2 => absurd (OwnS.blk_le ht.p.own hc2) (by omega)
    · rw [List.map_append, ← he]
      rfl
  · simp only [beq_eq_false_iff_ne] at hk1
    rw [if_neg hk1] at he
    refine hbox8.ld (i := 4) (s := .int .i64) (p := xs[j].1.m) rfl ?_
    have hwl := ht.p.len
    refine br_of (fun hm => ?_) (fun hm => ?_)
    · simp only [bne_iff_ne, ne_eq] at hm
      have hm' : ¬ xs[j].1.m = (b.len : Int) := hm
      have hm2 : xs[j].1.m ≠ ((xw.map rv).length : Int) := by rw [List.length_map, ← hwl]; exact hm'
      rw [if_pos hm2] at he
      exact ⟨by rw [← he], ⟨xo, ht.o.grow g18, by rw [← he]⟩, gw8⟩
    · simp only [bne_eq_false_iff_eq] at hm
      have hm' : xs[j].1.m = (b.len : Int) := hm
      have hm2 : ¬ xs[j].1.m ≠ ((xw.map rv).length : Int) := by rw [List.length_map, ← hwl]; exact fun h => h hm'
      rw [if_neg hm2] at he
      refine Two.join (ht.grow g18) gw8.size (by omega) ?_
      intro r' w10 h10 m10
      rw [wrap_succ (by omega)]
      refine ⟨j + 1, j + 1, rfl, hjl, rfl, ?_, _, _, h10, by simp only [List.length_append, List.length_nil]; omega, ?_⟩
      · exact Mod.trans gw8 m10 fun c hc1 hc2 => absurd (OwnS.blk_le ht.o.own hc2) (by omega)
      · rw [List.map_append, ← he]
        rfl
end Go.Proofs

/-! Layer 8, contracts: the law's own test of a page (begun). -/
namespace Go.Proofs
open Go.Eng

def redoV (blk : Int) (p : List UInt8) (vs : List Rv) : List UInt8 := vs.foldl (fun p v => if v.2.1 = blk then lay p v.2.2.1.toNat v.2.2.2.2 else p) p
def redoEV (p : List UInt8) (vs : List Rv) : Int := if p.length ≠ 256 then 1 else if vs.any (fun v => !okV v) then 60 else 0

theorem redoF_rv (blk : Int) : ∀ (xs : List Rc) (p : List UInt8), redoF blk p xs = redoV blk p (xs.map rv)
  | [], p => rfl
  | x :: xs, p => by
    unfold redoF redoV
    rw [List.foldl_cons, List.map_cons, List.foldl_cons]
    exact redoF_rv blk xs _

theorem redoE_rv {w : World} {s : Sl} {xs : List Rc} (h : RL w s xs) (p : List UInt8) : redoE p xs = redoEV p (xs.map rv) := by
  unfold redoE redoEV
  rw [List.any_map]
  have : xs.any (fun x => !x.1.ok) = xs.any ((fun v => !okV v) ∘ rv) := by
    rw [Bool.eq_iff_iff, List.any_eq_true, List.any_eq_true]
    constructor
    · rintro ⟨x, hx, h2⟩
      exact ⟨x, hx, by simpa [okV_rv (h.2 x hx)] using h2⟩
    · rintro ⟨x, hx, h2⟩
      exact ⟨x, hx, by simpa [okV_rv (h.2 x hx)] using h2⟩
  rw [this]

/-- a field of a record of a list -/
theorem fld_of {w : World} {s : Sl} {xs : List Rc} {j i : Nat} {c : CS} {p : PayC c} {k : PayC c → Pr} (h : RL w s xs) (hj : j < xs.length) (hi : xs[j].1.cells[i]? = some (valC c p)) (hk : k p w) :
    (owe ((0 : Int) ≤ (j : Int) ∧ (j : Int) < (s.len : Int)) <| deref s.a fun a => deref (some (a.add (Int.toNat j * 5))) fun a1 => deref (some (a1.add i)) fun a2 => ldC c a2 k) w := by
  have hl := h.len
  obtain ⟨ad, ha, hrow⟩ := h.1.get (n := 5) Rw.cells_len (i := j) (r := xs[j].1) (by simp [hj]) (by omega)
  refine ⟨by omega, ?_⟩
  rw [ha]
  simp only [deref_some', Int.toNat_natCast]
  exact ldC_of (hrow.get hi) hk

theorem mk_own {w : World} {n : Nat} {k : Sl → Pr} (h : n ≤ 1000000000) (hk : ∀ r w', OwnS w' w.heap.size 1 r ((List.replicate n (0 : UInt8)).map ub) → Grow w w' → r.len = n → k r w') : mkS 5 1 [.int .u8 0] (n : Int) (n : Int) k w := by
  refine ⟨by omega, by omega, by omega, by omega, ?_⟩
  have hz : (zc [.int .u8 0] n) = (List.replicate n (0 : UInt8)).map ub := by
    clear hk h
    simp only [zc, List.map_replicate]
    induction n with
    | zero => rfl
    | succ n ih =>
      rw [List.replicate_succ, List.flatten_cons, ih, List.replicate_succ]
      rfl
  simp only [Int.toNat_natCast]
  rw [hz]
  refine hk _ _ ⟨by simp, by simp, .inr ⟨w.heap.size, 0, [], rfl, Nat.le_refl _, by simp, fun o => World.frozen?_alloc_new _ _ _ _, fun j v hj => ?_, by simp⟩⟩ ((Mod.refl _ w).alloc _) rfl
  rw [add_mk, Nat.zero_add, World.cell?_alloc_new, List.getElem?_toArray]
  simpa using hj

theorem C56 (s : Sl) (xs : List Rc) (w : World) (h : RL w s xs) (hl : s.len ≤ 1000000) : Calls Try.prog 56 #[.slice s.a s.len s.cap] w (RetT [.c .slice] fun r w' => OwnS w' w.heap.size 5 r (rcs xs) ∧ Grow w w') := by
  refine F56_calls s _ _ ?_
  unfold F56
  have hlen : (rcs xs).length = xs.length * 5 := by rw [rcs_map, flatMap_len Rw.cells_len]; simp
  have hsl := h.len
  refine ⟨trivial, br_of (fun hn => ?_) (fun hn => ?_)⟩
  · have ha : s.a = none := by simpa using hn
    have h0 := h.1.none_len Rw.cells_len (by decide) ha
    have hl0 : xs = [] := List.eq_nil_of_length_eq_zero (by omega)
    subst hl0
    exact ⟨OwnS.nil _ _ _, Mod.refl _ _⟩
  · have ha : s.a ≠ none := fun h => by simp [h] at hn
    have hrow := h.1.row
    rw [← rcs_map] at hrow
    refine app_own (n0 := w.heap.size) (vs := []) (new := rcs xs) ⟨by simp, by simp, .inr ⟨w.heap.size, 0, [], rfl, Nat.le_refl _, by simp, fun o => by simp, Row.nil _ _, rfl⟩⟩ (by simp) (fun _ => by omega) (fun hx => absurd hx ha)
      (hrow.grow ((Mod.refl _ w).alloc _)) (rcs_na _) rfl (by decide) (by simp; omega) ?_
    intro r w' h1 h2 h3 h4 h5
    refine ⟨by simpa using h1, Mod.trans ((Mod.refl _ w).alloc _) h5 ?_⟩
    rintro b hb ⟨ad, had, rfl⟩
    simp only [Option.some.injEq] at had
    subst had
    exact absurd hb (Nat.lt_irrefl _)

/-- one byte of an owned slice of bytes is written -/
theorem put_of {w : World} {n0 : Nat} {s : Sl} {l : List UInt8} {k : Pr} {i : Int} {b : UInt8} (h : OwnS w n0 1 s (l.map ub)) (h0 : 0 ≤ i) (hi : i.toNat < l.length)
    (hk : ∀ w', OwnS w' n0 1 s ((l.set i.toNat b).map ub) → Mod s.blk w w' → w'.heap.size = w.heap.size → k w') :
    (owe ((0 : Int) ≤ i ∧ i < (s.len : Int)) <| deref s.a fun a => deref (some (a.add (Int.toNat i * 1))) fun a1 => st a1 (.int .u8 (b.toNat : Int)) k) w := by
  have hl := h.bs.len
  refine ⟨⟨h0, by omega⟩, ?_⟩
  obtain ⟨ad, h1, h2⟩ := OwnS.put (k := k) (v := .int .u8 (b.toNat : Int)) h (by simpa using hi) trivial (fun w' g1 g2 g3 => hk w' (by rw [List.map_set]; exact g1) g2 g3)
  rw [h1]
  simp only [deref_some', Nat.mul_one]
  exact h2

def old0 : List UInt8 := List.replicate 256 0
def now0 : List UInt8 := ((old0.set 3 1).set 5 1).set 50 1
def cut0 : List Rv := [(1, 7, 3, 0, [1, 0, 1]), (1, 7, 50, 0, [1])]

theorem cut0_eq : cutV 7 old0 now0 = cut0 := by decide +kernel
theorem cut0_E : cutE 7 old0 now0 = 0 := by decide +kernel
theorem redo0 : redoV 7 old0 cut0 = now0 := by decide +kernel
theorem redo0_E : redoEV old0 cut0 = 0 := by decide +kernel
theorem com0 : com (cut0 ++ [(2, 0, 0, 2, [])]) = (cut0, 3) := Prod.ext (by decide +kernel) (by decide +kernel)

theorem C13 (w : World) : Calls Try.prog 13 #[] w (RetT [.c .bool] fun r w' => r = true ∧ Grow w w') := by
  refine F13_calls _ _ ?_
  unfold F13
  refine jn_of (fun s w' => OwnS w' w.heap.size 1 s.1 (old0.map ub) ∧ OwnS w' w.heap.size 1 s.2 (old0.map ub) ∧ Apart s.1 s.2 ∧ Grow w w') ?_ ?_
  · have hap : ∀ {w1 w2 : World} {s t : Sl} {vs us : List Value}, OwnS w1 w.heap.size 1 s vs → OwnS w2 w1.heap.size 1 t us → Apart s t := by
      intro w1 w2 s t vs us h1 h2 b hb1 hb2
      have := OwnS.blk_lt h1 hb1
      have := OwnS.blk_le h2 hb2
      omega
    refine ⟨?_, ?_⟩
    · refine mk_own (n := 256) (by decide) fun r w1 h1 g1 _ => mk_own (n := 256) (by decide) fun r2 w2 h2 g2 _ => ?_
      exact ⟨h1.grow g2, h2.weaken g1.size, hap h1 h2, Grow.trans ((Mod.refl _ w).drew) (Grow.trans g1 g2)⟩
    · refine mk_own (n := 256) (by decide) fun r w1 h1 g1 _ => mk_own (n := 256) (by decide) fun r2 w2 h2 g2 _ => ?_
      exact ⟨h2.weaken g1.size, h1.grow g2, (hap h1 h2).symm, Grow.trans ((Mod.refl _ w).drew) (Grow.trans g1 g2)⟩
  rintro ⟨s, t⟩ w1 ⟨hs, ht, hap, hg1⟩
  dsimp only at hs ht hap ⊢
  refine put_of (i := 3) (b := 1) ht (by decide) (by decide +kernel) fun w2 t2 m2 _ => ?_
  refine put_of (i := 5) (b := 1) t2 (by decide) (by decide +kernel) fun w3 t3 m3 _ => ?_
  refine put_of (i := 50) (b := 1) t3 (by decide) (by decide +kernel) fun w4 t4 m4 _ => ?_
  have m14 : Mod t.blk w1 w4 := Mod.trans (Mod.trans m2 m3 fun _ _ h => h) m4 fun _ _ h => h
  have hg4 : Grow w w4 := Mod.trans hg1 m14 fun b hb hb2 => absurd (OwnS.blk_le ht hb2) (by omega)
  have hs4 := hs.mod m14 fun ad ha hS => hap _ ⟨ad, ha, rfl⟩ hS
  have ht4 : OwnS w4 w.heap.size 1 t (now0.map ub) := t4
  refine callF_of (C19 7 s t old0 now0 w4 hs4.bs ht4.bs ht4.le) ?_
  rintro ⟨l, e⟩ w5 ⟨he, ⟨xs, hx, hv⟩, g5⟩
  dsimp only at he hx ⊢
  rw [cut0_E] at he
  rw [cut0_E, if_pos rfl, cut0_eq] at hv
  subst he
  have hg5 := Grow.trans hg4 g5
  have hxl : xs.length = 2 := by
    have := congrArg List.length hv
    simpa [cut0] using this
  have hll := hx.len
  refine callF_of (C16 s l 7 old0 xs w5 (hs4.grow g5).bs hx.rl (by omega)) ?_
  rintro ⟨p, f⟩ w6 ⟨hf, hp, g6⟩
  dsimp only at hf hp ⊢
  rw [redoE_rv hx.rl, hv, redo0_E] at hf
  rw [redoE_rv hx.rl, hv, redo0_E, if_pos rfl, redoF_rv, hv, redo0] at hp
  subst hf
  have hx6 := hx.grow g6
  refine callF_of (C56 l xs w6 hx6.rl (by omega)) ?_
  rintro q w7 ⟨hq, g7⟩
  refine nw_of fun b w8 g8 e8 s8 b8 => ?_
  have g68 := Grow.trans g7 g8
  have hcl : (rcs xs).length = 10 := by rw [rcs_map, flatMap_len Rw.cells_len]; simp [hxl]
  have hql := hq.len
  refine app_own (n0 := w6.heap.size) (vs := rcs xs) (new := rcs [((⟨2, 0, 0, ⟨none, 0, 0⟩, 2⟩ : Rw), [])]) (hq.grow g8) g68.size (fun _ => rfl) (fun h => by cases h) (readsAt_row.2 b8.row) (rcs_na _) rfl (by decide) (by dsimp only; omega) ?_
  intro q2 w9 h9 _ _ _ m9
  have g69 : Grow w6 w9 := Mod.trans g68 m9 fun b hb hb2 => absurd (OwnS.blk_le hq hb2) (by omega)
  rw [← rcs_append] at h9
  have hr9 : RL w9 q2 (xs ++ [((⟨2, 0, 0, ⟨none, 0, 0⟩, 2⟩ : Rw), [])]) := by
    refine ⟨OwnS.ss Rw.cells_len (by decide) (n0 := w6.heap.size) (by rw [← rcs_map]; exact h9), fun x hx' => ?_⟩
    rcases List.mem_append.1 hx' with hx' | hx'
    · exact (hx6.rl.2 x hx').grow g69
    · rw [List.mem_singleton] at hx'
      subst hx'
      exact BS.nil _ _
  refine callF_of (C24 q2 _ w9 hr9 (by rw [hr9.len]; simp [hxl])) ?_
  rintro ⟨q3, n⟩ w10 ⟨hn, ⟨ys, hy, hyv⟩, g10⟩
  dsimp only at hn hy ⊢
  rw [List.map_append, hv] at hn hyv
  change n = (com (cut0 ++ [(2, 0, 0, 2, [])])).2 at hn
  change ys.map rv = (com (cut0 ++ [(2, 0, 0, 2, [])])).1 at hyv
  rw [com0] at hn hyv
  subst hn
  have hyl : ys.length = 2 := by
    have := congrArg List.length hyv
    simpa [cut0] using this
  have hyl2 := hy.len
  have g610 := Grow.trans g69 g10
  have hg10 := Grow.trans hg5 (Grow.trans g6 g610)
  have hx10 := hx6.grow g610
  have h0 : rv xs[0] = (1, 7, 3, 0, [1, 0, 1]) := by
    have := congrArg (fun l => l[0]?) hv
    simpa [hxl, cut0] using this
  refine br_t rfl (br_t ?_ ?_)
  · rw [beq_iff_eq]; omega
  refine fld_of (j := 0) (i := 2) (c := .int .i64) (p := xs[0].1.o) hx10.rl (by omega) rfl ?_
  have ho : xs[0].1.o = 3 := congrArg (fun v => v.2.2.1) h0
  refine br_t (by rw [ho]; rfl) ?_
  refine fld_of (j := 0) (i := 3) (c := .slice) (p := xs[0].1.s) hx10.rl (by omega) rfl ?_
  refine nw_of fun bb w11 g11 _ _ b11 => ?_
  have hx11 := hx10.grow g11
  have hd : BS w11 xs[0].1.s [1, 0, 1] := by
    have h1 := hx11.rl.2 xs[0] (by simp)
    have h2 : xs[0].2 = [1, 0, 1] := congrArg (fun v => v.2.2.2.2) h0
    rwa [h2] at h1
  have hlit : BS w11 ⟨some ⟨bb, 0, none⟩, 3, 3⟩ [1, 0, 1] := ⟨rfl, readsAt_row.2 b11.row⟩
  refine callF_of (C18 xs[0].1.s ⟨some ⟨bb, 0, none⟩, 3, 3⟩ _ [1, 0, 1] w11 hd hlit) ?_
  rintro _ _ ⟨rfl, rfl⟩
  refine br_t rfl (br_t rfl ?_)
  have g611 := Grow.trans g610 g11
  have hp11 := (hp.grow g611).bs
  have ht11 := (ht4.grow (Grow.trans (Grow.trans g5 g6) g611)).bs
  refine callF_of (C18 _ _ now0 now0 _ hp11 ht11) ?_
  rintro b12 w12 ⟨h12, h12'⟩
  have h12t : b12 = true := h12.trans (beq_self_eq_true now0)
  clear h12
  subst h12t
  subst h12'
  refine br_t (by simp) (br_t ?_ ⟨rfl, Grow.trans hg10 g11⟩)
  rw [beq_iff_eq]; omega
end Go.Proofs

/-! Layer 8, the laws' walks: ReplayCuts. -/
namespace Go.Proofs
open Go.Eng

theorem wrap_u8_ex (n : Int) : ∃ b : UInt8, IntKind.wrap .u8 n = (b.toNat : Int) := by
  refine ⟨UInt8.ofNat (n % 256).toNat, ?_⟩
  simp only [IntKind.wrap, IntKind.signed, IntKind.bits]
  simp
  omega

/-- a field of a record of a list -/
theorem fld_rs {w : World} {n0 : Nat} {s : Sl} {rs : List Rc} {j i : Nat} {c : CS} {p : PayC c} {k : PayC c → Pr} (h : OwnS w n0 5 s (rcs rs)) (hj : j < rs.length) (hi : rs[j].1.cells[i]? = some (valC c p)) (hk : k p w) :
    (owe ((0 : Int) ≤ (j : Int) ∧ (j : Int) < (s.len : Int)) <| deref s.a fun a => deref (some (a.add (Int.toNat j * 5))) fun a1 => deref (some (a1.add i)) fun a2 => ldC c a2 k) w := by
  have h1 : RS w s (rs.map (·.1)) := OwnS.ss Rw.cells_len (by decide) (n0 := n0) (by rw [← rcs_map]; exact h)
  have hl := h1.len
  rw [List.length_map] at hl
  obtain ⟨ad, ha, hrow⟩ := h1.get (n := 5) Rw.cells_len (i := j) (r := rs[j].1) (by simp [hj]) (by omega)
  refine ⟨by omega, ?_⟩
  rw [ha]
  simp only [deref_some', Int.toNat_natCast]
  exact ldC_of (hrow.get hi) hk

/-- all the bytes of an owned slice are turned over -/
theorem xor_loop {w : World} {n0 : Nat} {s : Sl} {l : List UInt8} {k : Pr} (h : OwnS w n0 1 s (l.map ub)) (hl : s.len ≤ 1000000000) (hk : ∀ w' (l' : List UInt8), OwnS w' n0 1 s (l'.map ub) → Mod s.blk w w' → k w') :
    loopE (S := Int) (fun X i => br (decide (i < (s.len : Int))) (owe ((0 : Int) ≤ i ∧ i < (s.len : Int)) <| deref s.a fun a => deref (some (a.add (Int.toNat i * 1))) fun a_1 => ldC (.int .u8) a_1 fun (t : Int) =>
      owe ((0 : Int) ≤ i ∧ i < (s.len : Int)) <| deref s.a fun a_2 => deref (some (a_2.add (Int.toNat i * 1))) fun a_3 => st a_3 (.int .u8 (bXor .u8 t 255)) <| X (IntKind.wrap .i64 (i + 1))) k) 0 w := by
  refine loop_of (fun i w' => ∃ j : Nat, i = j ∧ j ≤ s.len ∧ Mod s.blk w w' ∧ ∃ l', OwnS w' n0 1 s (List.map ub l')) (fun i _ => s.len - i.toNat) ⟨0, rfl, by omega, Mod.refl _ _, l, h⟩ ?_
  rintro _ w1 ⟨j, rfl, hj, hm, l', h'⟩
  have hlen := h'.bs.len
  refine br_of (fun hlt => ?_) (fun _ => hk w1 l' h' hm)
  simp only [decide_eq_true_eq] at hlt
  refine at_of (b := l'[j]) h'.bs (by omega) (by simp) ?_
  obtain ⟨b, hb⟩ := wrap_u8_ex (BitVec.ofInt IntKind.u8.bits (l'[j].toNat : Int) ^^^ BitVec.ofInt IntKind.u8.bits 255).toNat
  have hb' : bXor .u8 (l'[j].toNat : Int) 255 = (b.toNat : Int) := hb
  rw [hb']
  refine put_of h' (by omega) (by simp; omega) fun w2 h2 m2 _ => ?_
  rw [wrap_succ (by omega)]
  exact ⟨⟨j + 1, rfl, by omega, Mod.trans hm m2 fun _ _ h => h, _, h2⟩, by omega⟩

/-- the loop of F4 over all patches -/
theorem xors {w : World} {n0 : Nat} {s : Sl} {xs : List Rc} {k : Pr} (h : OwnRs w n0 s xs) (hn : xs.length ≤ 1000000) (hd : ∀ x ∈ xs, x.2.length ≤ 1000000) (hk : ∀ w', Mod (n0 ≤ ·) w w' → k w') :
    loopE (S := Int) (fun X s_2 => br (decide (s_2 < (s.len : Int))) (
      owe ((0 : Int) ≤ s_2 ∧ s_2 < (s.len : Int)) <| deref s.a fun a => deref (some (a.add (Int.toNat s_2 * 5))) fun a_1 => deref (some (a_1.add 3)) fun a_2 => ldC .slice a_2 fun (t61 : Sl) =>
      loopE (S := Int) (fun X_1 s_3 => br (decide (s_3 < (t61.len : Int))) (
        owe ((0 : Int) ≤ s_2 ∧ s_2 < (s.len : Int)) <| deref s.a fun a_3 => deref (some (a_3.add (Int.toNat s_2 * 5))) fun a_4 => deref (some (a_4.add 3)) fun a_5 => ldC .slice a_5 fun (t70 : Sl) =>
        owe ((0 : Int) ≤ s_3 ∧ s_3 < (t70.len : Int)) <| deref t70.a fun a_6 => deref (some (a_6.add (Int.toNat s_3 * 1))) fun a_7 => ldC (.int .u8) a_7 fun (t73 : Int) =>
        owe ((0 : Int) ≤ s_3 ∧ s_3 < (t70.len : Int)) <| deref t70.a fun a_8 => deref (some (a_8.add (Int.toNat s_3 * 1))) fun a_9 => st a_9 (.int .u8 (bXor .u8 t73 255)) <|
        X_1 ((IntKind.wrap .i64 (s_3 + 1)))) (X ((IntKind.wrap .i64 (s_2 + 1))))) 0) k) 0 w := by
  have hsl := h.len
  have hpw := List.pairwise_iff_getElem.1 h.pw
  have hap : ∀ i j (hi : i < xs.length) (hj : j < xs.length), i ≠ j → Apart xs[i].1.s xs[j].1.s := by
    intro i j hi hj hne
    rcases Nat.lt_or_ge i j with h' | h'
    · exact hpw i j hi hj h'
    · exact (hpw j i hj hi (by omega)).symm
  refine loop_of (fun i w' => ∃ j : Nat, i = j ∧ j ≤ xs.length ∧ Mod (n0 ≤ ·) w w' ∧ OwnS w' n0 5 s (rcs xs) ∧ ∀ k (hk : k < xs.length), ∃ l', OwnS w' n0 1 xs[k].1.s (List.map ub l')) (fun i _ => xs.length - i.toNat)
    ⟨0, rfl, by omega, Mod.refl _ _, h.own, fun k hk => ⟨_, h.dat xs[k] (List.getElem_mem hk)⟩⟩ ?_
  rintro _ w1 ⟨j, rfl, hj, hm, hown, hall⟩
  refine br_of (fun hlt => ?_) (fun _ => hk w1 hm)
  simp only [decide_eq_true_eq] at hlt
  have hjl : j < xs.length := by omega
  refine fld_rs (i := 3) (c := .slice) (p := xs[j].1.s) hown hjl rfl ?_
  have hdl : xs[j].1.s.len ≤ 1000000 := by rw [(h.dat xs[j] (by simp)).bs.len]; exact hd _ (by simp)
  refine loop_of (fun i w' => ∃ k : Nat, i = k ∧ k ≤ xs[j].1.s.len ∧ Mod (n0 ≤ ·) w w' ∧ OwnS w' n0 5 s (rcs xs) ∧ ∀ k (hk : k < xs.length), ∃ l', OwnS w' n0 1 xs[k].1.s (List.map ub l')) (fun i _ => xs[j].1.s.len - i.toNat)
    ⟨0, rfl, by omega, hm, hown, hall⟩ ?_
  rintro _ w2 ⟨k, rfl, hk2, hm2, hown2, hall2⟩
  refine br_of (fun hlt2 => ?_) (fun _ => ?_)
  · simp only [decide_eq_true_eq] at hlt2
    obtain ⟨l', h'⟩ := hall2 j hjl
    have hlen := h'.bs.len
    refine fld_rs (i := 3) (c := .slice) (p := xs[j].1.s) hown2 hjl rfl ?_
    refine at_of (b := l'[k]) h'.bs (by omega) (by simp) ?_
    obtain ⟨b, hb⟩ := wrap_u8_ex (BitVec.ofInt IntKind.u8.bits (l'[k].toNat : Int) ^^^ BitVec.ofInt IntKind.u8.bits 255).toNat
    have hb' : bXor .u8 (l'[k].toNat : Int) 255 = (b.toNat : Int) := hb
    rw [hb']
    refine put_of h' (by omega) (by simp; omega) fun w3 h3 m3 _ => ?_
    rw [wrap_succ (by omega)]
    refine ⟨⟨k + 1, rfl, by omega, Mod.trans hm2 m3 fun b _ hb => OwnS.blk_le h' hb, hown2.mod m3 fun ad ha hS => h.dis xs[j] (by simp) _ ⟨ad, ha, rfl⟩ hS, fun i hi => ?_⟩, by omega⟩
    by_cases hij : i = j
    · subst hij
      exact ⟨_, h3⟩
    · obtain ⟨l2, h2⟩ := hall2 i hi
      exact ⟨l2, h2.mod m3 fun ad ha hS => hap i j hi hjl hij _ ⟨ad, ha, rfl⟩ hS⟩
  · rw [wrap_succ (by omega)]
    exact ⟨⟨j + 1, rfl, hjl, hm2, hown2, hall2⟩, by omega⟩

theorem pieceV_small (blk : Int) (o n : List UInt8) (hn : n.length ≤ 1000000) (k : Nat) : ∀ v ∈ pieceV blk o n k, v.2.2.2.2.length ≤ 1000000 := by
  intro v hv
  unfold pieceV at hv
  split at hv
  · rw [List.mem_singleton] at hv
    subst hv
    simp
    omega
  · cases hv

theorem cutV_small (blk : Int) (o n : List UInt8) (hn : n.length ≤ 1000000) : ∀ v ∈ cutV blk o n, v.2.2.2.2.length ≤ 1000000 := by
  intro v hv
  simp only [cutV, List.mem_flatMap] at hv
  obtain ⟨k, _, hv⟩ := hv
  exact pieceV_small blk o n hn k v hv

theorem law4 (blk : Int) (p1 p2 : Sl) (o n : List UInt8) (w : World) (h1 : BS w p1 o) (h2 : BS w p2 n) (hle : p2.len ≤ p2.cap) :
    Calls Try.prog 4 #[.int .i64 blk, .slice p1.a p1.len p1.cap, .slice p2.a p2.len p2.cap] w (RetT [.c .bool] fun r w' => r = true ∧ Grow w w') := by
  refine F4_calls blk p1 p2 _ _ ?_
  unfold F4
  have hl1 := h1.len
  have hl2 := h2.len
  refine jn_of (fun b w' => (b = false → n.length ≤ 5000) ∧ Grow w w') ?_ ?_
  · refine callF_of (C13 w) ?_
    rintro _ w1 ⟨rfl, g1⟩
    refine br_f rfl (br_of (fun _ => ⟨fun h => (by cases h), g1⟩) (fun _ => ⟨fun h => ?_, g1⟩))
    simp only [gt_iff_lt, decide_eq_false_iff_not] at h
    omega
  rintro b w1 ⟨hb, g1⟩
  refine br_of (fun _ => ?_) (fun hb0 => ?_)
  · refine callF_of (C13 w1) ?_
    rintro _ w2 ⟨rfl, g2⟩
    exact ⟨rfl, Grow.trans g1 g2⟩
  have hn := hb hb0
  refine callF_of (C15 p2 n w1 (h2.grow g1) (by omega)) ?_
  rintro was w2 ⟨hwas, _, g2⟩
  have hg2 := Grow.trans g1 g2
  refine callF_of (C19 blk p1 p2 o n w2 (h1.grow hg2) (h2.grow hg2) hle) ?_
  rintro ⟨l, e⟩ w3 ⟨he, ⟨xs, hx, hv⟩, g3⟩
  have hg3 := Grow.trans hg2 g3
  refine callF_of (C20 blk p1 p2 o n w3 (h1.grow hg3) (h2.grow hg3) hle) ?_
  rintro ⟨l', f⟩ w4 ⟨hf, ⟨ys, hy, hv'⟩, g4⟩
  dsimp only at he hx hf hy ⊢
  have hg4 := Grow.trans hg3 g4
  have hx4 := hx.grow g4
  have hxl : xs.length ≤ 6 := by
    have := congrArg List.length hv
    rw [List.length_map] at this
    rw [this]
    split
    · exact pieces_len blk o n 6
    · simp
  refine jn_of (fun b w' => b = false ∧ Grow w4 w') ?_ ?_
  · refine callF_of (C21 l l' xs ys w4 hx4.rl hy.rl (by rw [hx4.len]; omega)) ?_
    rintro r w5 ⟨hr, g5⟩
    rw [hv, hv', decide_eq_true rfl] at hr
    subst hr
    refine br_f rfl ⟨?_, g5⟩
    rw [he, hf]
    simp
  rintro _ w5 ⟨rfl, g5⟩
  refine br_f rfl ?_
  have hx5 := hx4.grow g5
  have hg5 := Grow.trans hg4 g5
  refine xors hx5 (by omega) (fun x hx => ?_) fun w6 m6 => ?_
  · have h3 : rv x ∈ xs.map rv := List.mem_map.2 ⟨x, hx, rfl⟩
    rw [hv] at h3
    split at h3
    · exact cutV_small blk o n (by omega) _ h3
    · cases h3
  have hsz2 := hg2.size
  have hwas6 : BS w6 was n := ((hwas.grow (Grow.trans g3 (Grow.trans g4 g5))).mod m6 fun ad ha hS => by
    have := OwnS.blk_lt hwas ⟨ad, ha, rfl⟩
    exact absurd hS (by omega)).bs
  have hg6 : Grow w w6 := Mod.trans hg5 m6 fun b hb hS => by omega
  refine callF_of (C18 p2 was n n w6 (h2.grow hg6) hwas6) ?_
  rintro r w7 ⟨hr, hw⟩
  subst hw
  exact ⟨hr.trans (beq_self_eq_true n), hg6⟩
end Go.Proofs

/-! Layer 8, plain: what Cut's patches make of a page. -/
namespace Go.Proofs
open Go.Eng

theorem fstD_spec {o n : List UInt8} {lo hi : Nat} : (fstD o n lo hi = none ∧ ∀ j, lo ≤ j → j < hi → o[j]? = n[j]?) ∨
    ∃ f, fstD o n lo hi = some f ∧ lo ≤ f ∧ f < hi ∧ o[f]? ≠ n[f]? ∧ ∀ j, lo ≤ j → j < f → o[j]? = n[j]? := by
  cases h : fstD o n lo hi with
  | none =>
    refine .inl ⟨rfl, fun j h1 h2 => ?_⟩
    unfold fstD at h
    rw [List.find?_eq_none] at h
    simpa using h j (by rw [List.mem_range'_1]; omega)
  | some f =>
    refine .inr ⟨f, rfl, ?_⟩
    unfold fstD at h
    rw [List.find?_range'_eq_some] at h
    obtain ⟨h1, h2, h3⟩ := h
    rw [List.mem_range'_1] at h2
    refine ⟨by omega, by omega, by simpa using h1, fun j h4 h5 => ?_⟩
    simpa using h3 j h4 h5

theorem lstD_spec {o n : List UInt8} {lo hi : Nat} : (lstD o n lo hi = none ∧ ∀ j, lo ≤ j → j < hi → o[j]? = n[j]?) ∨
    ∃ l, lstD o n lo hi = some l ∧ lo ≤ l ∧ l < hi ∧ o[l]? ≠ n[l]? ∧ ∀ j, l < j → j < hi → o[j]? = n[j]? := by
  unfold lstD
  cases h : (List.range' 0 (hi - lo)).find? fun t => o[hi - 1 - t]? != n[hi - 1 - t]? with
  | none =>
    refine .inl ⟨rfl, fun j h1 h2 => ?_⟩
    rw [List.find?_eq_none] at h
    have := h (hi - 1 - j) (by rw [List.mem_range'_1]; omega)
    rw [show hi - 1 - (hi - 1 - j) = j by omega] at this
    simpa using this
  | some t =>
    refine .inr ⟨hi - 1 - t, rfl, ?_⟩
    rw [List.find?_range'_eq_some] at h
    obtain ⟨h1, h2, h3⟩ := h
    rw [List.mem_range'_1] at h2
    refine ⟨by omega, by omega, by simpa using h1, fun j h4 h5 => ?_⟩
    have := h3 (hi - 1 - j) (by omega) (by omega)
    rw [show hi - 1 - (hi - 1 - j) = j by omega] at this
    simpa using this

theorem piece_spec (blk : Int) (o n : List UInt8) (k : Nat) : (pieceV blk o n k = [] ∧ ∀ j, 44 * k ≤ j → j < hiK k → o[j]? = n[j]?) ∨
    ∃ f l : Nat, pieceV blk o n k = [(1, blk, (f : Int), 0, (n.take (l + 1)).drop f)] ∧ 44 * k ≤ f ∧ f ≤ l ∧ l < hiK k ∧ o[f]? ≠ n[f]? ∧ (∀ j, 44 * k ≤ j → j < f → o[j]? = n[j]?) ∧ ∀ j, l < j → j < hiK k → o[j]? = n[j]? := by
  unfold pieceV
  rcases fstD_spec (o := o) (n := n) (lo := 44 * k) (hi := hiK k) with ⟨h1, h2⟩ | ⟨f, h1, h2, h3, h4, h5⟩
  · rw [h1]
    exact .inl ⟨rfl, h2⟩
  · rcases lstD_spec (o := o) (n := n) (lo := 44 * k) (hi := hiK k) with ⟨g1, g2⟩ | ⟨l, g1, g2, g3, g4, g5⟩
    · exact absurd (g2 f h2 h3) h4
    · rw [h1, g1]
      refine .inr ⟨f, l, rfl, h2, ?_, g3, h4, h5, g5⟩
      rcases Nat.lt_or_ge l f with h' | h'
      · exact absurd (g5 f h' h3) h4
      · exact h'

theorem lay_get {p d : List UInt8} {o i : Nat} (h : o + d.length ≤ p.length) : (lay p o d)[i]? = if o ≤ i ∧ i < o + d.length then d[i - o]? else p[i]? := by
  unfold lay
  rw [List.append_assoc, List.getElem?_append]
  have hl : (p.take o).length = o := by simp; omega
  rw [hl]
  split
  · rename_i h1
    rw [if_neg (by omega), List.getElem?_take, if_pos h1]
  · rw [List.getElem?_append]
    split
    · rw [if_pos (by omega)]
    · rw [if_neg (by omega), List.getElem?_drop]
      congr 1; omega

theorem redoV_append (blk : Int) (p : List UInt8) (a b : List Rv) : redoV blk p (a ++ b) = redoV blk (redoV blk p a) b := by simp [redoV, List.foldl_append]

theorem redo_pieces (blk : Int) {o n t : List UInt8} (ho : o.length = 256) (hn : n.length = 256) (ht : t.length = 256) (h : ∀ i : Nat, t[i]? = o[i]? ∨ t[i]? = n[i]?) : ∀ j, j ≤ 6 →
    (redoV blk t ((List.range j).flatMap (pieceV blk o n))).length = 256 ∧ ∀ i : Nat, (redoV blk t ((List.range j).flatMap (pieceV blk o n)))[i]? = if i < 44 * j then n[i]? else t[i]?
  | 0, _ => by
    refine ⟨by simpa [redoV] using ht, fun i => ?_⟩
    rw [if_neg (by omega)]
    simp [redoV]
  | j + 1, hj => by
    obtain ⟨h1, h2⟩ := redo_pieces blk ho hn ht h j (by omega)
    rw [range_succ', redoV_append]
    generalize redoV blk t ((List.range j).flatMap (pieceV blk o n)) = p at h1 h2
    have hhi : hiK j ≤ 256 ∧ 44 * j < hiK j ∧ hiK j ≤ 44 * (j + 1) ∧ (hiK j = 256 ∨ hiK j = 44 * (j + 1)) := by unfold hiK; omega
    have hout : ∀ i, 256 ≤ i → n[i]? = none ∧ t[i]? = none := fun i hi => ⟨List.getElem?_eq_none (by omega), List.getElem?_eq_none (by omega)⟩
    have hsame : ∀ i, o[i]? = n[i]? → t[i]? = n[i]? := fun i hi => by
      rcases h i with h' | h'
      · rw [h', hi]
      · exact h'
    rcases piece_spec blk o n j with ⟨g1, g2⟩ | ⟨f, l, g1, g2, g3, g4, g5, g6, g7⟩
    · rw [g1]
      refine ⟨h1, fun i => ?_⟩
      show p[i]? = _
      rw [h2 i]
      by_cases ha : i < 44 * j
      · rw [if_pos ha, if_pos (by omega)]
      · rw [if_neg ha]
        by_cases hb : i < 44 * (j + 1)
        · rw [if_pos hb]
          by_cases hc : i < hiK j
          · exact hsame i (g2 i (by omega) hc)
          · rw [(hout i (by omega)).1, (hout i (by omega)).2]
        · rw [if_neg hb]
    · rw [g1]
      have hd : ((n.take (l + 1)).drop f).length = l + 1 - f := by simp; omega
      have hr : redoV blk p [(1, blk, (f : Int), 0, (n.take (l + 1)).drop f)] = lay p f ((n.take (l + 1)).drop f) := by simp [redoV]
      rw [hr]
      refine ⟨by rw [lay_len]; exact h1; omega, fun i => ?_⟩
      rw [lay_get (by omega), hd]
      by_cases hin : f ≤ i ∧ i < f + (l + 1 - f)
      · rw [if_pos hin, if_pos (by omega), List.getElem?_drop, List.getElem?_take, if_pos (by omega)]
        congr 1; omega
      · rw [if_neg hin, h2 i]
        by_cases ha : i < 44 * j
        · rw [if_pos ha, if_pos (by omega)]
        · rw [if_neg ha]
          by_cases hb : i < 44 * (j + 1)
          · rw [if_pos hb]
            by_cases hc : i < hiK j
            · refine hsame i ?_
              by_cases hd2 : i < f
              · exact g6 i (by omega) hd2
              · exact g7 i (by omega) hc
            · rw [(hout i (by omega)).1, (hout i (by omega)).2]
          · rw [if_neg hb]

theorem redo_cut (blk : Int) {o n t : List UInt8} (ho : o.length = 256) (hn : n.length = 256) (ht : t.length = 256) (h : ∀ i : Nat, t[i]? = o[i]? ∨ t[i]? = n[i]?) : redoV blk t (cutV blk o n) = n := by
  obtain ⟨h1, h2⟩ := redo_pieces blk ho hn ht h 6 (by omega)
  refine List.ext_getElem? fun i => ?_
  unfold cutV
  rw [h2 i]
  by_cases hi : i < 264
  · rw [if_pos hi]
  · rw [if_neg hi, List.getElem?_eq_none (by omega), List.getElem?_eq_none (by omega)]

theorem cut_ok {blk : Int} {o n : List UInt8} (hn : n.length = 256) (hb : 0 ≤ blk ∧ blk < 2048) : ∀ v ∈ cutV blk o n, okV v = true ∧ v.1 = 1 ∧ v.2.1 = blk := by
  intro v hv
  simp only [cutV, List.mem_flatMap, List.mem_range] at hv
  obtain ⟨k, hk, hv⟩ := hv
  have hhi : hiK k ≤ 256 ∧ hiK k ≤ 44 * k + 44 := by unfold hiK; omega
  rcases piece_spec blk o n k with ⟨g1, g2⟩ | ⟨f, l, g1, g2, g3, g4, g5, g6, g7⟩
  · rw [g1] at hv; cases hv
  · rw [g1, List.mem_singleton] at hv
    subst hv
    refine ⟨?_, rfl, rfl⟩
    have hd : ((n.take (l + 1)).drop f).length = l + 1 - f := by simp; omega
    have : okV (1, blk, (f : Int), 0, (n.take (l + 1)).drop f) = (patchB blk f 0 (l + 1 - f) || false) := by
      unfold okV checkB
      simp only [hd]
      rfl
    rw [this, Bool.or_false]
    unfold patchB
    rw [decide_eq_true_eq]
    omega

theorem cut_nil {blk : Int} {o n : List UInt8} (ho : o.length = 256) (hn : n.length = 256) : cutV blk o n = [] ↔ o = n := by
  constructor
  · intro h
    have := redo_cut blk ho hn ho fun i => .inl rfl
    rw [h] at this
    exact this
  · rintro rfl
    unfold cutV
    rw [List.flatMap_eq_nil_iff]
    intro k _
    rcases piece_spec blk o o k with ⟨g1, _⟩ | ⟨f, l, g1, g2, g3, g4, g5, _⟩
    · exact g1
    · exact absurd rfl g5
end Go.Proofs

/-! Layer 8, the laws' walks: ReplayBack. -/
namespace Go.Proofs
open Go.Eng

theorem C22 (blk : Int) (p1 p2 : Sl) (w : World) : Calls Try.prog 22 #[.int .i64 blk, .slice p1.a p1.len p1.cap, .slice p2.a p2.len p2.cap] w
    (RetT [.c .bool] fun r w' => r = decide (0 ≤ blk ∧ blk < 2048 ∧ p1.len = 256 ∧ p2.len = 256) ∧ w = w') := by
  refine F22_calls blk p1 p2 _ _ ?_
  unfold F22
  simp only [br_def]
  repeat' split
  all_goals first | (simp_all; done) | (simp_all; omega) | (simp_all; rw [Bool.eq_iff_iff, beq_iff_eq, Bool.and_eq_true, decide_eq_true_eq, decide_eq_true_eq]; omega)

theorem ext_idx {a b : List UInt8} (h : ∀ i : Nat, a[i]? = b[i]?) : a = b := List.ext_getElem? h

theorem law5 (blk : Int) (p1 p2 p3 : Sl) (o n m : List UInt8) (w : World) (h1 : BS w p1 o) (h2 : BS w p2 n) (h3 : BS w p3 m) (hle : p2.len ≤ p2.cap) :
    Calls Try.prog 5 #[.int .i64 blk, .slice p1.a p1.len p1.cap, .slice p2.a p2.len p2.cap, .slice p3.a p3.len p3.cap] w (RetT [.c .bool] fun r w' => r = true ∧ Grow w w') := by
  refine F5_calls blk p1 p2 p3 _ _ ?_
  unfold F5
  have hl1 := h1.len
  have hl2 := h2.len
  have hl3 := h3.len
  refine jn_of (fun b w' => (b = false → 0 ≤ blk ∧ blk < 2048 ∧ p1.len = 256 ∧ p2.len = 256) ∧ Grow w w') ?_ ?_
  · refine callF_of (C13 w) ?_
    rintro _ w1 ⟨rfl, g1⟩
    refine br_f rfl (callF_of (C22 blk p1 p2 w1) ?_)
    rintro r _ ⟨hr, rfl⟩
    refine ⟨fun h => ?_, g1⟩
    rw [hr] at h
    simpa using h
  rintro b w1 ⟨hb, g1⟩
  refine br_of (fun _ => ?_) (fun hb0 => ?_)
  · refine callF_of (C13 w1) ?_
    rintro _ w2 ⟨rfl, g2⟩
    exact ⟨rfl, Grow.trans g1 g2⟩
  obtain ⟨hb1, hb2, ho0, hn0⟩ := hb hb0
  have ho : o.length = 256 := by omega
  have hn : n.length = 256 := by omega
  have hE : cutE blk o n = 0 := by unfold cutE; rw [if_pos ⟨hb1, hb2, ho, hn⟩]
  refine callF_of (C19 blk p1 p2 o n w1 (h1.grow g1) (h2.grow g1) hle) ?_
  rintro ⟨l, e⟩ w2 ⟨he, ⟨xs, hx, hv⟩, g2⟩
  dsimp only at he hx ⊢
  rw [hE] at he
  rw [hE, if_pos rfl] at hv
  subst he
  have hg2 := Grow.trans g1 g2
  have hxl : xs.length ≤ 6 := by
    have := congrArg List.length hv
    rw [List.length_map] at this
    rw [this]
    exact pieces_len blk o n 6
  have hll := hx.len
  have hcell : ∀ x ∈ xs, okV (rv x) = true ∧ x.1.k = 1 ∧ x.1.b = blk := fun x hx' => by
    have : rv x ∈ xs.map rv := List.mem_map.2 ⟨x, hx', rfl⟩
    rw [hv] at this
    exact cut_ok hn ⟨hb1, hb2⟩ _ this
  refine jn_of (fun b w' => b = false ∧ w2 = w') ?_ ?_
  · refine br_f rfl (br_f ?_ ?_)
    · simp only [gt_iff_lt, decide_eq_false_iff_not]; omega
    · refine callF_of (C18 p1 p2 o n w2 (h1.grow hg2) (h2.grow hg2)) ?_
      rintro r w' ⟨hr, hw⟩
      subst hw
      refine ⟨trivial, ?_, rfl⟩
      rw [hr]
      by_cases hon : o = n
      · have h0 : xs = [] := by
          rw [(cut_nil ho hn).2 hon] at hv
          simpa using hv
        subst h0
        have : l.len = 0 := by simpa using hll
        rw [this, hon]
        simp
      · have h0 : xs ≠ [] := by
          rintro rfl
          exact hon ((cut_nil ho hn).1 hv.symm)
        have h5 : 0 < xs.length := List.length_pos_iff.2 h0
        have h6 : ((l.len : Int) == 0) = false := by rw [beq_eq_false_iff_ne]; omega
        have h7 : (o == n) = false := by rw [beq_eq_false_iff_ne]; exact hon
        rw [h6, h7]
        rfl
  rintro _ _ ⟨rfl, rfl⟩
  refine br_f rfl ?_
  -- every patch is one
  refine loop_of (fun i w' => ∃ j : Nat, i = j ∧ j ≤ xs.length ∧ Grow w2 w') (fun i _ => xs.length - i.toNat) ⟨0, rfl, by omega, Mod.refl _ _⟩ ?_
  rintro _ w3 ⟨j, rfl, hj, g3⟩
  have hg3 := Grow.trans hg2 g3
  have hx3 := hx.grow g3
  refine br_of (fun hlt => ?_) (fun _ => ?_)
  · simp only [decide_eq_true_eq] at hlt
    have hjl : j < xs.length := by omega
    have hc := hcell xs[j] (by simp)
    refine rec_of hx3.rl hjl ?_
    refine nw_of fun r w4 g4 e4 s4 bx => ?_
    simp only [deref_some']
    have hgst : ∀ {w5 w6 : World}, Grow w3 w5 → Mod (· = r) w5 w6 → Grow w3 w6 := fun h4 h5 => Mod.trans h4 h5 fun c hc1 hc2 => by omega
    refine bx.st (by simp) trivial fun w5 k5 m5 s5 => ?_
    refine k5.st (by simp) trivial fun w6 k6 m6 s6 => ?_
    refine k6.st (by simp) trivial fun w7 k7 m7 s7 => ?_
    refine k7.st (by simp) trivial fun w8 k8 m8 s8 => ?_
    refine k8.st (by simp) trivial fun w9 k9 m9 s9 => ?_
    have g9 : Grow w3 w9 := hgst (hgst (hgst (hgst (hgst g4 m5) m6) m7) m8) m9
    have hbox : Box w9 r xs[j].1.cells := k9
    refine jn_of (fun b w' => b = false ∧ Grow w3 w') ?_ ?_
    · refine Box.ldA (l := lR) (p := xs[j].1.p) hbox ?_
      refine callF_of (C23 _ _ _ _ _ _) ?_
      rintro c w10 ⟨rfl, g10⟩
      have hok : checkB xs[j].1.p.1 xs[j].1.p.2.1 xs[j].1.p.2.2.1 xs[j].1.p.2.2.2.2 xs[j].1.p.2.2.2.1.len = true := by
        have := okV_rv (hx3.rl.2 xs[j] (by simp))
        rw [hc.1] at this
        exact this.symm
      rw [hok]
      have hbox10 := hbox.grow g10
      refine br_f rfl ?_
      refine hbox10.ld (i := 0) (s := .int .i64) (p := xs[j].1.k) rfl ?_
      rw [hc.2.1]
      refine br_f rfl ?_
      refine hbox10.ld (i := 1) (s := .int .i64) (p := xs[j].1.b) rfl ?_
      rw [hc.2.2]
      exact ⟨by simp, Grow.trans g9 g10⟩
    rintro _ w10 ⟨rfl, g10⟩
    refine br_f rfl ?_
    rw [wrap_succ (by omega)]
    exact ⟨⟨j + 1, rfl, hjl, Grow.trans g3 g10⟩, by omega⟩
  -- the torn page
  refine callF_of (C15 p1 o w3 (h1.grow hg3) (by omega)) ?_
  rintro t w4 ⟨ht, _, g4⟩
  have hg4 := Grow.trans hg3 g4
  have htl : t.len = 256 := by have := ht.bs.len; omega
  refine loop_of (fun i w' => ∃ j : Nat, i = j ∧ j ≤ 256 ∧ Mod t.blk w4 w' ∧ ∃ q, OwnS w' w3.heap.size 1 t (List.map ub q) ∧ q.length = 256 ∧ ∀ i : Nat, q[i]? = o[i]? ∨ q[i]? = n[i]?) (fun i _ => 256 - i.toNat)
    ⟨0, rfl, by omega, Mod.refl _ _, o, ht, ho, fun i => .inl rfl⟩ ?_
  rintro _ w5 ⟨j, rfl, hj, m5, q, hq, hql, hqs⟩
  have hsz3 := hg3.size
  have hg5 : Grow w w5 := Mod.trans hg4 m5 fun b hb hb2 => absurd (OwnS.blk_le ht hb2) (by omega)
  refine br_of (fun hlt => ?_) (fun _ => ?_)
  · simp only [decide_eq_true_eq] at hlt
    have hj2 : j < 256 := by omega
    refine jn_of (fun _ w' => Mod t.blk w5 w' ∧ ∃ q, OwnS w' w3.heap.size 1 t (List.map ub q) ∧ q.length = 256 ∧ ∀ i : Nat, q[i]? = o[i]? ∨ q[i]? = n[i]?) ?_ ?_
    rotate_left
    · rintro ⟨⟩ w6 ⟨m6, h6⟩
      rw [wrap_succ (by omega)]
      exact ⟨⟨j + 1, rfl, hj2, Mod.trans m5 m6 fun _ _ h => h, h6⟩, by omega⟩
    refine jn_of (fun _ w' => w5 = w') ?_ ?_
    · have hdiv : IntKind.wrap .i64 ((j : Int).tdiv 8) = ((j / 8 : Nat) : Int) := by
        rw [show ((j : Int).tdiv 8) = ((j / 8 : Nat) : Int) from rfl, wrap_i64 (by omega)]
      rw [hdiv]
      refine ⟨by decide, br_of (fun h => ?_) (fun _ => rfl)⟩
      simp only [decide_eq_true_eq] at h
      refine ⟨by decide, ?_⟩
      refine at_of (b := m[j / 8]) (h3.grow hg5) (by omega) (by rw [Int.toNat_natCast]; exact List.getElem?_eq_getElem _) ?_
      exact ⟨by decide, Int.tmod_nonneg _ (by omega), rfl⟩
    rintro c _ rfl
    refine br_of (fun _ => ?_) (fun _ => ⟨Mod.refl _ _, q, hq, hql, hqs⟩)
    refine at_of (b := n[j]) (h2.grow hg5) (by omega) (by simp) ?_
    refine put_of hq (by omega) (by simp; omega) fun w6 h6 m6 _ => ?_
    refine ⟨m6, _, h6, by simpa using hql, fun i => ?_⟩
    rw [List.getElem?_set]
    split
    · rename_i hij
      have : i = j := by omega
      subst this
      rw [if_pos (by simp; omega)]
      right
      simp
    · exact hqs i
  -- redone
  have hx5 : OwnRs w5 w1.heap.size l xs := (hx3.grow g4).mod m5 (fun b hb1 hb2 => by
      have h4 := OwnS.blk_le ht hb1
      have h5 := OwnS.blk_lt hx3.own hb2
      omega) (fun x hx' b hb1 hb2 => by
      have h4 := OwnS.blk_le ht hb1
      have h5 := OwnS.blk_lt (hx3.dat x hx') hb2
      omega)
  have hrE : ∀ p : List UInt8, p.length = 256 → redoE p xs = 0 := fun p hp => by
    rw [redoE_rv hx5.rl]
    unfold redoEV
    rw [if_neg (by omega), if_neg]
    rw [List.any_eq_true]
    rintro ⟨v, hv1, hv2⟩
    obtain ⟨x, hx', rfl⟩ := List.mem_map.1 hv1
    rw [(hcell x hx').1] at hv2
    cases hv2
  refine callF_of (C16 p1 l blk o xs w5 (h1.grow hg5) hx5.rl (by omega)) ?_
  rintro ⟨x1, f1⟩ w6 ⟨hf1, hx1, g6⟩
  dsimp only at hf1 hx1 ⊢
  rw [hrE o ho] at hf1
  rw [hrE o ho, if_pos rfl, redoF_rv, hv, redo_cut blk ho hn ho fun i => .inl rfl] at hx1
  have hx6 := hx5.grow g6
  refine callF_of (C16 t l blk q xs w6 (hq.grow g6).bs hx6.rl (by omega)) ?_
  rintro ⟨x2, f2⟩ w7 ⟨hf2, hx2, g7⟩
  dsimp only at hf2 hx2 ⊢
  rw [hrE q hql] at hf2
  rw [hrE q hql, if_pos rfl, redoF_rv, hv, redo_cut blk ho hn hql hqs] at hx2
  subst hf1 hf2
  refine br_t rfl (br_t rfl ?_)
  have hg7 := Grow.trans hg5 (Grow.trans g6 g7)
  refine callF_of (C18 x1 p2 n n w7 (hx1.grow g7).bs (h2.grow hg7)) ?_
  rintro r w8 ⟨hr, hw⟩
  have hr' : r = true := hr.trans (beq_self_eq_true n)
  clear hr
  subst hr' hw
  refine br_t rfl ?_
  refine callF_of (C18 x2 p2 n n _ hx2.bs (h2.grow hg7)) ?_
  rintro r w9 ⟨hr, hw⟩
  subst hw
  exact ⟨hr.trans (beq_self_eq_true n), hg7⟩
end Go.Proofs

/-! Layer 8, the laws' walks: ReplayRedoes. -/
namespace Go.Proofs
open Go.Eng

theorem rcs_len (xs : List Rc) : (rcs xs).length = xs.length * 5 := by rw [rcs_map, flatMap_len Rw.cells_len]; simp

theorem RL.take {w : World} {s : Sl} {xs : List Rc} (h : RL w s xs) {e : Nat} (he : e ≤ s.len) (c : Nat) : RL w ⟨s.a, e, c⟩ (xs.take e) := by
  have hl := h.len
  refine ⟨⟨by simp; omega, ?_⟩, fun x hx => h.2 x (List.mem_of_mem_take hx)⟩
  have hrow := h.1.row
  rw [← rcs_map] at hrow ⊢
  have : rcs (xs.take e) = (rcs xs).take (e * 5) := by
    have h1 := congrArg (fun l => (rcs l).take (e * 5)) (List.take_append_drop e xs)
    rw [rcs_append, List.take_left' (by rw [rcs_len, List.length_take]; congr 1; omega)] at h1
    exact h1
  rw [this]
  show readsO w s.a _
  cases ha : s.a with
  | none =>
    rw [ha] at hrow
    have h0 : rcs xs = [] := hrow
    rw [h0]
    simp [readsO]
  | some ad =>
    rw [ha] at hrow
    exact readsAt_row.2 ((readsAt_row.1 hrow).take _)

theorem slc_rl {w : World} {s : Sl} {xs : List Rc} {e : Int} {k : Sl → Pr} (h : RL w s xs) (hle : s.len ≤ s.cap) (h0 : 0 ≤ e) (h1 : e ≤ (s.len : Int)) (hk : RL w ⟨s.a, e.toNat, s.cap⟩ (xs.take e.toNat) → k ⟨s.a, e.toNat, s.cap⟩ w) : slc 5 s none (some e) none k w := by
  refine slc_hi h0 (by omega) ?_
  have : (if s.cap = 0 then s.a else s.a.map (·.add 0)) = s.a := by rw [map_add_zero, ite_self]
  rw [this]
  exact hk (h.take (by omega) _)

theorem C14 (s : Sl) (xs : List Rc) (w : World) (h : RL w s xs) (hle : s.len ≤ s.cap) : Calls Try.prog 14 #[.slice s.a s.len s.cap] w (RetT [.c .bool] fun r w' => (r = true → s.len ≤ 400) ∧ Grow w w') := by
  refine F14_calls s _ _ ?_
  unfold F14
  have himin : imin (s.len : Int) 500 ≤ s.len ∧ 0 ≤ imin (s.len : Int) 500 ∧ imin (s.len : Int) 500 ≤ 500 := by unfold imin; split <;> omega
  refine slc_rl h hle himin.2.1 himin.1 fun h' => ?_
  generalize hm : (imin (s.len : Int) 500).toNat = m at h' ⊢
  have hl := h'.len
  refine loop_of (fun t w' => ∃ j : Nat, t.2 = j ∧ j ≤ m ∧ Grow w w') (fun t _ => m - t.2.toNat) ⟨0, rfl, by omega, Mod.refl _ _⟩ ?_
  rintro ⟨n, _⟩ w1 ⟨j, rfl, hj, hg⟩
  dsimp only
  have hl' : (⟨s.a, m, s.cap⟩ : Sl).len = m := rfl
  refine br_of (fun hlt => ?_) (fun _ => ?_)
  · simp only [decide_eq_true_eq] at hlt
    have hjl : j < (xs.take m).length := by omega
    refine rec_of (⟨h'.1.grow hg, fun x hx => (h'.2 x hx).grow hg⟩ : RL _ ⟨s.a, m, s.cap⟩ (xs.take m)) hjl ?_
    refine nw_of fun r w2 g2 e2 s2 bx => ?_
    simp only [deref_some']
    have hgst : ∀ {w4 w5 : World}, Grow w1 w4 → Mod (· = r) w4 w5 → Grow w1 w5 := fun h4 h5 => Mod.trans h4 h5 fun c hc1 hc2 => by omega
    refine bx.st (by simp) trivial fun w3 k3 m3 s3 => ?_
    refine k3.st (by simp) trivial fun w4 k4 m4 s4 => ?_
    refine k4.st (by simp) trivial fun w5 k5 m5 s5 => ?_
    refine k5.st (by simp) trivial fun w6 k6 m6 s6 => ?_
    refine k6.st (by simp) trivial fun w7 k7 m7 s7 => ?_
    have g7 : Grow w1 w7 := hgst (hgst (hgst (hgst (hgst g2 m3) m4) m5) m6) m7
    refine k7.ld (i := 3) (s := .slice) (p := (xs.take m)[j].1.s) rfl ?_
    rw [wrap_succ (by omega)]
    refine ⟨⟨j + 1, rfl, by omega, Grow.trans hg g7⟩, ?_⟩
    omega
  · refine br_of (fun h4 => ⟨fun _ => ?_, hg⟩) (fun _ => ⟨fun h => (by cases h), hg⟩)
    simp only [decide_eq_true_eq] at h4
    omega

theorem lay_succ {p d : List UInt8} {o k : Nat} (h : o + d.length ≤ p.length) (hk : k < d.length) : (lay p o (d.take k)).set (o + k) d[k] = lay p o (d.take (k + 1)) := by
  refine List.ext_getElem? fun i => ?_
  have h1 : (d.take k).length = k := by simp; omega
  have h2 : (d.take (k + 1)).length = k + 1 := by simp; omega
  have hl : (lay p o (d.take k)).length = p.length := lay_len (by omega)
  rw [List.getElem?_set, lay_get (by omega), lay_get (by omega), h1, h2, hl]
  by_cases ha : o + k = i
  · subst ha
    rw [if_pos rfl, if_pos (by omega), if_pos (by omega), List.getElem?_take, if_pos (by omega)]
    rw [show o + k - o = k by omega]
    simp
  · rw [if_neg ha]
    by_cases hb : o ≤ i ∧ i < o + k
    · rw [if_pos hb, if_pos (by omega), List.getElem?_take, if_pos (by omega), List.getElem?_take, if_pos (by omega)]
    · rw [if_neg hb, if_neg (by omega)]

theorem C17 (pg s : Sl) (blk : Int) (l : List UInt8) (xs : List Rc) (w : World) (hp : BS w pg l) (hs : RL w s xs) (hl : s.len ≤ 1000000) :
    Calls Try.prog 17 #[.slice pg.a pg.len pg.cap, .int .i64 blk, .slice s.a s.len s.cap] w (RetT [.c .slice, .c (.int .i64)] fun r w' =>
      r.2 = redoE l xs ∧ OwnS w' w.heap.size 1 r.1 ((if redoE l xs = 0 then redoF blk l xs else []).map ub) ∧ Grow w w') := by
  refine F17_calls pg blk s _ _ ?_
  unfold F17
  refine br_of (fun h1 => ?_) (fun h1 => ?_)
  · have hne : redoE l xs = 1 := by
      unfold redoE
      rw [if_pos]
      have := hp.len
      simp at h1
      omega
    rw [hne]
    exact ⟨rfl, OwnS.nil _ _ _, Mod.refl _ _⟩
  have hl256 : l.length = 256 := by
    have := hp.len
    simp at h1
    omega
  have hsl := hs.len
  refine loop_of (fun i w' => ∃ j : Nat, i = j ∧ j ≤ xs.length ∧ Grow w w' ∧ ∀ k (h : k < xs.length), k < j → xs[k].1.ok = true) (fun i _ => xs.length - i.toNat)
    ⟨0, rfl, by omega, Mod.refl _ _, fun k _ hk => by omega⟩ ?_
  rintro _ w1 ⟨j, rfl, hj, hg1, hall⟩
  refine br_of (fun hlt => ?_) (fun hge => ?_)
  · simp only [decide_eq_true_eq] at hlt
    have hjl : j < xs.length := by omega
    refine rec_of (⟨hs.1.grow hg1, fun x hx => (hs.2 x hx).grow hg1⟩ : RL _ s xs) hjl ?_
    refine callF_of (C23 _ _ _ _ _ _) ?_
    rintro c w2 ⟨rfl, g2⟩
    have hg2 := Grow.trans hg1 g2
    have hok : checkB xs[j].1.p.1 xs[j].1.p.2.1 xs[j].1.p.2.2.1 xs[j].1.p.2.2.2.2 xs[j].1.p.2.2.2.1.len = xs[j].1.ok := rfl
    rw [hok]
    cases hh : xs[j].1.ok with
    | false =>
      refine br_t rfl ?_
      have hne : redoE l xs = 60 := by
        unfold redoE
        rw [if_neg (by simp [hl256]), if_pos]
        rw [List.any_eq_true]
        exact ⟨xs[j], by simp, by simp [hh]⟩
      rw [hne]
      exact ⟨rfl, OwnS.nil _ _ _, hg2⟩
    | true =>
      refine br_f rfl ?_
      rw [wrap_succ (by omega)]
      refine ⟨⟨j + 1, rfl, hjl, hg2, fun k hk1 hk2 => ?_⟩, by omega⟩
      rcases Nat.lt_or_ge k j with h' | h'
      · exact hall k hk1 h'
      · have : k = j := by omega
        subst this
        exact hh
  simp only [decide_eq_false_iff_not] at hge
  have hall2 : ∀ x ∈ xs, x.1.ok = true ∧ x.1.s.len = x.2.length := by
    intro x hx
    refine ⟨?_, (hs.2 x hx).len⟩
    obtain ⟨k, hk, rfl⟩ := List.getElem_of_mem hx
    exact hall k hk (by omega)
  have hne : redoE l xs = 0 := by
    unfold redoE
    rw [if_neg (by simp [hl256]), if_neg]
    rw [List.any_eq_true]
    rintro ⟨x, hx, hb⟩
    rw [(hall2 x hx).1] at hb
    cases hb
  rw [hne, if_pos rfl]
  refine clone_app (hp.grow hg1) (by rw [hp.len, hl256]; decide) ?_
  intro t w2 ht hg2
  have hg12 := Grow.trans hg1 hg2
  refine loop_of (fun i w' => ∃ j : Nat, i = j ∧ j ≤ xs.length ∧ Grow w w' ∧ OwnS w' w.heap.size 1 t ((redoF blk l (xs.take j)).map ub)) (fun i _ => xs.length - i.toNat)
    ⟨0, rfl, by omega, hg12, by simpa [redoF] using ht.weaken hg1.size⟩ ?_
  rintro _ w3 ⟨j, rfl, hj, hg3, ho⟩
  refine br_of (fun hlt => ?_) (fun hge => ?_)
  rotate_left
  · simp only [decide_eq_false_iff_not] at hge
    refine ⟨rfl, ?_, hg3⟩
    rwa [List.take_of_length_le (by omega)] at ho
  simp only [decide_eq_true_eq] at hlt
  have hjl : j < xs.length := by omega
  have hxj := hall2 xs[j] (by simp)
  have hb := ok_bounds hxj.1
  have hF : redoF blk l (xs.take (j + 1)) = if xs[j].1.b = blk then lay (redoF blk l (xs.take j)) xs[j].1.o.toNat xs[j].2 else redoF blk l (xs.take j) := by
    rw [take_succ' hjl, redoF_snoc]
  have hlenF : (redoF blk l (xs.take j)).length = 256 := redoF_len hl256 fun x hx => hall2 x (List.mem_of_mem_take hx)
  generalize redoF blk l (xs.take j) = p at hF hlenF ho
  refine loop_of (fun i w' => ∃ k : Nat, i = k ∧ k ≤ xs[j].2.length ∧ Grow w w' ∧ (k = 0 ∨ xs[j].1.b = blk) ∧ OwnS w' w.heap.size 1 t ((lay p xs[j].1.o.toNat (xs[j].2.take k)).map ub)) (fun i _ => xs[j].2.length - i.toNat)
    ⟨0, rfl, by omega, hg3, .inl rfl, by simpa [lay_nil] using ho⟩ ?_
  rintro _ w4 ⟨k, rfl, hk, hg4, hkb, ho4⟩
  have hrl4 : RL w4 s xs := ⟨hs.1.grow hg4, fun x hx => (hs.2 x hx).grow hg4⟩
  refine jn_of (fun b w' => b = decide (k < xs[j].2.length ∧ xs[j].1.b = blk) ∧ w4 = w') ?_ ?_
  · refine fld_of (j := j) (i := 3) (c := .slice) (p := xs[j].1.s) hrl4 hjl rfl ?_
    refine br_of (fun h => ?_) (fun h => ⟨?_, rfl⟩)
    · simp only [decide_eq_true_eq] at h
      refine fld_of (j := j) (i := 1) (c := .int .i64) (p := xs[j].1.b) hrl4 hjl rfl ?_
      refine ⟨?_, rfl⟩
      rw [Bool.eq_iff_iff, beq_iff_eq, decide_eq_true_eq]
      constructor
      · intro h2; exact ⟨by omega, h2⟩
      · rintro ⟨_, h2⟩; exact h2
    · simp only [decide_eq_false_iff_not] at h
      symm
      rw [decide_eq_false_iff_not]
      rintro ⟨h2, _⟩
      omega
  rintro _ _ ⟨rfl, rfl⟩
  refine br_of (fun hin => ?_) (fun hout => ?_)
  · simp only [decide_eq_true_eq] at hin
    have hgd := Mod.drew hg4
    have hrld : RL w4.drew s xs := ⟨hs.1.grow hgd, fun x hx => (hs.2 x hx).grow hgd⟩
    have hod := ho4.grow (Mod.drew (Mod.refl _ w4))
    refine fld_of (j := j) (i := 2) (c := .int .i64) (p := xs[j].1.o) hrld hjl rfl ?_
    refine fld_of (j := j) (i := 3) (c := .slice) (p := xs[j].1.s) hrld hjl rfl ?_
    refine at_of (b := xs[j].2[k]) (hrld.2 xs[j] (by simp)) (by omega) (by simp) ?_
    have hw : IntKind.wrap .i64 (xs[j].1.o + (k : Int)) = ((xs[j].1.o.toNat + k : Nat) : Int) := by rw [wrap_i64 (by omega)]; omega
    have hw' : (show Int from IntKind.wrap .i64 (xs[j].1.o + (k : Int))) = ((xs[j].1.o.toNat + k : Nat) : Int) := hw
    have hll : (lay p xs[j].1.o.toNat (xs[j].2.take k)).length = 256 := by rw [lay_len]; exact hlenF; simp; omega
    refine put_of hod (by rw [hw]; omega) (by rw [hw, hll]; omega) fun w5 h5 m5 _ => ?_
    rw [wrap_succ (by omega)]
    refine ⟨⟨k + 1, rfl, by omega, Mod.trans hgd m5 fun b hb hb2 => absurd (OwnS.blk_le hod hb2) (by omega), .inr hin.2, ?_⟩, by omega⟩
    rw [hw, Int.toNat_natCast, lay_succ (by omega) hin.1] at h5
    exact h5
  · simp only [decide_eq_false_iff_not] at hout
    rw [wrap_succ (by omega)]
    refine ⟨⟨j + 1, rfl, hjl, hg4, ?_⟩, by omega⟩
    rw [hF]
    by_cases hbb : xs[j].1.b = blk
    · rw [if_pos hbb]
      have : k = xs[j].2.length := by
        have : ¬ k < xs[j].2.length := fun h => hout ⟨h, hbb⟩
        omega
      rw [this, List.take_length] at ho4
      exact ho4
    · rw [if_neg hbb]
      have : k = 0 := hkb.resolve_right hbb
      subst this
      simpa [lay_nil] using ho4

theorem law3 (pg s : Sl) (blk : Int) (l : List UInt8) (xs : List Rc) (w : World) (hp : BS w pg l) (hs : RL w s xs) (hle : s.len ≤ s.cap) :
    Calls Try.prog 3 #[.slice pg.a pg.len pg.cap, .int .i64 blk, .slice s.a s.len s.cap] w (RetT [.c .bool] fun r w' => r = true ∧ Grow w w') := by
  refine F3_calls pg blk s _ _ ?_
  unfold F3
  have hpl := hp.len
  refine jn_of (fun b w' => (b = false → s.len ≤ 400 ∧ pg.len ≤ 5000) ∧ Grow w w') ?_ ?_
  · refine callF_of (C13 w) ?_
    rintro _ w1 ⟨rfl, g1⟩
    refine br_f rfl (callF_of (C14 s xs w1 ⟨hs.1.grow g1, fun x hx => (hs.2 x hx).grow g1⟩ hle) ?_)
    rintro r w2 ⟨hr, g2⟩
    refine br_of (fun _ => ⟨fun h => (by cases h), Grow.trans g1 g2⟩) (fun hf => ⟨fun h => ?_, Grow.trans g1 g2⟩)
    simp only [gt_iff_lt, decide_eq_false_iff_not] at h
    exact ⟨hr (by simpa using hf), by omega⟩
  rintro b w1 ⟨hb, g1⟩
  refine br_of (fun _ => ?_) (fun hb0 => ?_)
  · refine callF_of (C13 w1) ?_
    rintro _ w2 ⟨rfl, g2⟩
    exact ⟨rfl, Grow.trans g1 g2⟩
  obtain ⟨hn, hn2⟩ := hb hb0
  refine callF_of (C15 pg l w1 (hp.grow g1) (by omega)) ?_
  rintro was w2 ⟨hwas, _, g2⟩
  have hg2 := Grow.trans g1 g2
  refine callF_of (C16 pg s blk l xs w2 (hp.grow hg2) ⟨hs.1.grow hg2, fun x hx => (hs.2 x hx).grow hg2⟩ (by omega)) ?_
  rintro ⟨x, e⟩ w3 ⟨he, hx, g3⟩
  have hg3 := Grow.trans hg2 g3
  refine callF_of (C17 pg s blk l xs w3 (hp.grow hg3) ⟨hs.1.grow hg3, fun x hx => (hs.2 x hx).grow hg3⟩ (by omega)) ?_
  rintro ⟨y, f⟩ w4 ⟨hf, hy, g4⟩
  dsimp only at he hx hf hy ⊢
  have hg4 := Grow.trans hg3 g4
  have hx4 := hx.grow g4
  refine jn_of (fun b w' => b = false ∧ w4 = w') ?_ ?_
  · refine callF_of (C18 x y _ _ w4 hx4.bs hy.bs) ?_
    rintro r w5 ⟨hr, hw⟩
    subst hw
    rw [beq_self_eq_true] at hr
    subst hr
    refine br_f rfl ⟨?_, rfl⟩
    rw [he, hf]
    simp
  rintro _ _ ⟨rfl, rfl⟩
  refine br_f rfl ?_
  have hxl : x.len ≤ 1000000000 := by
    rw [hx4.bs.len]
    split
    · rename_i h0
      have hpg : l.length = 256 := by
        unfold redoE at h0
        split at h0
        · cases h0
        · omega
      rw [redoF_len hpg]
      · omega
      · intro x hx'
        refine ⟨?_, (hs.2 x hx').len⟩
        unfold redoE at h0
        rw [if_neg (by omega)] at h0
        split at h0
        · cases h0
        · rename_i h9
          rw [Bool.not_eq_true, List.any_eq_false] at h9
          simpa using h9 x hx'
    · simp
  have hsz2 := hg2.size
  refine xor_loop hx4 hxl fun w5 l' _ m5 => ?_
  have hg5 : Grow w w5 := Mod.trans hg4 m5 fun b hb hb2 => absurd (OwnS.blk_le hx hb2) (by omega)
  have hwas5 : BS w5 was l := ((hwas.grow (Grow.trans g3 g4)).mod m5 fun ad ha hS => by
    have := OwnS.blk_lt hwas ⟨ad, ha, rfl⟩
    have := OwnS.blk_le hx hS
    omega).bs
  refine callF_of (C18 pg was l l w5 (hp.grow hg5) hwas5) ?_
  rintro r w7 ⟨hr, hw⟩
  subst hw
  exact ⟨hr.trans (beq_self_eq_true l), hg5⟩
end Go.Proofs

/-! Layer 8: ReplayBegins, the plain law and the walk. -/
namespace Go.Proofs
open Go.Eng

theorem comGo_or : ∀ (xs out wait : List Rv) (n i : Nat), n ≤ i → comGo xs out wait n i = (out, n) ∨ i < (comGo xs out wait n i).2
  | [], out, wait, n, i, h => .inl rfl
  | x :: xs, out, wait, n, i, h => by
    unfold comGo
    split
    · exact .inl rfl
    · split
      · rcases comGo_or xs out (wait ++ [x]) n (i + 1) (by omega) with h1 | h1
        · exact .inl h1
        · exact .inr (by omega)
      · split
        · exact .inl rfl
        · rcases comGo_or xs (out ++ wait) [] (i + 1) (i + 1) (by omega) with h1 | h1
          · right; rw [h1]; exact Nat.lt_succ_self i
          · exact .inr (by omega)

theorem comGo_pre : ∀ (xs out wait : List Rv) (n i : Nat), out <+: (comGo xs out wait n i).1
  | [], out, wait, n, i => List.prefix_refl _
  | x :: xs, out, wait, n, i => by
    unfold comGo
    split
    · exact List.prefix_refl _
    · split
      · exact comGo_pre xs out (wait ++ [x]) n (i + 1)
      · split
        · exact List.prefix_refl _
        · exact (List.prefix_append out wait).trans (comGo_pre xs (out ++ wait) [] (i + 1) (i + 1))

theorem comGo_ge {xs out wait : List Rv} {n i : Nat} (h : n ≤ i) : n ≤ (comGo xs out wait n i).2 := by
  rcases comGo_or xs out wait n i h with h1 | h1
  · rw [h1]; exact Nat.le_refl _
  · omega

theorem comGo_take : ∀ (xs out wait : List Rv) (n i k : Nat), n ≤ i → (comGo (xs.take k) out wait n i).2 ≤ (comGo xs out wait n i).2 ∧ (comGo (xs.take k) out wait n i).1 <+: (comGo xs out wait n i).1
  | [], out, wait, n, i, k, h => by rw [List.take_nil]; exact ⟨Nat.le_refl _, List.prefix_refl _⟩
  | x :: xs, out, wait, n, i, 0, h => ⟨comGo_ge h, comGo_pre _ _ _ _ _⟩
  | x :: xs, out, wait, n, i, k + 1, h => by
    rw [List.take_succ_cons]
    unfold comGo
    split
    · exact ⟨Nat.le_refl _, List.prefix_refl _⟩
    · split
      · exact comGo_take xs out (wait ++ [x]) n (i + 1) k (by omega)
      · split
        · exact ⟨Nat.le_refl _, List.prefix_refl _⟩
        · exact comGo_take xs (out ++ wait) [] (i + 1) (i + 1) k (by omega)

theorem comGo_cut : ∀ (xs out wait : List Rv) (n i : Nat), n ≤ i → comGo (xs.take ((comGo xs out wait n i).2 - i)) out wait n i = comGo xs out wait n i
  | [], out, wait, n, i, h => by rw [List.take_nil]
  | x :: xs, out, wait, n, i, h => by
    rcases comGo_or (x :: xs) out wait n i h with h1 | h1
    · rw [h1]
      show comGo ((x :: xs).take (n - i)) out wait n i = _
      rw [show n - i = 0 by omega]
      rfl
    · generalize hm : (comGo (x :: xs) out wait n i).2 - i = m
      obtain ⟨m', rfl⟩ : ∃ m', m = m' + 1 := ⟨m - 1, by omega⟩
      rw [List.take_succ_cons]
      unfold comGo at hm h1 ⊢
      split
      · rfl
      · rename_i h2
        rw [if_neg h2] at hm h1
        split
        · rename_i h3
          rw [if_pos h3] at hm h1
          have := comGo_cut xs out (wait ++ [x]) n (i + 1) (by omega)
          rwa [show (comGo xs out (wait ++ [x]) n (i + 1)).2 - (i + 1) = m' by omega] at this
        · rename_i h3
          rw [if_neg h3] at hm h1
          split
          · rfl
          · rename_i h4
            rw [if_neg h4] at hm h1
            have := comGo_cut xs (out ++ wait) [] (i + 1) (i + 1) (by omega)
            rwa [show (comGo xs (out ++ wait) [] (i + 1) (i + 1)).2 - (i + 1) = m' by omega] at this

theorem com_le (xs : List Rv) : (com xs).2 ≤ xs.length := by
  have := comGo_len xs [] [] 0 0 (by omega)
  unfold com
  omega
theorem comGo_size : ∀ (xs out wait : List Rv) (n i : Nat), (comGo xs out wait n i).1.length ≤ out.length + wait.length + xs.length
  | [], out, wait, n, i => by
    show out.length ≤ _
    omega
  | x :: xs, out, wait, n, i => by
    unfold comGo
    simp only [List.length_cons]
    split
    · dsimp only; omega
    · split
      · have := comGo_size xs out (wait ++ [x]) n (i + 1)
        simp only [List.length_append, List.length_singleton] at this
        omega
      · split
        · dsimp only; omega
        · have := comGo_size xs (out ++ wait) [] (i + 1) (i + 1)
          simp only [List.length_append, List.length_nil] at this
          omega
theorem com_size (xs : List Rv) : (com xs).1.length ≤ xs.length := by
  have := comGo_size xs [] [] 0 0
  simpa [com] using this
theorem com_cut (xs : List Rv) : com (xs.take (com xs).2) = com xs := comGo_cut xs [] [] 0 0 (by omega)

theorem law6 (s : Sl) (n : Int) (xs : List Rc) (w : World) (hs : RL w s xs) (hle : s.len ≤ s.cap) (hn : 0 ≤ n ∧ n ≤ 65535) :
    Calls Try.prog 6 #[.slice s.a s.len s.cap, .int .u16 n] w (RetT [.c .bool] fun r w' => r = true ∧ Grow w w') := by
  refine F6_calls s n _ _ ?_
  unfold F6
  have hsl := hs.len
  refine jn_of (fun b w' => (b = false → s.len ≤ 400) ∧ Grow w w') ?_ ?_
  · refine callF_of (C13 w) ?_
    rintro _ w1 ⟨rfl, g1⟩
    refine br_f rfl (callF_of (C14 s xs w1 ⟨hs.1.grow g1, fun x hx => (hs.2 x hx).grow g1⟩ hle) ?_)
    rintro r w2 ⟨hr, g2⟩
    exact ⟨fun hf => hr (by simpa using hf), Grow.trans g1 g2⟩
  rintro b w1 ⟨hb, g1⟩
  refine br_of (fun _ => ?_) (fun hb0 => ?_)
  · refine callF_of (C13 w1) ?_
    rintro _ w2 ⟨rfl, g2⟩
    exact ⟨rfl, Grow.trans g1 g2⟩
  have h400 := hb hb0
  rw [show IntKind.wrap .i64 ((s.len : Int) + 1) = (s.len : Int) + 1 from wrap_i64 (by omega), show IntKind.wrap .i64 n = n from wrap_i64 (by omega)]
  have hk0 : 0 ≤ n.tmod ((s.len : Int) + 1) := Int.tmod_nonneg _ hn.1
  have hk1 : n.tmod ((s.len : Int) + 1) < (s.len : Int) + 1 := Int.tmod_lt_of_pos _ (by omega)
  generalize n.tmod ((s.len : Int) + 1) = k at hk0 hk1
  obtain ⟨k, rfl⟩ := Int.eq_ofNat_of_zero_le hk0
  refine ⟨by omega, ?_⟩
  have hs1 : RL w1 s xs := ⟨hs.1.grow g1, fun x hx => (hs.2 x hx).grow g1⟩
  refine slc_rl hs1 hle hk0 (by omega) fun hs1k => ?_
  simp only [Int.toNat_natCast, Int.ofNat_eq_natCast] at hs1k ⊢
  refine callF_of (C24 ⟨s.a, k, s.cap⟩ (xs.take k) w1 hs1k (by dsimp only; omega)) ?_
  rintro ⟨a, x⟩ w2 ⟨hx, ⟨az, ha, hav⟩, g2⟩
  dsimp only at hx ha ⊢
  have hg2 := Grow.trans g1 g2
  have hs2 : RL w2 s xs := ⟨hs.1.grow hg2, fun x hx => (hs.2 x hx).grow hg2⟩
  refine callF_of (C24 s xs w2 hs2 (by omega)) ?_
  rintro ⟨b, y⟩ w3 ⟨hy, ⟨bs, hb2, hbv⟩, g3⟩
  dsimp only at hy hb2 ⊢
  have hg3 := Grow.trans hg2 g3
  rw [List.map_take] at hx hav
  have hp := comGo_take (xs.map rv) [] [] 0 0 k (by omega)
  change (com ((xs.map rv).take k)).2 ≤ (com (xs.map rv)).2 ∧ (com ((xs.map rv).take k)).1 <+: (com (xs.map rv)).1 at hp
  have hxle := com_le ((xs.map rv).take k)
  have hyle := com_le (xs.map rv)
  rw [List.length_take, List.length_map] at hxle
  rw [List.length_map] at hyle
  have hcs := com_size (xs.map rv)
  rw [List.length_map] at hcs
  have hal := ha.len
  have hbl := hb2.len
  have hpl := hp.2.length_le
  rw [← hbv, List.length_map] at hcs
  rw [← hav, ← hbv, List.length_map, List.length_map] at hpl
  have ha3 := ha.grow g3
  refine jn_of (fun b w' => b = false ∧ Grow w3 w') ?_ ?_
  · refine br_f ?_ (br_f ?_ (br_f ?_ (br_f ?_ ?_)))
    · simp only [gt_iff_lt, decide_eq_false_iff_not]; omega
    · simp only [gt_iff_lt, decide_eq_false_iff_not]; omega
    · simp only [gt_iff_lt, decide_eq_false_iff_not]; omega
    · simp only [gt_iff_lt, decide_eq_false_iff_not]; omega
    refine slc_rl hb2.rl hb2.own.le (by omega) (by omega) fun hbt => ?_
    simp only [Int.toNat_natCast] at hbt ⊢
    refine callF_of (C21 a ⟨b.a, a.len, b.cap⟩ az (bs.take a.len) w3 ha3.rl hbt (by omega)) ?_
    rintro r w4 ⟨hr, g4⟩
    have : r = true := by
      rw [hr, decide_eq_true_eq, List.map_take, hbv, hav]
      have h5 := List.prefix_iff_eq_take.1 hp.2
      have h6 : (com ((xs.map rv).take k)).1.length = a.len := by rw [← hav, List.length_map]; omega
      rwa [h6] at h5
    rw [this]
    exact ⟨rfl, g4⟩
  rintro _ w4 ⟨rfl, g4⟩
  refine br_f rfl ?_
  have hg4 := Grow.trans hg3 g4
  have hs4 : RL w4 s xs := ⟨hs.1.grow hg4, fun x hx => (hs.2 x hx).grow hg4⟩
  refine slc_rl hs4 hle (by omega) (by omega) fun hs4y => ?_
  rw [hy] at hs4y ⊢
  simp only [Int.toNat_natCast] at hs4y ⊢
  refine callF_of (C24 ⟨s.a, (com (xs.map rv)).2, s.cap⟩ (xs.take (com (xs.map rv)).2) w4 hs4y (by dsimp only; omega)) ?_
  rintro ⟨c, z⟩ w5 ⟨hz, ⟨cs, hc, hcv⟩, g5⟩
  dsimp only at hz hc ⊢
  rw [List.map_take, com_cut] at hz hcv
  refine br_t (by rw [hz]; simp) ?_
  have hb5 := hb2.grow (Grow.trans g4 g5)
  refine callF_of (C21 c b cs bs w5 hc.rl hb5.rl ?_) ?_
  · have h6 := hc.len
    have h7 := congrArg List.length hcv
    have h8 := congrArg List.length hbv
    rw [List.length_map] at h7 h8
    have h9 := hb2.own.le
    omega
  · rintro r w6 ⟨hr, g6⟩
    refine ⟨?_, Grow.trans (Grow.trans hg4 g5) g6⟩
    rw [hr, decide_eq_true_eq, hcv, hbv]
end Go.Proofs

/-! Sorting of whole numbers, by the shelf's contract. -/
namespace Go.Proofs
open Go.Eng

def ints (l : List Int) : List Value := l.map (Value.int .i64)
@[simp] theorem ints_length (l : List Int) : (ints l).length = l.length := by simp [ints]
theorem ints_append (a b : List Int) : ints (a ++ b) = ints a ++ ints b := by simp [ints]
theorem ints_na (l : List Int) : ∀ v ∈ ints l, NotAgg v := by
  intro v hv
  obtain ⟨b, _, rfl⟩ := List.mem_map.1 hv
  trivial

/-- a slice of whole numbers reads as l -/
structure IS (w : World) (s : Sl) (l : List Int) : Prop where
  len : s.len = l.length
  row : readsO w s.a (ints l)
theorem IS.grow {w w' : World} {s : Sl} {l : List Int} (h : IS w s l) (hm : Grow w w') : IS w' s l := ⟨h.len, h.row.grow hm⟩
theorem IS.mod {S : Nat → Prop} {w w' : World} {s : Sl} {l : List Int} (h : IS w s l) (hm : Mod S w w') (hs : ∀ ad, s.a = some ad → ¬ S ad.block) : IS w' s l := ⟨h.len, h.row.mod hm fun ad ha _ => hs ad ha⟩
theorem owns_ints {w : World} {n0 : Nat} {s : Sl} {l : List Int} (h : OwnS w n0 1 s (ints l)) : IS w s l := ⟨by have := h.len; simp at this; exact this.symm, h.reads⟩
theorem IS.none_len {w : World} {s : Sl} {l : List Int} (h : IS w s l) (ha : s.a = none) : s.len = 0 := by
  have h2 := h.row
  rw [ha] at h2
  have : ints l = [] := h2
  have h3 := congrArg List.length this
  simp at h3
  rw [h.len, h3]; rfl

theorem iat_of {w : World} {s : Sl} {l : List Int} {i : Int} {b : Int} {k : Int → Pr} (h : IS w s l) (h0 : 0 ≤ i) (hb : l[i.toNat]? = some b) (hk : k b w) :
    (owe ((0 : Int) ≤ i ∧ i < (s.len : Int)) <| deref s.a fun a => deref (some (a.add (Int.toNat i * 1))) fun a1 => ldC (.int .i64) a1 k) w := by
  have hl := h.len
  have hlt : i.toNat < l.length := by
    rcases Nat.lt_or_ge i.toNat l.length with h' | h'
    · exact h'
    · rw [List.getElem?_eq_none h'] at hb; cases hb
  refine ⟨⟨h0, by omega⟩, ?_⟩
  have hr := h.row
  cases ha : s.a with
  | none =>
    have := h.none_len ha
    omega
  | some ad =>
    rw [ha] at hr
    simp only [deref_some, Nat.mul_one]
    exact ldC_of (s := .int .i64) (p := b) ((readsAt_row.1 hr).get (by simp [ints, hb])) hk

def sortI (l : List Int) : List Int := l.mergeSort fun x y => decide (x ≤ y)

theorem C91 (s : Sl) (zs : List Int) (n0 : Nat) (w : World) (h : OwnS w n0 1 s (ints zs)) (hb : s.len ≤ 1000000000) : Calls Try.prog 91 #[.slice s.a s.len s.cap] w
    (RetT [] fun _ w' => OwnS w' n0 1 s (ints (sortI zs)) ∧ Mod s.blk w w') := by
  have hl := (owns_ints h).len
  by_cases h0 : s.len = 0
  · have hz : zs = [] := List.eq_nil_of_length_eq_zero (by omega)
    subst hz
    have := Try.slices_Sort_int_none s.a s.cap w
    rw [h0]
    refine this.mono ?_
    rintro e w' ⟨rfl, rfl⟩
    refine ⟨(), rfl, ?_, Mod.refl _ _⟩
    simpa [sortI] using h
  · rcases h.row with ⟨_, h2, _⟩ | ⟨b, off, spare, h1, h2, h3, h4, h5, h6⟩
    · exact absurd h2 h0
    have hH : Sort.Holds (Value.int .i64) w b off zs.toArray := by
      intro j hj
      have hj' : j < zs.length := by simpa using hj
      refine ⟨?_, h4 _⟩
      have := h5 j (.int .i64 zs[j]) (by rw [List.getElem?_append_left (by simpa using hj')]; simp [ints, hj'])
      rw [add_mk] at this
      rw [this]
      simp [hj']
    have hc := Try.slices_Sort_int b off s.cap zs w hH h3 (by omega)
    rw [h1, hl]
    refine hc.mono ?_
    rintro e w' ⟨rfl, n, os, rfl⟩
    have hsz : (sortI zs).length = zs.length := List.length_mergeSort zs
    have hH' := Sort.holds_grow (Value.int .i64) _ os b off (sortI zs).toArray (by simpa using h3) (Sort.holds_putRow (Value.int .i64) (Sort.ahead w n) b off zs.toArray (sortI zs).toArray hH (by simpa using hsz))
    refine ⟨(), rfl, ⟨by simp [hsz, hl], h.le, .inr ⟨b, off, spare, h1, h2, by simp; omega, ?_, ?_, ?_⟩⟩, ?_⟩
    · intro o
      rw [Sort.frozen?_grow _ _ _ (by simpa using h3), Sort.frozen?_putRow]
      exact h4 o
    · intro j v hj
      rw [add_mk]
      by_cases hlt : j < zs.length
      · have h7 := (hH' j (by simpa [hsz] using hlt)).1
        rw [List.getElem?_append_left (by simpa [hsz] using hlt)] at hj
        refine h7.trans ?_
        rw [← hj]
        have hlt2 : j < (sortI zs).length := by omega
        simp [ints, hlt2]
      · rw [Sort.cell?_grow _ _ _ (by simpa using h3), Sort.cell?_putRow_other _ _ _ _ _ _ (.inr (.inr (by simp [hsz]; omega)))]
        have h8 := h5 j v (by
          rw [List.getElem?_append_right (by simp [hsz]; omega)] at hj
          rw [List.getElem?_append_right (by simp; omega)]
          simpa [hsz] using hj)
        rwa [add_mk] at h8
    · rw [List.length_append] at h6 ⊢
      simpa [hsz] using h6
    · refine ⟨by simp, fun c hc hS => ?_, rfl, rfl, rfl⟩
      rw [Sort.heap_grow_old _ _ (by simpa using hc)]
      show (w.heap.modify b _)[c]? = _
      rw [Array.getElem?_modify, if_neg]
      intro hbc
      exact hS ⟨_, h1, hbc⟩
end Go.Proofs

/-! Going through a map: the keys, each once, in whatever order. -/
namespace Go.Proofs
open Go.Eng

theorem nodup_inj {α β : Type} {f : α → β} {a b : α} : ∀ {l : List α}, (l.map f).Nodup → a ∈ l → b ∈ l → f a = f b → a = b
  | [], _, ha, _, _ => by cases ha
  | x :: l, h, ha, hb, hf => by
    rw [List.map_cons, List.nodup_cons] at h
    rcases List.mem_cons.1 ha with hax | hal <;> rcases List.mem_cons.1 hb with hbx | hbl
    · rw [hax, hbx]
    · exact absurd (List.mem_map.2 ⟨b, hbl, by rw [← hf, hax]⟩) h.1
    · exact absurd (List.mem_map.2 ⟨a, hal, by rw [hf, hbx]⟩) h.1
    · exact nodup_inj h.2 hal hbl hf

theorem nodup_of_map {α β : Type} {f : α → β} : ∀ {l : List α}, (l.map f).Nodup → l.Nodup
  | [], _ => List.nodup_nil
  | x :: l, h => by
    rw [List.map_cons, List.nodup_cons] at h
    exact List.nodup_cons.2 ⟨fun hx => h.1 (List.mem_map.2 ⟨x, hx, rfl⟩), nodup_of_map h.2⟩

theorem find_unique {α : Type} {p : α → Bool} {e : α} : ∀ {l : List α}, e ∈ l → p e = true → (∀ x ∈ l, p x = true → x = e) → l.find? p = some e
  | [], h, _, _ => by cases h
  | x :: l, h, hp, hu => by
    rw [List.find?_cons]
    cases hx : p x with
    | true => simp [hu x (by simp) hx]
    | false =>
      rcases List.mem_cons.1 h with rfl | h
      · rw [hp] at hx; cases hx
      · exact find_unique h hp fun y hy => hu y (by simp [hy])

theorem nodup_len {α : Type} : ∀ {l1 l2 : List α}, l1.Nodup → (∀ x ∈ l1, x ∈ l2) → l1.length ≤ l2.length
  | [], _, _, _ => by simp
  | x :: l1, l2, h, hs => by
    rw [List.nodup_cons] at h
    obtain ⟨a, b, rfl⟩ := List.append_of_mem (hs x (by simp))
    have := nodup_len (l1 := l1) (l2 := a ++ b) h.2 fun y hy => by
      have h2 := hs y (by simp [hy])
      rcases List.mem_append.1 h2 with h3 | h3
      · exact List.mem_append_left _ h3
      · rcases List.mem_cons.1 h3 with h4 | h4
        · exact absurd (h4 ▸ hy) h.1
        · exact List.mem_append_right _ h4
    simp only [List.length_append, List.length_cons] at this ⊢
    omega

theorem nodup_ext {α : Type} : ∀ {l1 l2 : List α}, l1.Nodup → (∀ x ∈ l1, x ∈ l2) → ∃ r, (l1 ++ r).Perm l2
  | [], l2, _, _ => ⟨l2, List.Perm.refl _⟩
  | x :: l1, l2, h, hs => by
    rw [List.nodup_cons] at h
    obtain ⟨a, b, rfl⟩ := List.append_of_mem (hs x (by simp))
    obtain ⟨r, hr⟩ := nodup_ext (l1 := l1) (l2 := a ++ b) h.2 fun y hy => by
      have h2 := hs y (by simp [hy])
      rcases List.mem_append.1 h2 with h3 | h3
      · exact List.mem_append_left _ h3
      · rcases List.mem_cons.1 h3 with h4 | h4
        · exact absurd (h4 ▸ hy) h.1
        · exact List.mem_append_right _ h4
    exact ⟨r, (hr.cons x).trans List.perm_middle.symm⟩

def unI : Value → Int
  | .int _ n => n
  | _ => 0
theorem ints_unI (l : List Int) : (ints l).map unI = l := by simp [ints, List.map_map, Function.comp_def, unI]
theorem ints_inj {a b : List Int} (h : ints a = ints b) : a = b := by rw [← ints_unI a, h, ints_unI]
theorem ints_nodup {l : List Int} (h : l.Nodup) : (ints l).Nodup := by
  have h2 : ((ints l).map unI).Nodup := by rwa [ints_unI]
  exact nodup_of_map h2

/-- a map whose keys are whole numbers -/
structure MapI (w : World) (m : Nat) (es : Array MapEntry) (clock : Nat) (ks : List Int) : Prop where
  heap : w.heap[m]? = some (.map es clock)
  born : ∀ e ∈ es.toList, e.born < clock
  nod : (es.toList.map (·.born)).Nodup
  keys : es.toList.map (·.key) = ints ks
  knod : ks.Nodup

theorem C92 (y : Value) (ad : Addr) (m : Nat) (es : Array MapEntry) (clock : Nat) (ks : List Int) (w : World) (hc : w.cell? ad = some (.map (some m))) (hm : MapI w m es clock ks)
    (I : List Int → World → Prop) (D : World → Prop) (h0 : ∀ o, I [] (w.alloc o)) (hstab : ∀ pre W o, I pre W → I pre (W.putObj w.heap.size o)) (hdrew : ∀ pre W, I pre W → I pre W.drew) (hmap : ∀ pre W, I pre W → W.heap[m]? = w.heap[m]?)
    (hbody : ∀ pre k W, I pre W → w.heap.size < W.heap.size → (∃ suf, (pre ++ k :: suf).Perm ks) → callV Try.prog y [.int .i64 k] [.c .bool] (fun b W' => if b = true then I (pre ++ [k]) W' ∧ W'.heap[w.heap.size]? = W.heap[w.heap.size]? else D W') W) :
    Calls Try.prog 92 #[y, .pointer (some ad)] w (RetT [] fun _ w' => (∃ xs, xs.Perm ks ∧ I xs w') ∨ D w') := by
  refine F92_calls y (some ad) _ _ ?_
  unfold F92
  simp only [deref_some']
  refine ldC_of (s := .map) (p := some m) hc ?_
  have hmlt : m < w.heap.size := by
    rcases Nat.lt_or_ge m w.heap.size with h | h
    · exact h
    · have := hm.heap; rw [Array.getElem?_eq_none h] at this; cases this
  refine ⟨es, clock, hm.heap, ?_⟩
  have hen := nodup_of_map hm.nod
  refine loop_of (fun _ W => ∃ (ps : List MapEntry) (seen : Array Nat) (pre : List Int), W.heap[w.heap.size]? = some (.mapIter (some m) clock seen clock) ∧ seen.toList = ps.map (·.born) ∧ (∀ e ∈ ps, e ∈ es.toList) ∧ ps.Nodup ∧ ps.map (·.key) = ints pre ∧ I pre W)
    (fun _ W => match W.heap[w.heap.size]? with | some (.mapIter _ _ seen _) => es.size - seen.size | _ => 0)
    ⟨[], #[], [], heap_alloc_new _ _, rfl, by simp, List.nodup_nil, rfl, h0 _⟩ ?_
  rintro _ W ⟨ps, seen, pre, hit, hseen, hsub, hnd, hkey, hI⟩
  have hWm : W.heap[m]? = some (.map es clock) := (hmap _ _ hI).trans hm.heap
  have hcont : ∀ e ∈ es.toList, (seen.contains e.born = true ↔ e ∈ ps) := by
    intro e he
    rw [Array.contains_iff_mem, ← Array.mem_toList_iff, hseen, List.mem_map]
    constructor
    · rintro ⟨e', h1, h2⟩
      exact nodup_inj hm.nod (hsub e' h1) he h2 ▸ h1
    · intro h1; exact ⟨e, h1, rfl⟩
  have hlen : seen.size = ps.length := by rw [← Array.length_toList, hseen, List.length_map]
  refine ⟨rfl, .inr ⟨m, clock, seen, clock, es, clock, hit, hWm, ?_, fun w1 hw1 => ?_⟩⟩
  · cases hes : es.toList with
    | nil =>
      have : es = #[] := by apply Array.ext'; simpa using hes
      simp [this]
    | cons e l =>
      have h1 := hm.born e (by rw [hes]; simp)
      have : es.all (fun x => decide (x.born ≥ clock)) = false := by
        rw [← Array.all_toList, hes, List.all_cons, decide_eq_false (by omega), Bool.false_and]
      rw [this, Bool.and_false]
  have hI1 : I pre w1 := by rcases hw1 with rfl | rfl; exact hI; exact hdrew _ _ hI
  refine ⟨fun hall => ?_, fun e he hns => ?_⟩
  · refine .inl ⟨pre, ?_, hI1⟩
    have hp : ps.Perm es.toList := (List.perm_ext_iff_of_nodup hnd hen).2 fun e => ⟨hsub e, fun he => (hcont e he).1 (hall e he (hm.born e he))⟩
    have h2 := hp.map (·.key)
    rw [hkey, hm.keys] at h2
    have h3 := h2.map unI
    rwa [ints_unI, ints_unI] at h3
  · have hnp : e ∉ ps := fun h => by rw [(hcont e he).2 h] at hns; cases hns
    have hke : ∃ k, e.key = .int .i64 k ∧ k ∈ ks := by
      have : e.key ∈ ints ks := by rw [← hm.keys]; exact List.mem_map.2 ⟨e, he, rfl⟩
      obtain ⟨k, hk, h⟩ := List.mem_map.1 this
      exact ⟨k, h.symm, hk⟩
    obtain ⟨k, hk, hkk⟩ := hke
    have hw1it : w1.heap[w.heap.size]? = some (.mapIter (some m) clock seen clock) := by rcases hw1 with rfl | rfl <;> exact hit
    have hw1m : w1.heap[m]? = some (.map es clock) := by rcases hw1 with rfl | rfl <;> exact hWm
    have hlt : w.heap.size < w1.heap.size := (Array.getElem?_eq_some_iff.1 hw1it).1
    have hit2 : (w1.putObj w.heap.size (.mapIter (some m) clock (seen.push e.born) clock)).heap[w.heap.size]? = some (.mapIter (some m) clock (seen.push e.born) clock) := World.putObj_heap_same hlt
    refine ⟨rfl, m, clock, seen.push e.born, clock, es, clock, e.born, e, hit2, by simp, (World.putObj_heap_other (k := m) (r := w.heap.size) (by omega)).trans hw1m, rfl, ?_, ?_⟩
    · rw [← Array.find?_toList]
      exact find_unique he (by simp) fun x hx h => nodup_inj hm.nod hx he (by simpa using h)
    refine ⟨k, hk, ?_⟩
    have hI2 := hstab pre w1 (.mapIter (some m) clock (seen.push e.born) clock) hI1
    have hsuf : ∃ suf, (pre ++ k :: suf).Perm ks := by
      have h2 : (ps ++ [e]).Nodup := by
        rw [List.nodup_append]
        refine ⟨hnd, by simp, fun a ha b hb' => ?_⟩
        rw [List.mem_singleton] at hb'
        rintro rfl
        exact hnp (hb' ▸ ha)
      obtain ⟨r, hr⟩ := nodup_ext h2 (l2 := es.toList) fun x hx => by
        rcases List.mem_append.1 hx with hx | hx
        · exact hsub x hx
        · rw [List.mem_singleton] at hx; exact hx ▸ he
      have h3 := (hr.map (·.key)).map unI
      have h4 : ((ps ++ [e]).map (·.key)).map unI = pre ++ [k] := by rw [List.map_append, hkey, List.map_append, ints_unI]; simp [hk, unI]
      rw [hm.keys, ints_unI, List.map_append, List.map_append, h4] at h3
      refine ⟨(r.map (·.key)).map unI, ?_⟩
      simpa using h3
    have hcall := hbody pre k _ hI2 (by simpa using hlt) hsuf
    refine callV_mono (fun b W' hb => ?_) hcall
    refine br_of (fun hf => ?_) (fun hf => ?_)
    · simp only [Bool.not_eq_true'] at hf
      subst hf
      rw [if_neg (by simp)] at hb
      exact .inr hb
    · simp only [Bool.not_eq_false'] at hf
      subst hf
      rw [if_pos rfl] at hb
      refine ⟨⟨ps ++ [e], seen.push e.born, pre ++ [k], hb.2.trans hit2, by simp [hseen], ?_, ?_, ?_, hb.1⟩, ?_⟩
      · intro x hx
        rcases List.mem_append.1 hx with hx | hx
        · exact hsub x hx
        · rw [List.mem_singleton] at hx; exact hx ▸ he
      · rw [List.nodup_append]
        refine ⟨hnd, by simp, fun a ha b hb' => ?_⟩
        rw [List.mem_singleton] at hb'
        rintro rfl
        exact hnp (hb' ▸ ha)
      · rw [List.map_append, hkey, ints_append]
        simp [ints, hk]
      · rw [hb.2, hit2, hit]
        have h1 : ps.length + 1 ≤ es.size := by
          have h2 : (ps ++ [e]).Nodup := by
            rw [List.nodup_append]
            refine ⟨hnd, by simp, fun a ha b hb' => ?_⟩
            rw [List.mem_singleton] at hb'
            rintro rfl
            exact hnp (hb' ▸ ha)
          have h3 := nodup_len h2 (l2 := es.toList) (fun x hx => by
            rcases List.mem_append.1 hx with hx | hx
            · exact hsub x hx
            · rw [List.mem_singleton] at hx; exact hx ▸ he)
          simpa using h3
        simp only [Array.size_push]
        omega
end Go.Proofs

/-! Ranges over iterators of whole numbers. -/
namespace Go.Proofs
open Go.Eng

/-- an iterator: while M holds it hands over, one after the other, the numbers of one of the lists of poss -/
def IterI (v : Value) (M : World → Prop) (poss : List Int → Prop) (own : Bool) : Prop :=
  ∃ f caps, v = .func (.func f) #[] caps ∧ callable Try.prog f = true ∧
  ∀ (y : Value) (w : World) (I : List Int → World → Prop) (D : World → Prop), M w → I [] w → (∀ o, I [] (w.alloc o)) → (own = true → ∀ pre W o, I pre W → I pre (W.putObj w.heap.size o)) → (∀ pre W, I pre W → I pre W.drew) → (∀ pre W, I pre W → M W) →
    (∀ pre k W, I pre W → (own = true → w.heap.size < W.heap.size) → (∃ suf, poss (pre ++ k :: suf)) → callV Try.prog y [.int .i64 k] [.c .bool] (fun b W' => if b = true then I (pre ++ [k]) W' ∧ (own = true → W'.heap[w.heap.size]? = W.heap[w.heap.size]?) else D W') W) →
    Calls Try.prog f (#[y] ++ caps) w (RetT [] fun _ w' => (∃ xs, poss xs ∧ I xs w') ∨ D w')

theorem iter_keys (ad : Addr) (m : Nat) (es : Array MapEntry) (clock : Nat) (ks : List Int) (hb : ∀ e ∈ es.toList, e.born < clock) (hnd : (es.toList.map (·.born)).Nodup) (hk : es.toList.map (·.key) = ints ks) (hkn : ks.Nodup) :
    IterI (.func (.func 92) #[] #[.pointer (some ad)]) (fun w => w.cell? ad = some (.map (some m)) ∧ w.heap[m]? = some (.map es clock)) (fun xs => xs.Perm ks) true := by
  refine ⟨92, _, rfl, by kernel_rfl, ?_⟩
  intro y w I D hM h0 hal hst hdr hMM hbody
  exact C92 y ad m es clock ks w hM.1 ⟨hM.2, hb, hnd, hk, hkn⟩ I D hal (hst rfl) hdr (fun pre W h => (hMM pre W h).2.trans hM.2.symm) fun pre k W h1 h2 h3 => callV_mono (fun b W' hb => by
    by_cases hbt : b = true
    · rw [if_pos hbt] at hb ⊢; exact ⟨hb.1, hb.2 rfl⟩
    · rw [if_neg hbt] at hb ⊢; exact hb) (hbody pre k W h1 (fun _ => h2) h3)

theorem iter_values (ad : Addr) (s : Sl) (l : List Int) (hl : l.length ≤ 1000000000) :
    IterI (.func (.func 89) #[] #[.pointer (some ad)]) (fun w => w.cell? ad = some (.slice s.a s.len s.cap) ∧ IS w s l) (fun xs => xs = l) false := by
  refine ⟨89, _, rfl, by kernel_rfl, ?_⟩
  intro y w I D hM h0 hal hst hdr hMM hbody
  refine F89_calls y (some ad) _ _ ?_
  unfold F89
  rw [deref_some']
  refine ldC_of (s := .slice) (p := s) hM.1 ?_
  have hsl := hM.2.len
  refine loop_of (fun i W => ∃ j : Nat, i = j ∧ j ≤ l.length ∧ I (l.take j) W) (fun i _ => l.length - i.toNat) ⟨0, rfl, by omega, by simpa using h0⟩ ?_
  rintro _ W ⟨j, rfl, hj, hI⟩
  refine br_of (fun hlt => ?_) (fun hge => ?_)
  · simp only [decide_eq_true_eq] at hlt
    have hjl : j < l.length := by omega
    refine iat_of (i := (j : Int)) (b := l[j]) (hMM _ _ hI).2 (by omega) (by simp) ?_
    have hd : l.take j ++ l[j] :: l.drop (j + 1) = l := by rw [← List.drop_eq_getElem_cons hjl, List.take_append_drop]
    refine callV_mono (fun b W' hb => ?_) (hbody (l.take j) l[j] W hI (fun h => by cases h) ⟨l.drop (j + 1), hd⟩)
    refine br_of (fun hf => ?_) (fun hf => ?_)
    · simp only [Bool.not_eq_true'] at hf
      subst hf
      rw [if_neg (by simp)] at hb
      exact .inr hb
    · simp only [Bool.not_eq_false'] at hf
      subst hf
      rw [if_pos rfl, ← take_succ' hjl] at hb
      rw [wrap_succ (by omega)]
      exact ⟨⟨j + 1, rfl, hjl, hb.1⟩, by omega⟩
  · simp only [decide_eq_false_iff_not] at hge
    refine .inl ⟨l, rfl, ?_⟩
    rwa [List.take_of_length_le (by omega)] at hI

/-- blocks that the book-keeping of a range at w takes -/
def book (w : World) (own : Bool) (b : Nat) : Prop := w.heap.size ≤ b ∧ b < w.heap.size + 2 + (if own = true then 1 else 0)
def notBook (w : World) (own : Bool) (b : Nat) : Prop := ¬ book w own b

/-- a range over an iterator: U is the caller's own word on what it holds, E on what holds where it is left by a jump -/
theorem rng_of {v : Value} {M : World → Prop} {poss : List Int → Prop} {own : Bool} (hv : IterI v M poss own) {w : World} {R : Nat → Int → (Pr → Pr) → Pr → (Option Nat → Pr) → Pr} {K Jr : Nat → Pr} {Jx : Nat → List (Nat × Pr)}
    (U : List Int → World → Prop) (E : Option Nat → World → Prop) (h0 : U [] w) (hU : ∀ pre W W', U pre W → Mod (book w own) W W' → U pre W') (hE : ∀ j W W', E j W → Mod (book w own) W W' → E j W') (hM : ∀ pre W, U pre W → M W)
    (hround : ∀ l pre k W0 (bg : Pr → Pr) (nx : Pr) (lv : Option Nat → Pr), U pre W0 → (∃ suf, poss (pre ++ k :: suf)) → w.heap.size + 2 + (if own = true then 1 else 0) ≤ W0.heap.size →
      (∀ c W, Mod (notBook w own) W0 W → (∀ W1, Mod (book w own) W W1 → W1.heap.size = W.heap.size → (∀ W2, Mod (notBook w own) W1 W2 → U (pre ++ [k]) W2 → nx W2) → (∀ j W2, Mod (notBook w own) W1 W2 → E j W2 → lv j W2) → c W1) → bg c W) →
      R l k bg nx lv W0)
    (hK : ∀ xs W, poss xs → U xs W → W.heap[w.heap.size]? = some (.deferred (some [])) → K w.heap.size W)
    (hJ : ∀ j W, E j W → W.heap[w.heap.size]? = some (.deferred (some [])) → jmp (Jr w.heap.size) (Jx w.heap.size) j W) :
    rngE Try.prog v [.c (.int .i64)] R K Jr Jx w := by
  obtain ⟨f, caps, rfl, hcl, hspec⟩ := hv
  refine ⟨f, caps, rfl, hcl, fun L hL hY => ?_⟩
  generalize hw1 : (w.alloc (.deferred (some []))).alloc (L .ready none) = w1
  have hsz1 : w1.heap.size = w.heap.size + 2 := by rw [← hw1]; simp
  have hl1 : w1.heap[w.heap.size + 1]? = some (L .ready none) := by
    rw [← hw1]
    have := heap_alloc_new (w.alloc (.deferred (some []))) (L .ready none)
    rwa [World.size_alloc] at this
  have hd1 : w1.heap[w.heap.size]? = some (.deferred (some [])) := by
    rw [← hw1, heap_alloc_lt (by simp)]
    exact heap_alloc_new _ _
  have hg1 : Grow w w1 := by rw [← hw1]; exact ((Mod.refl _ w).alloc _).alloc _
  have hown : (if own = true then 1 else 0) ≤ 1 := by split <;> omega
  have hbook1 : ∀ b, b = w.heap.size ∨ b = w.heap.size + 1 → book w own b := fun b hb => by unfold book; omega
  have hput : ∀ {b : Nat} (W : World) (o : Obj), book w own b → Mod (book w own) W (W.putObj b o) := fun W o hb => (Mod.refl _ W).putObj (.inl hb)
  refine (hspec (.func (.yield (w.heap.size + 1)) #[] #[]) w1 (fun pre W => U pre W ∧ W.heap[w.heap.size + 1]? = some (L .ready none) ∧ W.heap[w.heap.size]? = some (.deferred (some [])) ∧ w.heap.size + 2 ≤ W.heap.size)
    (fun W => ∃ j, E j W ∧ W.heap[w.heap.size + 1]? = some (L .done (some (jcode j))) ∧ W.heap[w.heap.size]? = some (.deferred (some [])))
    (hM _ _ (hU _ _ _ h0 hg1.mod)) ⟨hU _ _ _ h0 hg1.mod, hl1, hd1, by omega⟩ ?_ ?_ ?_ (fun pre W h => hM _ _ h.1) ?_).mono ?_
  · intro o
    exact ⟨hU _ _ _ h0 (hg1.mod.alloc o), (heap_alloc_lt (by omega)).trans hl1, (heap_alloc_lt (by omega)).trans hd1, by simp; omega⟩
  · intro ho pre W o ⟨h1, h2, h3, h4⟩
    refine ⟨hU _ _ _ h1 (hput W o ?_), (World.putObj_heap_other (by omega)).trans h2, (World.putObj_heap_other (by omega)).trans h3, by simpa using h4⟩
    unfold book
    rw [ho, hsz1]
    simp
  · intro pre W ⟨h1, h2, h3, h4⟩
    exact ⟨hU _ _ _ h1 (Mod.refl _ W).drew, h2, h3, h4⟩
  · intro pre k W ⟨h1, h2, h3, h4⟩ hit hsuf
    refine .inr ⟨w.heap.size + 1, #[], rfl, ?_⟩
    refine hY W k _ h2 ?_
    have hsz : w.heap.size + 2 + (if own = true then 1 else 0) ≤ W.heap.size := by
      split
      · rename_i ho
        have := hit ho
        omega
      · omega
    refine hround _ pre k W _ _ _ h1 hsuf hsz ?_
    intro c W1 hm hc
    have hsW := hm.size
    have hkeep : ∀ b, book w own b → W1.heap[b]? = W.heap[b]? := fun b hb => hm.same b (by have := hb.2; omega) fun h => h hb
    refine ⟨(hkeep _ (hbook1 _ (.inr rfl))).trans h2, ?_⟩
    refine hc _ (hput W1 _ (hbook1 _ (.inr rfl))) (by simp) ?_ ?_
    · intro W2 hm2 hU2
      have hs2 : W1.heap.size ≤ W2.heap.size := by have := hm2.size; simpa using this
      have hk2 : ∀ b, book w own b → W2.heap[b]? = (W1.putObj (w.heap.size + 1) (L .busy none)).heap[b]? := fun b hb => hm2.same b (by have := hb.2; simp; omega) fun h => h hb
      refine ⟨(hk2 _ (hbook1 _ (.inr rfl))).trans (World.putObj_heap_same (by omega)), ?_⟩
      rw [if_pos rfl]
      refine ⟨⟨hU _ _ _ hU2 (hput W2 _ (hbook1 _ (.inr rfl))), World.putObj_heap_same (by omega), (World.putObj_heap_other (by omega)).trans (((hk2 _ (hbook1 _ (.inl rfl))).trans (World.putObj_heap_other (by omega))).trans ((hkeep _ (hbook1 _ (.inl rfl))).trans h3)), by simp; omega⟩, fun ho => ?_⟩
      rw [hsz1]
      have hb2 : book w own (w.heap.size + 2) := by unfold book; rw [ho]; simp
      exact (World.putObj_heap_other (by omega)).trans (((hk2 _ hb2).trans (World.putObj_heap_other (by omega))).trans (hkeep _ hb2))
    · intro j W2 hm2 hE2
      have hs2 : W1.heap.size ≤ W2.heap.size := by have := hm2.size; simpa using this
      have hk2 : ∀ b, book w own b → W2.heap[b]? = (W1.putObj (w.heap.size + 1) (L .busy none)).heap[b]? := fun b hb => hm2.same b (by have := hb.2; simp; omega) fun h => h hb
      refine ⟨(hk2 _ (hbook1 _ (.inr rfl))).trans (World.putObj_heap_same (by omega)), ?_⟩
      rw [if_neg (by simp)]
      exact ⟨j, hE _ _ _ hE2 (hput W2 _ (hbook1 _ (.inr rfl))), World.putObj_heap_same (by omega), (World.putObj_heap_other (by omega)).trans (((hk2 _ (hbook1 _ (.inl rfl))).trans (World.putObj_heap_other (by omega))).trans ((hkeep _ (hbook1 _ (.inl rfl))).trans h3))⟩
  · rintro e W ⟨p, rfl, ⟨xs, hxs, h1, h2, h3, h4⟩ | ⟨j, h1, h2, h3⟩⟩
    · exact ⟨⟨_, rfl⟩, .inl ⟨h2, hK xs _ hxs (hU _ _ _ h1 (hput W _ (hbook1 _ (.inr rfl)))) ((World.putObj_heap_other (by omega)).trans h3)⟩⟩
    · exact ⟨⟨_, rfl⟩, .inr ⟨j, h2, hJ j _ (hE _ _ _ h1 (hput W _ (hbook1 _ (.inr rfl)))) ((World.putObj_heap_other (by omega)).trans h3)⟩⟩
end Go.Proofs

/-! Collecting what an iterator hands over. -/
namespace Go.Proofs
open Go.Eng

/-- one number is appended -/
theorem app_one {w : World} {n0 : Nat} {t : Sl} {xs : List Int} {b : Nat} {z : Int} {k : Sl → Pr} (h : OwnS w n0 1 t (ints xs)) (hn0 : n0 ≤ w.heap.size) (hb : Box w b [.int .i64 z]) (hl : xs.length ≤ 1000000000)
    (hk : ∀ r w', OwnS w' n0 1 r (ints (xs ++ [z])) → Mod t.blk w w' → (∀ c, r.blk c → t.blk c ∨ w.heap.size ≤ c) → k r w') : app 3 1 8 [.int .i64 0] t ⟨some ⟨b, 0, none⟩, 1, 1⟩ k w := by
  have htl := (owns_ints h).len
  refine app_own2 (vs := ints xs) (new := [.int .i64 z]) h hn0 (fun _ => rfl) (fun h => by cases h) (readsAt_row.2 hb.row) (by simp) rfl (by decide) (by dsimp only; omega) ?_
  intro r w' h1 _ _ _ h5 h6
  exact hk r w' (by rw [ints_append]; exact h1) h5 h6

/-- what a round that appends holds: a variable's block b0 and the slice in it -/
def Acc (w0 w1 : World) (own : Bool) (b0 : Nat) (pre : List Int) (W : World) : Prop :=
  ∃ t, Box W b0 [.slice t.a t.len t.cap] ∧ OwnS W w0.heap.size 1 t (ints pre) ∧ (∀ c, t.blk c → ¬ book w1 own c ∧ c ≠ b0 ∧ w1.heap.size ≤ c) ∧ Grow w0 W

theorem Acc.keep {w0 w1 : World} {own : Bool} {b0 : Nat} {pre : List Int} {W W' : World} (h01 : w0.heap.size ≤ w1.heap.size) (hb : ¬ book w1 own b0) (h : Acc w0 w1 own b0 pre W) (hm : Mod (book w1 own) W W') : Acc w0 w1 own b0 pre W' := by
  obtain ⟨t, h1, h2, h3, h4⟩ := h
  refine ⟨t, h1.mod hm hb, h2.mod hm fun ad ha hS => (h3 _ ⟨ad, ha, rfl⟩).1 hS, h3, Mod.trans h4 hm fun b hlt hS => ?_⟩
  have := hS.1
  omega

/-- the appending itself -/
theorem Acc.push {w0 w1 : World} {own : Bool} {b0 : Nat} {pre : List Int} {W : World} {z : Int} {k : Pr} (hb : ¬ book w1 own b0) (hb0 : w0.heap.size ≤ b0) (h : Acc w0 w1 own b0 pre W) (hsz : w1.heap.size + 2 + (if own = true then 1 else 0) ≤ W.heap.size) (hl : pre.length ≤ 1000000000)
    (hk : ∀ W', Acc w0 w1 own b0 (pre ++ [z]) W' → Mod (notBook w1 own) W W' → Mod (fun c => c = b0 ∨ w1.heap.size ≤ c) W W' → k W') :
    (ldC .slice ⟨b0, 0, none⟩ fun (t8 : Sl) => nw (.cells #[(.int .i64 z)] 3) fun r_1 => app 3 1 8 [(.int .i64 0)] t8 ⟨(some ⟨r_1, 0, none⟩), 1, 1⟩ fun t11 => st ⟨b0, 0, none⟩ (.slice t11.a t11.len t11.cap) k) W := by
  obtain ⟨t, h1, h2, h3, h4⟩ := h
  have h1' : W.cell? ⟨b0, 0, none⟩ = some (.slice t.a t.len t.cap) := h1.row 0 _ rfl
  refine ldC_of (s := .slice) (p := t) h1' ?_
  refine nw_of fun b1 W1 g1 e1 s1 bx => ?_
  have hs4 := h4.size
  refine app_one (h2.grow g1) (by omega) bx hl fun r W2 h5 h6 h7 => ?_
  have hb2 : Box W2 b0 [.slice t.a t.len t.cap] := (h1.grow g1).mod h6 fun hc => (h3 _ hc).2.1 rfl
  have hnb : ∀ c, r.blk c → ¬ book w1 own c ∧ c ≠ b0 ∧ w1.heap.size ≤ c := by
    intro c hc
    rcases h7 c hc with h8 | h8
    · exact h3 c h8
    · have hlt := h1.lt
      refine ⟨fun hB => ?_, by omega, by omega⟩
      have := hB.2
      omega
  have hb3 := hb2.st (i := 0) (v := .slice r.a r.len r.cap) (k := k) (by simp) trivial fun W3 h8 h9 h10 => ?_
  · simpa using hb3
  have hm : Mod (fun c => t.blk c ∨ c = b0) W W3 := Mod.trans (Mod.trans (Grow.mod g1) h6 fun _ _ h => .inl h) h9 fun _ _ h => .inr h
  refine hk W3 ⟨r, h8, h5.mod h9 fun ad ha hS => (hnb _ ⟨ad, ha, rfl⟩).2.1 hS, hnb, ?_⟩ (hm.mono fun c _ hc => ?_) (hm.mono fun c _ hc => hc.elim (fun h => .inr (h3 c h).2.2) .inl)
  · refine Mod.trans h4 hm fun c hlt hc => ?_
    rcases hc with hc | hc
    · have := OwnS.blk_le h2 hc; omega
    · omega
  · rcases hc with hc | hc
    · exact (h3 c hc).1
    · rw [hc]; exact hb

theorem C100 {v : Value} {M : World → Prop} {poss : List Int → Prop} {own : Bool} (hv : IterI v M poss own) (w : World) (hM : ∀ W, Grow w W → M W) (hN : ∀ xs, poss xs → xs.length ≤ 1000000) :
    Calls Try.prog 100 #[.slice none 0 0, v] w (RetT [.c .slice] fun r w' => ∃ xs, poss xs ∧ OwnS w' w.heap.size 1 r (ints xs) ∧ Grow w w') := by
  refine F100_calls ⟨none, 0, 0⟩ v _ _ ?_
  unfold F100
  refine ⟨trivial, nw_of fun b0 w1 g1 e1 s1 bx => ?_⟩
  have hb : ¬ book w1 own b0 := fun h => by have := h.1; omega
  have h01 : w.heap.size ≤ w1.heap.size := by omega
  simp only [deref_some']
  refine rng_of hv (fun pre W => Acc w w1 own b0 pre W) (fun _ _ => False) ⟨⟨none, 0, 0⟩, bx, OwnS.nil _ _ _, fun c ⟨ad, h, _⟩ => by (cases h), g1⟩ (fun pre W W' h hm => h.keep h01 hb hm) (fun _ _ _ h _ => h) (fun pre W ⟨t, _, _, _, h4⟩ => hM W h4) ?_ ?_ (fun _ _ h => h.elim)
  · intro l pre k W0 bg nx lv hU hsuf hsz hbg
    refine hbg _ _ (Mod.refl _ _) fun W1 hm hs hnx _ => ?_
    obtain ⟨suf, hs2⟩ := hsuf
    have hN2 := hN _ hs2
    rw [List.length_append, List.length_cons] at hN2
    refine Acc.push hb (by omega) (hU.keep h01 hb hm) (by omega) (by omega) fun W2 hA hm2 _ => ?_
    exact hnx W2 hm2 hA
  · intro xs W hxs hU hd
    obtain ⟨t, h1, h2, h3, h4⟩ := hU
    have h1' : W.cell? ⟨b0, 0, none⟩ = some (.slice t.a t.len t.cap) := h1.row 0 _ rfl
    refine ldC_of (s := .slice) (p := t) h1' ⟨hd, xs, hxs, ?_⟩
    have hp : Mod (fun b => b = w1.heap.size) W (W.putObj w1.heap.size (.deferred none)) := (Mod.refl _ W).putObj (.inl rfl)
    refine ⟨h2.mod hp fun ad ha hS => (h3 _ ⟨ad, ha, rfl⟩).1 ?_, Mod.trans h4 hp fun c hlt hc => by omega⟩
    rw [hS]
    exact ⟨Nat.le_refl _, by omega⟩
end Go.Proofs

/-! Sorted keys; Values. -/
namespace Go.Proofs
open Go.Eng

theorem sortI_perm (l : List Int) : (sortI l).Perm l := List.mergeSort_perm l _
theorem sortI_sorted (l : List Int) : (sortI l).Pairwise (· ≤ ·) := by
  have := List.pairwise_mergeSort (le := fun x y : Int => decide (x ≤ y)) (fun a b c h1 h2 => by simp at *; omega) (fun a b => by simp; omega) l
  exact this.imp fun h => by simpa using h

theorem sorted_eq : ∀ {a b : List Int}, a.Perm b → a.Pairwise (· ≤ ·) → b.Pairwise (· ≤ ·) → a = b
  | [], b, h, _, _ => by simpa using h.symm.eq_nil.symm
  | x :: a, [], h, _, _ => by simpa using h.eq_nil
  | x :: a, y :: b, h, ha, hb => by
    rw [List.pairwise_cons] at ha hb
    have hxy : x = y := by
      have h1 : x ∈ y :: b := h.subset (by simp)
      have h2 : y ∈ x :: a := h.symm.subset (by simp)
      have h3 : y ≤ x := by
        rcases List.mem_cons.1 h1 with h4 | h4
        · omega
        · exact hb.1 x h4
      have h4 : x ≤ y := by
        rcases List.mem_cons.1 h2 with h5 | h5
        · omega
        · exact ha.1 y h5
      omega
    subst hxy
    rw [sorted_eq (List.Perm.cons_inv h) ha.2 hb.2]

theorem sortI_congr {a b : List Int} (h : a.Perm b) : sortI a = sortI b :=
  sorted_eq (((sortI_perm a).trans h).trans (sortI_perm b).symm) (sortI_sorted a) (sortI_sorted b)

theorem C90 {v : Value} {M : World → Prop} {poss : List Int → Prop} {own : Bool} (hv : IterI v M poss own) (w : World) (hM : ∀ W, Grow w W → M W) (hN : ∀ xs, poss xs → xs.length ≤ 1000000) :
    Calls Try.prog 90 #[v] w (RetT [.c .slice] fun r w' => ∃ xs, poss xs ∧ OwnS w' w.heap.size 1 r (ints xs) ∧ Grow w w') := by
  refine F90_calls v _ _ ?_
  unfold F90
  refine callF_of (C100 hv w hM hN) ?_
  intro r w' h
  exact h

theorem C65 {v : Value} {M : World → Prop} {ks : List Int} {own : Bool} (hv : IterI v M (fun xs => xs.Perm ks) own) (w : World) (hM : ∀ W, Grow w W → M W) (hN : ks.length ≤ 1000000) :
    Calls Try.prog 65 #[v] w (RetT [.c .slice] fun r w' => OwnS w' w.heap.size 1 r (ints (sortI ks)) ∧ Grow w w') := by
  refine F65_calls v _ _ ?_
  unfold F65
  refine callF_of (C90 hv w hM fun xs h => by rw [h.length_eq]; exact hN) ?_
  rintro r w1 ⟨xs, hp, ho, g1⟩
  have hl := (owns_ints ho).len
  have hpl := hp.length_eq
  refine callF_of (C91 r xs w.heap.size w1 ho (by omega)) ?_
  rintro _ w2 ⟨h2, m2⟩
  rw [sortI_congr hp] at h2
  exact ⟨h2, Mod.trans g1 m2 fun b hb hS => by have := OwnS.blk_le ho hS; omega⟩

theorem C66 (m : Option Nat) (w : World) : Calls Try.prog 66 #[.map m] w (RetT [.c .any] fun r w' => ∃ b, r = .func (.func 92) #[] #[.pointer (some ⟨b, 0, none⟩)] ∧ Box w' b [.map m] ∧ Grow w w') := by
  refine F66_calls m _ _ ?_
  unfold F66
  refine ⟨trivial, nw_of fun b w1 g1 _ _ bx => ?_⟩
  exact ⟨b, rfl, bx, g1⟩

theorem C64 (s : Sl) (w : World) : Calls Try.prog 64 #[.slice s.a s.len s.cap] w (RetT [.c .any] fun r w' => ∃ b, r = .func (.func 89) #[] #[.pointer (some ⟨b, 0, none⟩)] ∧ Box w' b [.slice s.a s.len s.cap] ∧ Grow w w') := by
  refine F64_calls s _ _ ?_
  unfold F64
  refine ⟨trivial, nw_of fun b w1 g1 _ _ bx => ?_⟩
  exact ⟨b, rfl, bx, g1⟩
end Go.Proofs

/-! Layer 8, contracts: Blocks. -/
namespace Go.Proofs
open Go.Eng

theorem find_int (k : Int) : ∀ (es : List MapEntry) (ks : List Int) (i : Nat), es.map (·.key) = ints ks →
    (k ∉ ks ∧ Instr.findNow (.int .i64) (.int .i64 k) es i = some none) ∨ (k ∈ ks ∧ ∃ j e, es[j]? = some e ∧ e.key = .int .i64 k ∧ Instr.findNow (.int .i64) (.int .i64 k) es i = some (some (i + j, e.val)))
  | [], ks, i, h => by
    have : ks = [] := by
      have := congrArg List.length h
      simp at this
      exact List.eq_nil_of_length_eq_zero this.symm
    subst this
    exact .inl ⟨by simp, rfl⟩
  | e :: es, [], i, h => by simp [ints] at h
  | e :: es, x :: ks, i, h => by
    have h' : e.key = .int .i64 x ∧ es.map (·.key) = ints ks := by simpa [ints] using h
    have hs : Instr.sameNow (.int .i64) (.int .i64 k) e.key = some (k == x) := by rw [h'.1]; simp [Instr.sameNow]
    unfold Instr.findNow
    rw [hs]
    cases hkx : (k == x) with
    | true =>
      rw [beq_iff_eq] at hkx
      subst hkx
      exact .inr ⟨by simp, 0, e, rfl, h'.1, by simp⟩
    | false =>
      have hne : k ≠ x := by simpa using hkx
      rcases find_int k es ks (i + 1) h'.2 with ⟨h1, h2⟩ | ⟨h1, j, e', h2, h3, h4⟩
      · exact .inl ⟨by simp [hne, h1], h2⟩
      · refine .inr ⟨by simp [h1], j + 1, e', by simpa using h2, h3, ?_⟩
        rw [show i + (j + 1) = i + 1 + j by omega]
        exact h4

/-- a number more in a set that is kept in its order of coming -/
def addB (ks : List Int) (k : Int) : List Int := if k ∈ ks then ks else ks ++ [k]

theorem put_int {w : World} {m : Nat} {es : Array MapEntry} {clock : Nat} {ks : List Int} {k : Int} {v : Value} {f : Pr} (h : MapI w m es clock ks)
    (hk : ∀ w' es' clock', MapI w' m es' clock' (addB ks k) → Mod (· = m) w w' → w'.heap.size = w.heap.size → f w') : mapPut (.int .i64) (some m) (.int .i64 k) v f w := by
  have hlt : m < w.heap.size := by
    rcases Nat.lt_or_ge m w.heap.size with h' | h'
    · exact h'
    · have := h.heap; rw [Array.getElem?_eq_none h'] at this; cases this
  have hput : ∀ o, (({ w with heap := w.heap.setIfInBounds m o } : World)).heap[m]? = some o := fun o => by simp [hlt]
  have hmod : ∀ o, Mod (· = m) w ({ w with heap := w.heap.setIfInBounds m o } : World) := fun o => (Mod.refl _ w).putObj (.inl rfl)
  rcases find_int k es.toList ks 0 h.keys with ⟨h1, h2⟩ | ⟨h1, j, e, h2, h3, h4⟩
  · refine ⟨m, es, clock, none, rfl, h.heap, h2, ?_⟩
    refine hk _ (es.push { key := .int .i64 k, val := v, born := clock }) (clock + 1) ⟨hput _, ?_, ?_, ?_, ?_⟩ (hmod _) (by simp)
    · intro e he
      rw [Array.toList_push] at he
      rcases List.mem_append.1 he with he | he
      · have := h.born e he; omega
      · rw [List.mem_singleton] at he; subst he; exact Nat.lt_succ_self _
    · rw [Array.toList_push, List.map_append, List.nodup_append]
      refine ⟨h.nod, by simp, fun a ha b hb => ?_⟩
      obtain ⟨e, he, rfl⟩ := List.mem_map.1 ha
      have := h.born e he
      simp at hb
      omega
    · rw [Array.toList_push, List.map_append, h.keys]
      unfold addB
      rw [if_neg h1, ints_append]
      rfl
    · unfold addB
      rw [if_neg h1, List.nodup_append]
      refine ⟨h.knod, by simp, fun a ha b hb => ?_⟩
      rw [List.mem_singleton] at hb
      rintro rfl
      exact h1 (hb ▸ ha)
  · refine ⟨m, es, clock, some (0 + j, e.val), rfl, h.heap, h4, ?_⟩
    have hje : es[0 + j]? = some e := by rw [Nat.zero_add]; simpa using h2
    refine ⟨?_, ?_⟩
    · rw [hje]
      simp [h3, Instr.sameBits]
    · have hkeys : ∀ g : MapEntry → MapEntry, (∀ x, (g x).born = x.born) → (g e).key = e.key → (es.modify (0 + j) g).toList.map (·.born) = es.toList.map (·.born) ∧ (es.modify (0 + j) g).toList.map (·.key) = es.toList.map (·.key) := by
        intro g hg1 hg2
        constructor
        · refine List.ext_getElem? fun i => ?_
          simp only [List.getElem?_map, Array.getElem?_toList, Array.getElem?_modify]
          split
          · cases es[i]? <;> simp [hg1]
          · rfl
        · refine List.ext_getElem? fun i => ?_
          simp only [List.getElem?_map, Array.getElem?_toList, Array.getElem?_modify]
          split
          · rename_i hi
            rw [← hi, hje]
            simp [hg2]
          · rfl
      obtain ⟨hb1, hb2⟩ := hkeys (fun e => { e with key := .int .i64 k, val := v }) (fun _ => rfl) (by simp [h3])
      refine hk _ (es.modify (0 + j) fun e => { e with key := .int .i64 k, val := v }) clock ⟨hput _, ?_, by rw [hb1]; exact h.nod, by rw [hb2, h.keys]; unfold addB; rw [if_pos h1], by unfold addB; rw [if_pos h1]; exact h.knod⟩ (hmod _) (by simp)
      intro x hx
      have : x.born ∈ es.toList.map (·.born) := by rw [← hb1]; exact List.mem_map.2 ⟨x, hx, rfl⟩
      obtain ⟨y, hy, hyx⟩ := List.mem_map.1 this
      rw [← hyx]
      exact h.born y hy
end Go.Proofs

/-! Layer 8, contracts: Blocks, told. -/
namespace Go.Proofs
open Go.Eng

def setB (vs : List Rv) : List Int := vs.foldl (fun ks v => if v.1 = 1 then addB ks v.2.1 else ks) []
def blocksV (vs : List Rv) : List Int := sortI (setB vs)

theorem addB_len (ks : List Int) (k : Int) : (addB ks k).length ≤ ks.length + 1 := by unfold addB; split <;> simp
theorem setB_snoc (vs : List Rv) (v : Rv) : setB (vs ++ [v]) = if v.1 = 1 then addB (setB vs) v.2.1 else setB vs := by simp [setB, List.foldl_append]
theorem setB_len : ∀ (vs : List Rv), (setB vs).length ≤ vs.length := by
  intro vs
  unfold setB
  suffices ∀ (vs : List Rv) (ks : List Int), (vs.foldl (fun ks v => if v.1 = 1 then addB ks v.2.1 else ks) ks).length ≤ ks.length + vs.length by simpa using this vs []
  intro vs
  induction vs with
  | nil => intro ks; simp
  | cons v vs ih =>
    intro ks
    rw [List.foldl_cons, List.length_cons]
    have h1 := ih (if v.1 = 1 then addB ks v.2.1 else ks)
    have h2 := addB_len ks v.2.1
    have h3 : (if v.1 = 1 then addB ks v.2.1 else ks).length ≤ ks.length + 1 := by split <;> omega
    omega

theorem C29 (s : Sl) (xs : List Rc) (w : World) (h : RL w s xs) (hl : s.len ≤ 1000000) : Calls Try.prog 29 #[.slice s.a s.len s.cap] w
    (RetT [.c .any] fun r w' => (∃ M, IterI r M (fun l => l = blocksV (xs.map rv)) false ∧ ∀ W, Grow w' W → M W) ∧ Grow w w') := by
  refine F29_calls s _ _ ?_
  unfold F29
  rw [nw_def]
  have hsl := h.len
  have hgm : Grow w (w.alloc (.map #[] 0)) := (Mod.refl _ w).alloc _
  refine loop_of (fun i W => ∃ j : Nat, i = j ∧ j ≤ xs.length ∧ Grow w W ∧ ∃ es clock, MapI W w.heap.size es clock (setB ((xs.take j).map rv))) (fun i _ => xs.length - i.toNat)
    ⟨0, rfl, by omega, hgm, #[], 0, heap_alloc_new _ _, by simp, by simp, by simp [setB, ints], by simp [setB]⟩ ?_
  rintro _ W ⟨j, rfl, hj, hg, es, clock, hm⟩
  refine br_of (fun hlt => ?_) (fun hge => ?_)
  · simp only [decide_eq_true_eq] at hlt
    have hjl : j < xs.length := by omega
    have hstep : setB ((xs.take (j + 1)).map rv) = if xs[j].1.k = 1 then addB (setB ((xs.take j).map rv)) xs[j].1.b else setB ((xs.take j).map rv) := by
      rw [take_succ' hjl, List.map_append, List.map_cons, List.map_nil, setB_snoc]
      rfl
    refine jn_of (fun _ W' => Grow w W' ∧ ∃ es clock, MapI W' w.heap.size es clock (setB ((xs.take (j + 1)).map rv))) ?_ ?_
    rotate_left
    · rintro ⟨⟩ W' ⟨h1, h2⟩
      rw [wrap_succ (by omega)]
      exact ⟨⟨j + 1, rfl, hjl, h1, h2⟩, by omega⟩
    refine rec_of (⟨h.1.grow hg, fun x hx => (h.2 x hx).grow hg⟩ : RL _ s xs) hjl ?_
    refine nw_of fun r w2 g2 e2 s2 bx => ?_
    simp only [deref_some']
    have hgst : ∀ {w4 w5 : World}, Grow W w4 → Mod (· = r) w4 w5 → Grow W w5 := fun h4 h5 => Mod.trans h4 h5 fun c hc1 hc2 => by omega
    refine bx.st (by simp) trivial fun w3 k3 m3 s3 => ?_
    refine k3.st (by simp) trivial fun w4 k4 m4 s4 => ?_
    refine k4.st (by simp) trivial fun w5 k5 m5 s5 => ?_
    refine k5.st (by simp) trivial fun w6 k6 m6 s6 => ?_
    refine k6.st (by simp) trivial fun w7 k7 m7 s7 => ?_
    have g7 : Grow W w7 := hgst (hgst (hgst (hgst (hgst g2 m3) m4) m5) m6) m7
    have hmlt : w.heap.size < W.heap.size := by
      rcases Nat.lt_or_ge w.heap.size W.heap.size with h' | h'
      · exact h'
      · have := hm.heap; rw [Array.getElem?_eq_none h'] at this; cases this
    have hm7 : MapI w7 w.heap.size es clock (setB ((xs.take j).map rv)) := ⟨(g7.same _ hmlt fun h => h).trans hm.heap, hm.born, hm.nod, hm.keys, hm.knod⟩
    have hg7 := Grow.trans hg g7
    refine k7.ld (i := 0) (s := .int .i64) (p := xs[j].1.k) rfl ?_
    refine br_of (fun hk1 => ?_) (fun hk1 => ?_)
    · simp only [beq_iff_eq] at hk1
      refine k7.ld (i := 1) (s := .int .i64) (p := xs[j].1.b) rfl ?_
      refine put_int hm7 fun w8 es' clock' h8 m8 _ => ?_
      refine ⟨Mod.trans hg7 m8 fun c hc1 hc2 => by omega, es', clock', ?_⟩
      rw [hstep, if_pos hk1]
      exact h8
    · simp only [beq_eq_false_iff_ne] at hk1
      refine ⟨hg7, es, clock, ?_⟩
      rw [hstep, if_neg hk1]
      exact hm7
  · simp only [decide_eq_false_iff_not] at hge
    rw [List.take_of_length_le (by omega)] at hm
    refine callF_of (C66 (some w.heap.size) W) ?_
    rintro v W1 ⟨b, rfl, hb, g1⟩
    have hmlt : w.heap.size < W.heap.size := by
      rcases Nat.lt_or_ge w.heap.size W.heap.size with h' | h'
      · exact h'
      · have := hm.heap; rw [Array.getElem?_eq_none h'] at this; cases this
    have hsb := setB_len (xs.map rv)
    rw [List.length_map] at hsb
    refine callF_of (C65 (iter_keys ⟨b, 0, none⟩ w.heap.size es clock (setB (xs.map rv)) hm.born hm.nod hm.keys hm.knod) W1 (fun W' hg' => ⟨(hb.grow hg').row 0 _ rfl, ((Grow.trans g1 hg').same _ hmlt fun h => h).trans hm.heap⟩) (by omega)) ?_
    rintro t W2 ⟨ht, g2⟩
    refine callF_of (C64 t W2) ?_
    rintro v W3 ⟨b3, rfl, hb3, g3⟩
    have hlen : (blocksV (xs.map rv)).length ≤ 1000000000 := by
      unfold blocksV
      rw [(sortI_perm _).length_eq]
      omega
    refine ⟨⟨_, iter_values ⟨b3, 0, none⟩ t (blocksV (xs.map rv)) hlen, fun W' hg' => ⟨(hb3.grow hg').row 0 _ rfl, (owns_ints ht).grow (Grow.trans g3 hg')⟩⟩, Grow.trans hg (Grow.trans g1 (Grow.trans g2 g3))⟩
end Go.Proofs

/-! Layer 8, contracts: told, slices.Equal at whole numbers. -/
namespace Go.Proofs
open Go.Eng

theorem C28 {v : Value} {M : World → Prop} {l : List Int} {own : Bool} (hv : IterI v M (fun xs => xs = l) own) (most : Int) (w : World) (hM : ∀ W, Grow w W → M W) (hN : l.length ≤ 1000000) (hm0 : 0 ≤ most) :
    Calls Try.prog 28 #[v, .int .i64 most] w (RetT [.c .slice] fun r w' => OwnS w' w.heap.size 1 r (ints (l.take most.toNat)) ∧ Grow w w') := by
  refine F28_calls v most _ _ ?_
  unfold F28
  have hv' := hv
  obtain ⟨f, caps, rfl, _, _⟩ := hv'
  refine ⟨trivial, nw_of fun b0 w1 g1 e1 s1 bx0 => ⟨trivial, nw_of fun b1 w2 g2 e2 s2 bx1 => ⟨.inl trivial, br_f rfl ?_⟩⟩⟩
  simp only [deref_some']
  have hb1 : ¬ book w2 own b1 := fun h => by have := h.1; omega
  have hb0 : ¬ book w2 own b0 := fun h => by have := h.1; omega
  have h02 : w.heap.size ≤ w2.heap.size := by omega
  have hg2 := Grow.trans g1 g2
  refine jn_of (fun s W => s.1 = [w2.heap.size] ∧ W.heap[w2.heap.size]? = some (.deferred (some [])) ∧ Acc w w2 own b1 (l.take most.toNat) W) ?_ ?_
  · refine rng_of hv (fun pre W => Acc w w2 own b1 pre W ∧ Box W b0 [.int .i64 most] ∧ pre.length ≤ most.toNat) (fun j W => j = some 0 ∧ Acc w w2 own b1 (l.take most.toNat) W)
      ⟨⟨⟨none, 0, 0⟩, bx1, OwnS.nil _ _ _, fun c ⟨ad, h, _⟩ => by (cases h), hg2⟩, bx0.grow g2, by simp⟩ (fun pre W W' h hm => ⟨h.1.keep h02 hb1 hm, h.2.1.mod hm hb0, h.2.2⟩) (fun j W W' h hm => ⟨h.1, h.2.keep h02 hb1 hm⟩) (fun pre W ⟨⟨t, _, _, _, h4⟩, _⟩ => hM W h4) ?_ ?_ ?_
    · intro l' pre k W0 bg nx lv hU hsuf hsz hbg
      refine hbg _ _ (Mod.refl _ _) fun W1 hm hs hnx hlv => ?_
      obtain ⟨suf, hs2⟩ := hsuf
      have hN2 := congrArg List.length hs2
      rw [List.length_append, List.length_cons] at hN2
      have hA := hU.1.keep h02 hb1 hm
      have hB := hU.2.1.mod hm hb0
      obtain ⟨t, h1, h2, h3, h4⟩ := hA
      have htl := (owns_ints h2).len
      have h1' : W1.cell? ⟨b1, 0, none⟩ = some (.slice t.a t.len t.cap) := h1.row 0 _ rfl
      refine ldC_of (s := .slice) (p := t) h1' ?_
      refine ldC_of (s := .int .i64) (p := most) (hB.row 0 _ rfl) ?_
      refine br_of (fun hge => ?_) (fun hlt => ?_)
      · simp only [ge_iff_le, decide_eq_true_eq] at hge
        refine hlv _ W1 (Mod.refl _ _) ⟨rfl, ?_⟩
        have hpl : pre.length = most.toNat := by have := hU.2.2; omega
        have hpre : l.take most.toNat = pre := by rw [← hs2, ← hpl]; simp
        rw [hpre]
        exact ⟨t, h1, h2, h3, h4⟩
      · simp only [ge_iff_le, decide_eq_false_iff_not] at hlt
        refine Acc.push (own := own) (w0 := w) (w1 := w2) (pre := pre) hb1 (by omega) ⟨t, h1, h2, h3, h4⟩ (by omega) (by omega) fun W2 hA2 hm2 hm3 => ?_
        refine hnx W2 hm2 ⟨hA2, hB.mod hm3 (by omega), ?_⟩
        simp only [List.length_append, List.length_singleton]
        omega
    · rintro xs W rfl ⟨hA, hB, hle⟩ hd
      refine ⟨rfl, hd, ?_⟩
      rw [List.take_of_length_le hle]
      exact hA
    · rintro j W ⟨rfl, hA⟩ hd
      exact ⟨rfl, hd, hA⟩
  rintro ⟨ds, ⟨⟩⟩ W ⟨hds, hd, t, h1, h2, h3, h4⟩
  dsimp only at hds
  subst hds
  refine ldC_of (s := .slice) (p := t) (h1.row 0 _ rfl) ⟨hd, ?_⟩
  have hp : Mod (fun b => b = w2.heap.size) W (W.putObj w2.heap.size (.deferred none)) := (Mod.refl _ W).putObj (.inl rfl)
  refine ⟨h2.mod hp fun ad ha hS => (h3 _ ⟨ad, ha, rfl⟩).1 ?_, Mod.trans h4 hp fun c hlt hc => by omega⟩
  rw [hS]
  exact ⟨Nat.le_refl _, by omega⟩

theorem C27 (s t : Sl) (a b : List Int) (w : World) (hs : IS w s a) (ht : IS w t b) (hb : s.len ≤ 1000000000) : Calls Try.prog 27 #[.slice s.a s.len s.cap, .slice t.a t.len t.cap] w
    (RetT [.c .bool] fun r w' => r = decide (a = b) ∧ Grow w w') := by
  refine F27_calls s t _ _ ?_
  unfold F27
  have hsl := hs.len
  have htl := ht.len
  refine br_of (fun h => ⟨?_, Mod.refl _ _⟩) (fun h => ?_)
  · simp only [bne_iff_ne, ne_eq] at h
    symm
    rw [decide_eq_false_iff_not]
    rintro rfl
    omega
  have hl : a.length = b.length := by
    simp only [bne_eq_false_iff_eq] at h
    omega
  refine loop_of (fun i w' => ∃ j : Nat, i = j ∧ j ≤ a.length ∧ Grow w w' ∧ ∀ k (h : k < j) (h1 : k < a.length) (h2 : k < b.length), a[k] = b[k]) (fun i _ => a.length - i.toNat)
    ⟨0, rfl, by omega, Mod.refl _ _, fun k h => by omega⟩ ?_
  rintro _ w1 ⟨j, rfl, hj, hg, hall⟩
  refine br_of (fun hlt => ?_) (fun hge => ⟨?_, hg⟩)
  · simp only [decide_eq_true_eq] at hlt
    have hja : j < a.length := by omega
    have hjb : j < b.length := by omega
    have hgd := Mod.drew hg
    refine iat_of (i := (j : Int)) (b := a[j]) (hs.grow hgd) (by omega) (by simp) ?_
    refine iat_of (i := (j : Int)) (b := b[j]) (ht.grow hgd) (by omega) (by simp) ?_
    refine br_of (fun hne => ⟨?_, hgd⟩) (fun heq => ?_)
    · simp only [bne_iff_ne, ne_eq] at hne
      symm
      rw [decide_eq_false_iff_not]
      rintro rfl
      exact hne rfl
    · simp only [bne_eq_false_iff_eq] at heq
      rw [wrap_succ (by omega)]
      refine ⟨⟨j + 1, rfl, hja, hgd, fun k h h1 h2 => ?_⟩, by omega⟩
      rcases Nat.lt_or_ge k j with h' | h'
      · exact hall k h' h1 h2
      · have : k = j := by omega
        subst this
        exact heq
  · simp only [decide_eq_false_iff_not] at hge
    symm
    rw [decide_eq_true_eq]
    exact List.ext_getElem hl fun k h1 h2 => hall k (by omega) h1 h2
end Go.Proofs
