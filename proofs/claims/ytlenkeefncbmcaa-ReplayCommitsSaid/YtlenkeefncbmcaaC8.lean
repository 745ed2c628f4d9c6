import Derived.Test.YtlenkeefncbmcaaC7
set_option linter.unusedVariables false
set_option linter.unusedSimpArgs false
set_option linter.unusedSectionVars false
/-! Layer 8, contracts: the law's own test of a page (begun). -/
namespace Go.Proofs
open Go.Eng

def redoV (blk : Int) (p : List UInt8) (vs : List Rv) : List UInt8 := vs.foldl (fun p v => if v.2.1 = blk then lay p v.2.2.1.toNat v.2.2.2.2 else p) p
def redoEV (p : List UInt8) (vs : List Rv) : Int := if p.length ≠ 256 then 1 else if vs.any (fun v => !okV v) then 60 else 0

theorem redoF_rv (blk : Int) : ∀ (xs : List Rc) (p : List UInt8), redoF blk p xs = redoV blk p (xs.map rv)
  | [], p => rfl
  | x :: xs, p => by
    unfold redoF redoV
    rw [List.foldl_cons, List.map_cons, List.foldl_cons]
    exact redoF_rv blk xs _

theorem redoE_rv {w : World} {s : Sl} {xs : List Rc} (h : RL w s xs) (p : List UInt8) : redoE p xs = redoEV p (xs.map rv) := by
  unfold redoE redoEV
  rw [List.any_map]
  have : xs.any (fun x => !x.1.ok) = xs.any ((fun v => !okV v) ∘ rv) := by
    rw [Bool.eq_iff_iff, List.any_eq_true, List.any_eq_true]
    constructor
    · rintro ⟨x, hx, h2⟩
      exact ⟨x, hx, by simpa [okV_rv (h.2 x hx)] using h2⟩
    · rintro ⟨x, hx, h2⟩
      exact ⟨x, hx, by simpa [okV_rv (h.2 x hx)] using h2⟩
  rw [this]

/-- a field of a record of a list -/
theorem fld_of {w : World} {s : Sl} {xs : List Rc} {j i : Nat} {c : CS} {p : PayC c} {k : PayC c → Pr} (h : RL w s xs) (hj : j < xs.length) (hi : xs[j].1.cells[i]? = some (valC c p)) (hk : k p w) :
    (owe ((0 : Int) ≤ (j : Int) ∧ (j : Int) < (s.len : Int)) <| deref s.a fun a => deref (some (a.add (Int.toNat j * 5))) fun a1 => deref (some (a1.add i)) fun a2 => ldC c a2 k) w := by
  have hl := h.len
  obtain ⟨ad, ha, hrow⟩ := h.1.get (n := 5) Rw.cells_len (i := j) (r := xs[j].1) (by simp [hj]) (by omega)
  refine ⟨by omega, ?_⟩
  rw [ha]
  simp only [deref_some', Int.toNat_natCast]
  exact ldC_of (hrow.get hi) hk

theorem mk_own {w : World} {n : Nat} {k : Sl → Pr} (h : n ≤ 1000000000) (hk : ∀ r w', OwnS w' w.heap.size 1 r ((List.replicate n (0 : UInt8)).map ub) → Grow w w' → r.len = n → k r w') : mkS 5 1 [.int .u8 0] (n : Int) (n : Int) k w := by
  refine ⟨by omega, by omega, by omega, by omega, ?_⟩
  have hz : (zc [.int .u8 0] n) = (List.replicate n (0 : UInt8)).map ub := by
    clear hk h
    simp only [zc, List.map_replicate]
    induction n with
    | zero => rfl
    | succ n ih =>
      rw [List.replicate_succ, List.flatten_cons, ih, List.replicate_succ]
      rfl
  simp only [Int.toNat_natCast]
  rw [hz]
  refine hk _ _ ⟨by simp, by simp, .inr ⟨w.heap.size, 0, [], rfl, Nat.le_refl _, by simp, fun o => World.frozen?_alloc_new _ _ _ _, fun j v hj => ?_, by simp⟩⟩ ((Mod.refl _ w).alloc _) rfl
  rw [add_mk, Nat.zero_add, World.cell?_alloc_new, List.getElem?_toArray]
  simpa using hj

theorem C56 (s : Sl) (xs : List Rc) (w : World) (h : RL w s xs) (hl : s.len ≤ 1000000) : Calls Try.prog 56 #[.slice s.a s.len s.cap] w (RetT [.c .slice] fun r w' => OwnS w' w.heap.size 5 r (rcs xs) ∧ Grow w w') := by
  refine F56_calls s _ _ ?_
  unfold F56
  have hlen : (rcs xs).length = xs.length * 5 := by rw [rcs_map, flatMap_len Rw.cells_len]; simp
  have hsl := h.len
  refine ⟨trivial, br_of (fun hn => ?_) (fun hn => ?_)⟩
  · have ha : s.a = none := by simpa using hn
    have h0 := h.1.none_len Rw.cells_len (by decide) ha
    have hl0 : xs = [] := List.eq_nil_of_length_eq_zero (by omega)
    subst hl0
    exact ⟨OwnS.nil _ _ _, Mod.refl _ _⟩
  · have ha : s.a ≠ none := fun h => by simp [h] at hn
    have hrow := h.1.row
    rw [← rcs_map] at hrow
    refine app_own (n0 := w.heap.size) (vs := []) (new := rcs xs) ⟨by simp, by simp, .inr ⟨w.heap.size, 0, [], rfl, Nat.le_refl _, by simp, fun o => by simp, Row.nil _ _, rfl⟩⟩ (by simp) (fun _ => by omega) (fun hx => absurd hx ha)
      (hrow.grow ((Mod.refl _ w).alloc _)) (rcs_na _) rfl (by decide) (by simp; omega) ?_
    intro r w' h1 h2 h3 h4 h5
    refine ⟨by simpa using h1, Mod.trans ((Mod.refl _ w).alloc _) h5 ?_⟩
    rintro b hb ⟨ad, had, rfl⟩
    simp only [Option.some.injEq] at had
    subst had
    exact absurd hb (Nat.lt_irrefl _)

/-- one byte of an owned slice of bytes is written -/
theorem put_of {w : World} {n0 : Nat} {s : Sl} {l : List UInt8} {k : Pr} {i : Int} {b : UInt8} (h : OwnS w n0 1 s (l.map ub)) (h0 : 0 ≤ i) (hi : i.toNat < l.length)
    (hk : ∀ w', OwnS w' n0 1 s ((l.set i.toNat b).map ub) → Mod s.blk w w' → w'.heap.size = w.heap.size → k w') :
    (owe ((0 : Int) ≤ i ∧ i < (s.len : Int)) <| deref s.a fun a => deref (some (a.add (Int.toNat i * 1))) fun a1 => st a1 (.int .u8 (b.toNat : Int)) k) w := by
  have hl := h.bs.len
  refine ⟨⟨h0, by omega⟩, ?_⟩
  obtain ⟨ad, h1, h2⟩ := OwnS.put (k := k) (v := .int .u8 (b.toNat : Int)) h (by simpa using hi) trivial (fun w' g1 g2 g3 => hk w' (by rw [List.map_set]; exact g1) g2 g3)
  rw [h1]
  simp only [deref_some', Nat.mul_one]
  exact h2

def old0 : List UInt8 := List.replicate 256 0
def now0 : List UInt8 := ((old0.set 3 1).set 5 1).set 50 1
def cut0 : List Rv := [(1, 7, 3, 0, [1, 0, 1]), (1, 7, 50, 0, [1])]

theorem cut0_eq : cutV 7 old0 now0 = cut0 := by decide +kernel
theorem cut0_E : cutE 7 old0 now0 = 0 := by decide +kernel
theorem redo0 : redoV 7 old0 cut0 = now0 := by decide +kernel
theorem redo0_E : redoEV old0 cut0 = 0 := by decide +kernel
theorem com0 : com (cut0 ++ [(2, 0, 0, 2, [])]) = (cut0, 3) := Prod.ext (by decide +kernel) (by decide +kernel)

theorem C13 (w : World) : Calls Try.prog 13 #[] w (RetT [.c .bool] fun r w' => r = true ∧ Grow w w') := by
  refine F13_calls _ _ ?_
  unfold F13
  refine jn_of (fun s w' => OwnS w' w.heap.size 1 s.1 (old0.map ub) ∧ OwnS w' w.heap.size 1 s.2 (old0.map ub) ∧ Apart s.1 s.2 ∧ Grow w w') ?_ ?_
  · have hap : ∀ {w1 w2 : World} {s t : Sl} {vs us : List Value}, OwnS w1 w.heap.size 1 s vs → OwnS w2 w1.heap.size 1 t us → Apart s t := by
      intro w1 w2 s t vs us h1 h2 b hb1 hb2
      have := OwnS.blk_lt h1 hb1
      have := OwnS.blk_le h2 hb2
      omega
    refine ⟨?_, ?_⟩
    · refine mk_own (n := 256) (by decide) fun r w1 h1 g1 _ => mk_own (n := 256) (by decide) fun r2 w2 h2 g2 _ => ?_
      exact ⟨h1.grow g2, h2.weaken g1.size, hap h1 h2, Grow.trans ((Mod.refl _ w).drew) (Grow.trans g1 g2)⟩
    · refine mk_own (n := 256) (by decide) fun r w1 h1 g1 _ => mk_own (n := 256) (by decide) fun r2 w2 h2 g2 _ => ?_
      exact ⟨h2.weaken g1.size, h1.grow g2, (hap h1 h2).symm, Grow.trans ((Mod.refl _ w).drew) (Grow.trans g1 g2)⟩
  rintro ⟨s, t⟩ w1 ⟨hs, ht, hap, hg1⟩
  dsimp only at hs ht hap ⊢
  refine put_of (i := 3) (b := 1) ht (by decide) (by decide +kernel) fun w2 t2 m2 _ => ?_
  refine put_of (i := 5) (b := 1) t2 (by decide) (by decide +kernel) fun w3 t3 m3 _ => ?_
  refine put_of (i := 50) (b := 1) t3 (by decide) (by decide +kernel) fun w4 t4 m4 _ => ?_
  have m14 : Mod t.blk w1 w4 := Mod.trans (Mod.trans m2 m3 fun _ _ h => h) m4 fun _ _ h => h
  have hg4 : Grow w w4 := Mod.trans hg1 m14 fun b hb hb2 => absurd (OwnS.blk_le ht hb2) (by omega)
  have hs4 := hs.mod m14 fun ad ha hS => hap _ ⟨ad, ha, rfl⟩ hS
  have ht4 : OwnS w4 w.heap.size 1 t (now0.map ub) := t4
  refine callF_of (C19 7 s t old0 now0 w4 hs4.bs ht4.bs ht4.le) ?_
  rintro ⟨l, e⟩ w5 ⟨he, ⟨xs, hx, hv⟩, g5⟩
  dsimp only at he hx ⊢
  rw [cut0_E] at he
  rw [cut0_E, if_pos rfl, cut0_eq] at hv
  subst he
  have hg5 := Grow.trans hg4 g5
  have hxl : xs.length = 2 := by
    have := congrArg List.length hv
    simpa [cut0] using this
  have hll := hx.len
  refine callF_of (C16 s l 7 old0 xs w5 (hs4.grow g5).bs hx.rl (by omega)) ?_
  rintro ⟨p, f⟩ w6 ⟨hf, hp, g6⟩
  dsimp only at hf hp ⊢
  rw [redoE_rv hx.rl, hv, redo0_E] at hf
  rw [redoE_rv hx.rl, hv, redo0_E, if_pos rfl, redoF_rv, hv, redo0] at hp
  subst hf
  have hx6 := hx.grow g6
  refine callF_of (C56 l xs w6 hx6.rl (by omega)) ?_
  rintro q w7 ⟨hq, g7⟩
  refine nw_of fun b w8 g8 e8 s8 b8 => ?_
  have g68 := Grow.trans g7 g8
  have hcl : (rcs xs).length = 10 := by rw [rcs_map, flatMap_len Rw.cells_len]; simp [hxl]
  have hql := hq.len
  refine app_own (n0 := w6.heap.size) (vs := rcs xs) (new := rcs [((⟨2, 0, 0, ⟨none, 0, 0⟩, 2⟩ : Rw), [])]) (hq.grow g8) g68.size (fun _ => rfl) (fun h => by cases h) (readsAt_row.2 b8.row) (rcs_na _) rfl (by decide) (by dsimp only; omega) ?_
  intro q2 w9 h9 _ _ _ m9
  have g69 : Grow w6 w9 := Mod.trans g68 m9 fun b hb hb2 => absurd (OwnS.blk_le hq hb2) (by omega)
  rw [← rcs_append] at h9
  have hr9 : RL w9 q2 (xs ++ [((⟨2, 0, 0, ⟨none, 0, 0⟩, 2⟩ : Rw), [])]) := by
    refine ⟨OwnS.ss Rw.cells_len (by decide) (n0 := w6.heap.size) (by rw [← rcs_map]; exact h9), fun x hx' => ?_⟩
    rcases List.mem_append.1 hx' with hx' | hx'
    · exact (hx6.rl.2 x hx').grow g69
    · rw [List.mem_singleton] at hx'
      subst hx'
      exact BS.nil _ _
  refine callF_of (C24 q2 _ w9 hr9 (by rw [hr9.len]; simp [hxl])) ?_
  rintro ⟨q3, n⟩ w10 ⟨hn, ⟨ys, hy, hyv⟩, g10⟩
  dsimp only at hn hy ⊢
  rw [List.map_append, hv] at hn hyv
  change n = (com (cut0 ++ [(2, 0, 0, 2, [])])).2 at hn
  change ys.map rv = (com (cut0 ++ [(2, 0, 0, 2, [])])).1 at hyv
  rw [com0] at hn hyv
  subst hn
  have hyl : ys.length = 2 := by
    have := congrArg List.length hyv
    simpa [cut0] using this
  have hyl2 := hy.len
  have g610 := Grow.trans g69 g10
  have hg10 := Grow.trans hg5 (Grow.trans g6 g610)
  have hx10 := hx6.grow g610
  have h0 : rv xs[0] = (1, 7, 3, 0, [1, 0, 1]) := by
    have := congrArg (fun l => l[0]?) hv
    simpa [hxl, cut0] using this
  refine br_t rfl (br_t ?_ ?_)
  · rw [beq_iff_eq]; omega
  refine fld_of (j := 0) (i := 2) (c := .int .i64) (p := xs[0].1.o) hx10.rl (by omega) rfl ?_
  have ho : xs[0].1.o = 3 := congrArg (fun v => v.2.2.1) h0
  refine br_t (by rw [ho]; rfl) ?_
  refine fld_of (j := 0) (i := 3) (c := .slice) (p := xs[0].1.s) hx10.rl (by omega) rfl ?_
  refine nw_of fun bb w11 g11 _ _ b11 => ?_
  have hx11 := hx10.grow g11
  have hd : BS w11 xs[0].1.s [1, 0, 1] := by
    have h1 := hx11.rl.2 xs[0] (by simp)
    have h2 : xs[0].2 = [1, 0, 1] := congrArg (fun v => v.2.2.2.2) h0
    rwa [h2] at h1
  have hlit : BS w11 ⟨some ⟨bb, 0, none⟩, 3, 3⟩ [1, 0, 1] := ⟨rfl, readsAt_row.2 b11.row⟩
  refine callF_of (C18 xs[0].1.s ⟨some ⟨bb, 0, none⟩, 3, 3⟩ _ [1, 0, 1] w11 hd hlit) ?_
  rintro _ _ ⟨rfl, rfl⟩
  refine br_t rfl (br_t rfl ?_)
  have g611 := Grow.trans g610 g11
  have hp11 := (hp.grow g611).bs
  have ht11 := (ht4.grow (Grow.trans (Grow.trans g5 g6) g611)).bs
  refine callF_of (C18 _ _ now0 now0 _ hp11 ht11) ?_
  rintro b12 w12 ⟨h12, h12'⟩
  have h12t : b12 = true := h12.trans (beq_self_eq_true now0)
  clear h12
  subst h12t
  subst h12'
  refine br_t (by simp) (br_t ?_ ⟨rfl, Grow.trans hg10 g11⟩)
  rw [beq_iff_eq]; omega
end Go.Proofs
