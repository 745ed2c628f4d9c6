import Derived.Test.YtlenkeefncbmcaaF1
set_option linter.unusedVariables false
set_option linter.unusedSimpArgs false
set_option linter.unusedSectionVars false
/-! Layer 8, contracts, first part. -/
namespace Go.Proofs
open Go.Eng

def patchB (b o m : Int) (n : Nat) : Bool := decide (m = 0 ∧ 0 ≤ b ∧ b < 2048 ∧ 1 ≤ n ∧ n ≤ 44 ∧ 0 ≤ o ∧ o ≤ 256 - (n : Int))
def checkB (k b o m : Int) (n : Nat) : Bool := (k == 1 && patchB b o m n) || (k == 2 && decide (0 ≤ m ∧ m ≤ 65536 ∧ b = 0 ∧ o = 0 ∧ n = 0))

theorem C88 (k b o m : Int) (s : Sl) (w : World) : Calls Try.prog 88 #[.agg #[.int .i64 k, .int .i64 b, .int .i64 o, .slice s.a s.len s.cap, .int .i64 m]] w (RetT [.c .bool] fun r w' => r = patchB b o m s.len ∧ Grow w w') := by
  refine F88_calls _ _ _ _ _ _ _ ?_
  unfold F88
  simp [ldC, exS]
  have hg : ∀ o, Grow w (w.alloc o) := fun o => (Mod.refl _ w).alloc o
  have hw : (s.len : Int) ≤ 44 → IntKind.wrap .i64 (256 - (s.len : Int)) = 256 - s.len := fun h => wrap_i64 (by omega)
  repeat' split
  all_goals refine ⟨?_, hg _⟩
  all_goals simp only [patchB, Bool.false_eq, decide_eq_false_iff_not]
  all_goals first | omega | (rw [hw (by assumption)]; congr 1; apply propext; omega)

theorem C59 (k b o m : Int) (s : Sl) (w : World) : Calls Try.prog 59 #[.agg #[.int .i64 k, .int .i64 b, .int .i64 o, .slice s.a s.len s.cap, .int .i64 m]] w (RetT [.c (.int .i64)] fun r w' => r = (if checkB k b o m s.len then 0 else 60) ∧ Grow w w') := by
  refine F59_calls _ _ _ _ _ _ _ ?_
  unfold F59
  simp
  have hg : ∀ o, Grow w (w.alloc o) := fun o => (Mod.refl _ w).alloc o
  refine jn_of (fun r w' => r = checkB k b o m s.len ∧ Grow w w') ?_ ?_
  · simp [ldC, exS]
    split
    · rename_i hk
      subst hk
      refine ldA_of (p := (1, b, o, s, m)) (by simp [valA, readsAt]) ?_
      refine callF_of (C88 _ _ _ _ _ _) ?_
      rintro r w' ⟨rfl, h⟩
      exact ⟨by simp [checkB], Grow.trans (hg _) h⟩
    · rename_i hk
      repeat' split
      all_goals refine ⟨?_, hg _⟩
      all_goals simp only [checkB]
      all_goals (rw [Bool.eq_iff_iff]; simp_all; try omega)
  · rintro r w' ⟨rfl, h⟩
    refine br_of (fun h2 => ⟨?_, h⟩) (fun h2 => ⟨?_, h⟩) <;> simp_all

theorem C23 (k b o m : Int) (s : Sl) (w : World) : Calls Try.prog 23 #[.agg #[.int .i64 k, .int .i64 b, .int .i64 o, .slice s.a s.len s.cap, .int .i64 m]] w (RetT [.c (.int .i64)] fun r w' => r = (if checkB k b o m s.len then 0 else 60) ∧ Grow w w') := by
  refine F23_calls _ _ _ _ _ _ _ ?_
  unfold F23
  have hg : ∀ o, Grow w (w.alloc o) := fun o => (Mod.refl _ w).alloc o
  simp [ldC, exS]
  have hw : (s.len : Int) ≤ 44 → IntKind.wrap .i64 (256 - (s.len : Int)) = 256 - s.len := fun h => wrap_i64 (by omega)
  split
  · rename_i hk
    subst hk
    refine jn_of (fun r w' => r = checkB 1 b o m s.len ∧ Grow w w') ?_ ?_
    · simp [ldC, exS]
      repeat' split
      all_goals refine ⟨?_, hg _⟩
      all_goals simp only [checkB, patchB]
      all_goals (rw [Bool.eq_iff_iff]; simp_all; try omega)
    · rintro r w' ⟨rfl, h⟩
      exact br_of (fun h2 => ⟨h2, h⟩) (fun h2 => ⟨h2, h⟩)
  · split
    · rename_i _ hk
      subst hk
      refine jn_of (fun r w' => r = checkB 2 b o m s.len ∧ Grow w w') ?_ ?_
      · simp [ldC, exS]
        repeat' split
        all_goals refine ⟨?_, hg _⟩
        all_goals simp only [checkB]
        all_goals (rw [Bool.eq_iff_iff]; simp_all; try omega)
      · rintro r w' ⟨rfl, h⟩
        exact br_of (fun h2 => ⟨h2, h⟩) (fun h2 => ⟨h2, h⟩)
    · rename_i h1 h2
      exact ⟨by simp [checkB, h1, h2], hg _⟩

theorem C58 (k b o m : Int) (s : Sl) (w : World) : Calls Try.prog 58 #[.agg #[.int .i64 k, .int .i64 b, .int .i64 o, .slice s.a s.len s.cap, .int .i64 m]] w (RetT [.c .bool] fun r w' => r = !checkB k b o m s.len ∧ Grow w w') := by
  refine F58_calls _ _ _ _ _ _ _ ?_
  unfold F58
  simp
  refine ldA_of (p := (k, b, o, s, m)) (by simp [valA, readsAt]) ?_
  refine callF_of (C59 _ _ _ _ _ _) ?_
  rintro r w' ⟨rfl, h⟩
  exact ⟨by cases checkB k b o m s.len <;> rfl, Grow.trans ((Mod.refl _ w).alloc _) h⟩

/-! ### records -/

structure Rw where
  k : Int
  b : Int
  o : Int
  s : Sl
  m : Int

def Rw.cells (r : Rw) : List Value := [.int .i64 r.k, .int .i64 r.b, .int .i64 r.o, .slice r.s.a r.s.len r.s.cap, .int .i64 r.m]
@[simp] theorem Rw.cells_len (r : Rw) : r.cells.length = 5 := rfl
def Rw.p (r : Rw) : Int × Int × Int × Sl × Int := (r.k, r.b, r.o, r.s, r.m)
def Rw.ok (r : Rw) : Bool := checkB r.k r.b r.o r.m r.s.len

theorem Rw.reads {w : World} {r : Rw} {a : Addr} (h : Row w a r.cells) : readsAt w a 0 (valA [.int .i64, .int .i64, .int .i64, .slice, .int .i64] r.p) := readsAt_row.2 h

abbrev RS := SS Rw.cells

theorem C87 (s : Sl) (rs : List Rw) (w : World) (h : RS w s rs) (hl : s.len ≤ 1000000) : Calls Try.prog 87 #[.slice s.a s.len s.cap, .func (.func 58) #[] #[]] w
    (RetT [.c (.int .i64)] fun r w' => (0 ≤ r ↔ ∃ x ∈ rs, x.ok = false) ∧ Grow w w') := by
  refine F87_calls s (.func (.func 58) #[] #[]) _ _ ?_
  unfold F87
  refine loop_of (fun i w' => ∃ j : Nat, i = j ∧ j ≤ rs.length ∧ Grow w w' ∧ ∀ k x, k < j → rs[k]? = some x → x.ok = true) (fun i _ => (s.len : Int).toNat - i.toNat) ⟨0, rfl, by omega, Mod.refl _ _, fun k x hk => by omega⟩ ?_
  rintro _ w1 ⟨j, rfl, hj, hg, hall⟩
  have hlen := h.len
  refine br_of (fun hlt => ?_) (fun hge => ?_)
  · simp only [decide_eq_true_eq] at hlt
    have hjl : j < rs.length := by omega
    obtain ⟨ad, ha, hrow⟩ := (h.grow hg).get (n := 5) Rw.cells_len (i := j) (r := rs[j]) (by simp [hjl]) (by omega)
    refine ⟨⟨by omega, hlt⟩, ?_⟩
    rw [ha]
    simp only [deref_some, Int.toNat_natCast]
    refine ldA_of (p := rs[j].p) (Rw.reads hrow) ?_
    refine .inl ⟨58, #[], #[], rfl, by kernel_rfl, ?_⟩
    refine Calls.mono (C58 _ _ _ _ _ _) ?_
    rintro e w2 ⟨p, rfl, rfl, hg2⟩
    refine ⟨_, rfl, ?_⟩
    refine br_of (fun hb => ?_) (fun hb => ?_)
    · refine ⟨⟨fun _ => ⟨rs[j], by simp, by simpa [Rw.ok, Rw.p] using hb⟩, fun _ => Int.natCast_nonneg _⟩, Grow.trans hg hg2⟩
    · have hw : IntKind.wrap .i64 ((j : Int) + 1) = ((j + 1 : Nat) : Int) := by rw [wrap_i64 (by omega)]; rfl
      rw [hw]
      refine ⟨⟨j + 1, rfl, by omega, Grow.trans hg hg2, fun k x hk hx => ?_⟩, by omega⟩
      rcases Nat.lt_or_ge k j with h' | h'
      · exact hall k x h' hx
      · have : k = j := by omega
        subst this
        simp [hjl] at hx
        subst hx
        simpa [Rw.ok, Rw.p] using hb
  · simp only [decide_eq_false_iff_not] at hge
    refine ⟨⟨fun h => absurd (show (0 : Int) ≤ -1 from h) (by decide), fun ⟨x, hx, hok⟩ => ?_⟩, hg⟩
    obtain ⟨k, hk, rfl⟩ := List.getElem_of_mem hx
    have := hall k rs[k] (by omega) (by simp)
    rw [this] at hok
    cases hok

theorem C57 (s : Sl) (rs : List Rw) (w : World) (h : RS w s rs) (hl : s.len ≤ 1000000) : Calls Try.prog 57 #[.slice s.a s.len s.cap, .func (.func 58) #[] #[]] w
    (RetT [.c .bool] fun r w' => r = rs.any (fun x => !x.ok) ∧ Grow w w') := by
  refine F57_calls s (.func (.func 58) #[] #[]) _ _ ?_
  unfold F57
  refine callF_of (C87 s rs w h hl) ?_
  rintro r w' ⟨h1, h2⟩
  refine ⟨?_, h2⟩
  rw [Bool.eq_iff_iff]
  simp only [decide_eq_true_eq, List.any_eq_true, Bool.not_eq_true']
  exact h1

theorem C15 (s : Sl) (l : List UInt8) (w : World) (h : BS w s l) (hl : s.len ≤ 100000000000000) : Calls Try.prog 15 #[.slice s.a s.len s.cap] w
    (RetT [.c .slice] fun r w' => OwnS w' w.heap.size 1 r (l.map ub) ∧ (s.a = none → r.a = none) ∧ Grow w w') := by
  refine F15_calls s _ _ ?_
  unfold F15
  refine ⟨trivial, br_of (fun hn => ?_) (fun hn => ?_)⟩
  · have ha : s.a = none := by simpa using hn
    have h0 := h.none_len ha
    have hl0 : l = [] := List.eq_nil_of_length_eq_zero (by rw [← h.len, h0])
    subst hl0
    exact ⟨OwnS.nil _ _ _, fun _ => rfl, Mod.refl _ _⟩
  · have ha : s.a ≠ none := fun h => by simp [h] at hn
    refine app_own (n0 := w.heap.size) (vs := []) (new := l.map ub) ⟨by simp, by simp, .inr ⟨w.heap.size, 0, [], rfl, Nat.le_refl _, by simp, fun o => by simp, Row.nil _ _, rfl⟩⟩ (by simp) (fun _ => by simp [h.len]) (fun hx => absurd hx ha)
      (h.row.grow ((Mod.refl _ w).alloc _)) NotAgg_ub rfl (by decide) (by simp; omega) ?_
    intro r w' h1 h2 h3 h4 h5
    refine ⟨by simpa using h1, fun hx => absurd hx ha, Mod.trans ((Mod.refl _ w).alloc _) h5 ?_⟩
    rintro b hb ⟨ad, had, rfl⟩
    simp only [Option.some.injEq] at had
    subst had
    exact absurd hb (Nat.lt_irrefl _)

theorem C18 (s t : Sl) (l m : List UInt8) (w : World) (h : BS w s l) (h2 : BS w t m) : Calls Try.prog 18 #[.slice s.a s.len s.cap, .slice t.a t.len t.cap] w
    (RetT [.c .bool] fun r w' => r = (l == m) ∧ w' = w) := by
  refine F18_calls s t _ _ ?_
  unfold F18
  refine b2s_of h (b2s_of h2 ?_)
  simp
end Go.Proofs
