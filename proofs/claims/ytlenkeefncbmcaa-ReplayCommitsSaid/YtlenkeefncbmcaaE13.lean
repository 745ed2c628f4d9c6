import Derived.Test.YtlenkeefncbmcaaE12
set_option linter.unusedVariables false
set_option linter.unusedSimpArgs false
set_option linter.unusedSectionVars false
/-! The engine, part 13: regions in whatever order, soundness. -/
namespace Go.Eng
section
variable {P : Program} {ops : Array Oper} {e : Env} {a : Act} {w : World}

theorem cop_rt_read {o : Oper} {k : EV → Pr} (hr : isRead o = true) (he : Ag e a) (h : cop P o e k w) : RT P (execOp a.eval o) w (NX k) := by
  rcases Classical.em (∀ c, o.op ≠ .call c) with hno | hno
  · exact cop_rt he h hno
  obtain ⟨c, hc⟩ : ∃ c, o.op = .call c := Classical.byContradiction fun h => hno fun c hc => h ⟨c, hc⟩
  obtain ⟨dst, op, ty, pos, after, guard⟩ := o
  dsimp only at hc
  subst hc
  obtain ⟨callee, args, ats⟩ := c
  have hargs : (args.toList.map a.eval).toArray = args.map a.eval := by rw [← Array.toList_map, Array.toArray_toList]
  cases callee with
  | builtin b =>
    simp only [cop] at h
    have h1 := ndL_sound he h
    unfold execOp
    dsimp only
    unfold resolve
    dsimp only
    refine .bind (.pure ?_)
    dsimp only [invoke]
    rw [← hargs]
    exact run_builtin h1
  | value x => simp [isRead] at hr
  | invoke _ _ => simp [isRead] at hr

theorem cOne_read {i : Nat} {o : Oper} {k : Env → Pr} (hr : isRead o = true) (he : Ag e a) (hi : ops[i]? = some o) (h : cOne P ops o e k w) :
    ∃ v e', YR P ops o v a w ∧ Ag e' (a.put o.dst v) ∧ Ext (wrOps ops) e e' ∧ k e' w := by
  rcases cOne_cases he hi h with ⟨hw, e1, he1, hx, h1⟩ | ⟨hw, e1, he1, hx, h1⟩
  · obtain ⟨nx, w', h2, h3⟩ := cop_rt_read hr he1 (cop_same hr h1)
    cases nx <;> simp only [NX] at h3 <;> try exact h3.elim
    · obtain ⟨x, hg, hk, rfl⟩ := h3
      exact ⟨_, _, .inl ⟨hw, _, h2, rfl⟩, he1.put o.dst hg, Ext.put' hi hx, hk⟩
    · obtain ⟨hk, rfl⟩ := h3
      exact ⟨_, _, .inl ⟨hw, _, h2, rfl⟩, he1.put_no o.dst _, Ext.put' hi hx, hk⟩
  · exact ⟨undef, _, .inr ⟨hw, rfl⟩, he1.put_no o.dst _, Ext.put' hi hx, h1⟩

theorem cOne_pure {i : Nat} {o : Oper} {k : Env → Pr} (hr : isPure P o = true) (he : Ag e a) (hi : ops[i]? = some o) (h : cOne P ops o e k w) :
    ∃ v e', YP P ops o v a ∧ Ag e' (a.put o.dst v) ∧ Ext (wrOps ops) e e' ∧ k e' w := by
  rcases cOne_cases he hi h with ⟨hw, e1, he1, hx, h1⟩ | ⟨hw, e1, he1, hx, h1⟩
  · obtain ⟨x, v, hxv, hk, hall⟩ := cop_any hr h1
    have hrun : ∀ w', (execOp a.eval o).run P w' = .ok (.value v) w' := by
      intro w'
      obtain ⟨nx, w2, h2, h3⟩ := cop_rt_read (isPure_read hr) he1 (hall (fun y w'' => y = x ∧ w'' = w') w' ⟨rfl, rfl⟩)
      cases nx <;> simp only [NX] at h3 <;> try exact h3.elim
      · obtain ⟨y, hg, rfl, rfl⟩ := h3
        rw [h2, hg v hxv]
      · obtain ⟨rfl, rfl⟩ := h3
        simp [EV.v?] at hxv
    exact ⟨v, _, .inl ⟨hw, hrun⟩, he1.put o.dst (fun u hu => by rw [hxv] at hu; simpa using hu.symm), Ext.put' hi hx, hk⟩
  · exact ⟨undef, _, .inr ⟨hw, rfl⟩, he1.put_no o.dst _, Ext.put' hi hx, h1⟩

/-! ### the choice of what is taken first -/

def blkL (ops : Array Oper) (listed : Array Bool) (i : Nat) : List Nat → List Nat → List Nat
  | [], acc => acc
  | j :: js, acc =>
    match ops[j]? with
    | some o => match !listed.getD j true && o.after.toList.any (fun e => Region.binds .any e && (e.on == i || acc.contains e.on)) with
      | true => blkL ops listed i js (j :: acc)
      | false => blkL ops listed i js acc
    | none => blkL ops listed i js acc

def besideB (P : Program) (ops : Array Oper) (listed : Array Bool) (i : Nat) (oi : Oper) (B : List Nat) (j : Nat) : Bool :=
  j == i || listed.getD j true || B.contains j ||
  match ops[j]? with
  | some oj => oi.apart ops oj && (isPure P oi || isRead oj)
  | none => true

def takeable (P : Program) (ops : Array Oper) (listed : Array Bool) (i : Nat) : Bool :=
  match ops[i]? with
  | some oi => isRead oi && (List.range ops.size).all (besideB P ops listed i oi (blkL ops listed i (List.range ops.size) []))
  | none => false

def tru : Pr := fun _ => True

def allP : List Nat → (Nat → Pr) → Pr
  | [], _ => tru
  | [i], f => f i
  | i :: j :: l, f => both (f i) (allP (j :: l) f)

theorem allP_sound {f : Nat → Pr} : ∀ {l : List Nat}, allP l f w → ∀ i ∈ l, f i w
  | [], _, _, h => by cases h
  | [_], h, i, hi => by rw [List.mem_singleton] at hi; subst hi; exact h
  | _ :: _ :: _, h, i, hi => by
    rcases List.mem_cons.1 hi with rfl | hi
    · exact h.1
    · exact allP_sound h.2 i hi

def cSel (rs : List Nat) (t : Option Nat) (z : Pr) (f : Nat → Pr) : Pr :=
  match rs with
  | [] => z
  | _ :: _ => match t with
    | some i => f i
    | none => allP rs f

def cDraw (P : Program) (ops : Array Oper) : Nat → Array Bool → Env → (Env → Pr) → Pr
  | 0, listed, e, k => cSel (Region.ready .any ops listed) none (k e) (fun _ => fls)
  | fuel + 1, listed, e, k => cSel (Region.ready .any ops listed) ((Region.ready .any ops listed).find? (takeable P ops listed)) (k e)
      (fun i => opt (ops[i]?) fun o => cOne P ops o e fun e' => cDraw P ops fuel (listed.setIfInBounds i true) e' k)

theorem blkL_spec {listed : Array Bool} {i : Nat} : ∀ (js acc : List Nat), (∀ j ∈ acc, listed.getD j true = false ∧ ∃ oj, ops[j]? = some oj ∧ ∃ e ∈ oj.after, Region.binds .any e = true ∧ (e.on = i ∨ e.on ∈ acc)) →
    ∀ j ∈ blkL ops listed i js acc, listed.getD j true = false ∧ ∃ oj, ops[j]? = some oj ∧ ∃ e ∈ oj.after, Region.binds .any e = true ∧ (e.on = i ∨ e.on ∈ blkL ops listed i js acc)
  | [], acc, h => h
  | j :: js, acc, h => by
    unfold blkL
    cases ho : ops[j]? with
    | none => simpa using blkL_spec js acc h
    | some o =>
      cases hc : !listed.getD j true && o.after.toList.any (fun e => Region.binds .any e && (e.on == i || acc.contains e.on)) with
      | false => simp only [hc]; exact blkL_spec js acc h
      | true =>
        simp only [hc]
        refine blkL_spec js (j :: acc) ?_
        intro m hm
        rcases List.mem_cons.1 hm with rfl | hm
        · simp only [Bool.and_eq_true, Bool.not_eq_true', List.any_eq_true, Bool.or_eq_true, beq_iff_eq, List.contains_iff_mem] at hc
          obtain ⟨h1, ed, h2, h3, h4⟩ := hc
          exact ⟨h1, o, ho, ed, by simpa using h2, h3, h4.imp id (fun h => List.mem_cons_of_mem _ h)⟩
        · obtain ⟨h1, oj, h2, ed, h3, h4, h5⟩ := h m hm
          exact ⟨h1, oj, h2, ed, h3, h4, h5.imp id (fun h => List.mem_cons_of_mem _ h)⟩

variable {n : Nat} {Q : Exit → Act → World → Prop}

theorem lt_of_some {j : Nat} {o : Oper} (h : ops[j]? = some o) : j < ops.size := by
  rcases Nat.lt_or_ge j ops.size with h' | h'
  · exact h'
  · simp [Array.getElem?_eq_none h'] at h

theorem cDraw_sound (hsel : Region.noSelect ops = true) (hQ : ∀ c a w, ¬ Q (.panic c) a w) : ∀ (fuel : Nat) (listed : Array Bool) (e : Env) (a : Act) (w : World) (k : Env → Pr), Ag e a → cDraw P ops fuel listed e k w →
    (∀ e' a' w', Ag e' a' → Ext (wrOps ops) e e' → k e' w' → Q .normal a' w') → wpAnyR P ops n Q fuel listed a w := by
  intro fuel
  induction fuel with
  | zero =>
    intro listed e a w k he h hk
    unfold cDraw at h
    cases hr : Region.ready .any ops listed with
    | nil => rw [hr] at h; exact ⟨hr, hk _ _ _ he (Ext.refl _ _) h⟩
    | cons i l =>
      rw [hr] at h
      exact (allP_sound (f := fun _ => fls) h i (by simp)).elim
  | succ fuel ih =>
    intro listed e a w k he h hk
    have step : ∀ i o, ops[i]? = some o → cOne P ops o e (fun e' => cDraw P ops fuel (listed.setIfInBounds i true) e' k) w → wpOpR P ops n Q i (wpAnyR P ops n Q fuel (listed.setIfInBounds i true)) a w := by
      intro i o hi h
      by_cases hr : isRead o = true
      · obtain ⟨v, e', hy, he', hx, h'⟩ := cOne_read hr he hi h
        exact wpOpR_yield hi hr hy (ih _ e' _ _ k he' h' fun e2 a2 w2 he2 hx2 h2 => hk _ _ _ he2 (hx.trans hx2 (fun _ h => h) (fun _ h => h)) h2)
      · have h2 : wpOpIn (wf none) n P ops Q i (wpAnyR P ops n Q fuel (listed.setIfInBounds i true)) a w :=
          cOne_step he hi h fun e' a' w' he' hx h' => ih _ e' _ _ k he' h' fun e2 a2 w2 he2 hx2 h2 => hk _ _ _ he2 (hx.trans hx2 (fun _ h => h) (fun _ h => h)) h2
        unfold wpOpR
        rw [hi]
        dsimp only
        rw [if_neg hr]
        exact h2
    unfold cDraw at h
    cases hr : Region.ready .any ops listed with
    | nil =>
      rw [hr] at h
      exact ⟨fun _ => hk _ _ _ he (Ext.refl _ _) h, by simp [hr]⟩
    | cons i0 l0 =>
      cases ht : (Region.ready .any ops listed).find? (takeable P ops listed) with
      | none =>
        rw [ht, hr] at h
        refine ⟨fun h0 => (by rw [hr] at h0; cases h0), fun i hi => ?_⟩
        rw [hr] at hi
        obtain ⟨o, ho, h1⟩ := opt_sound (allP_sound h i hi)
        exact step i o ho h1
      | some i =>
        rw [ht, hr] at h
        have hmem := List.mem_of_find?_eq_some ht
        have htk := List.find?_some ht
        obtain ⟨o, ho, h1⟩ := opt_sound (show opt (ops[i]?) _ w from h)
        unfold takeable at htk
        rw [ho] at htk
        simp only [Bool.and_eq_true, List.all_eq_true, List.mem_range] at htk
        obtain ⟨hri, hall⟩ := htk
        have hspec := blkL_spec (ops := ops) (listed := listed) (i := i) (List.range ops.size) [] (by simp)
        generalize hBL : blkL ops listed i (List.range ops.size) [] = BL at hall hspec
        have hbes : ∀ j oj, ops[j]? = some oj → j ≠ i → listed.getD j true = false → ¬ (j ∈ BL) → o.apart ops oj = true ∧ (isPure P o = true ∨ isRead oj = true) := by
          intro j oj hj hji hun hnb
          have := hall j (lt_of_some hj)
          unfold besideB at this
          rw [hj] at this
          simp only [Bool.or_eq_true, beq_iff_eq, List.contains_iff_mem, Bool.and_eq_true] at this
          rcases this with ((h | h) | h) | h
          · exact absurd h hji
          · rw [hun] at h; cases h
          · exact absurd h hnb
          · exact h
        have hB : ∀ j oj, ops[j]? = some oj → j ∈ BL → ∃ e ∈ oj.after, Region.binds .any e = true ∧ (e.on = i ∨ e.on ∈ BL) := by
          intro j oj hj hb
          obtain ⟨_, oj', hj', h3⟩ := hspec j hb
          rw [hj] at hj'
          simp only [Option.some.injEq] at hj'
          exact hj' ▸ h3
        by_cases hpi : isPure P o = true
        · obtain ⟨v, e', hy, he', hx, h'⟩ := cOne_pure hpi he ho h1
          refine first_gen (B := fun j => j ∈ BL) (Y := fun a _ => YP P ops o v a) ho (fun K a w hy hk => wpOpR_yield ho hri (hy.at w) hk) hB fuel listed a w (fun j hj => (hspec j hj).1) ?_ hmem hy ?_
          · intro j oj hj hji hun hnb K a w hy h
            exact put_pure hj (hbes j oj hj hji hun hnb).1 hpi hsel hQ K a w hy h
          · exact ih _ e' _ _ k he' h' fun e2 a2 w2 he2 hx2 h2 => hk _ _ _ he2 (hx.trans hx2 (fun _ h => h) (fun _ h => h)) h2
        · obtain ⟨v, e', hy, he', hx, h'⟩ := cOne_read hri he ho h1
          refine first_gen (B := fun j => j ∈ BL) (Y := fun a w => YR P ops o v a w) ho (fun K a w hy hk => wpOpR_yield ho hri hy hk) hB fuel listed a w (fun j hj => (hspec j hj).1) ?_ hmem hy ?_
          · intro j oj hj hji hun hnb K a w hy h
            have hb := hbes j oj hj hji hun hnb
            have hrj := hb.2.resolve_left hpi
            exact put_read (Y := fun a w => YR P ops o v a w) hj hb.1 hri hrj (fun a w u hy => YR_put hb.1 hri hy u) K a w hy h
          · exact ih _ e' _ _ k he' h' fun e2 a2 w2 he2 hx2 h2 => hk _ _ _ he2 (hx.trans hx2 (fun _ h => h) (fun _ h => h)) h2

end
end Go.Eng
