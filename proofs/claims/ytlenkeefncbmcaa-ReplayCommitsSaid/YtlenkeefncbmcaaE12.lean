import Derived.Test.YtlenkeefncbmcaaE11
set_option linter.unusedVariables false
set_option linter.unusedSimpArgs false
set_option linter.unusedSectionVars false
/-! The engine, part 12: regions; taking an operation first. -/
namespace Go.Eng
section
variable {P : Program} {ops : Array Oper}

def gslot (ops : Array Oper) (j : Nat) : Option Tmp := (ops[j]?).bind (·.dst)

/-- an operation under a guard whose answer is b -/
def cGo (P : Program) (o : Oper) (e : Env) (d : Tmp) (b want : Bool) (k : Env → Pr) : Pr :=
  tf (b == want) (cop P o (Env.set e d (.lit b)) fun v => k (Env.put (Env.set e d (.lit b)) o.dst v)) (k (Env.put (Env.set e d (.lit b)) o.dst .no))

def cOne (P : Program) (ops : Array Oper) (o : Oper) (e : Env) (k : Env → Pr) : Pr :=
  match o.guard with
  | none => cop P o e fun v => k (Env.put e o.dst v)
  | some (j, want) => opt (gslot ops j) fun d => cbr (Env.get e d) (cGo P o e d true want k) (cGo P o e d false want k)

def wrOps (ops : Array Oper) : List Nat := ops.toList.filterMap (·.dst)

theorem mem_wrOps {i : Nat} {o : Oper} {d : Tmp} (hi : ops[i]? = some o) (hd : o.dst = some d) : d ∈ wrOps ops := by
  unfold wrOps
  rw [List.mem_filterMap]
  exact ⟨o, by simpa using Array.mem_of_getElem? hi, hd⟩

theorem gslot_mem {j : Nat} {d : Tmp} (h : gslot ops j = some d) : d ∈ wrOps ops := by
  unfold gslot at h
  cases ho : ops[j]? with
  | none => simp [ho] at h
  | some o => simp [ho] at h; exact mem_wrOps ho h

theorem wanted_some {o : Oper} {j : Nat} {want b : Bool} {a : Act} {d : Tmp} (hg : o.guard = some (j, want)) (hd : gslot ops j = some d) (hb : a.tmps[d]? = some (.bool b)) :
    Region.wanted o (yielded ops a.tmps) = (b == want) := by
  unfold Region.wanted
  rw [hg]
  unfold yielded
  unfold gslot at hd
  dsimp only
  rw [hd]
  simp [hb]

theorem Ext.set (e : Env) (d : Nat) (v : EV) (W : List Nat) (hd : d ∈ W) : Ext W e (Env.set e d v) :=
  ⟨by simp, fun t ht => by rw [Env.get_set, if_neg]; rintro ⟨rfl, _⟩; exact ht hd, fun _ => rfl⟩

theorem Ext.put' {e e1 : Env} {i : Nat} {o : Oper} {v : EV} (hi : ops[i]? = some o) (h : Ext (wrOps ops) e e1) : Ext (wrOps ops) e (Env.put e1 o.dst v) :=
  h.trans (Ext.put e1 o.dst v) (fun _ h => h) (fun t ht => by
    cases hd : o.dst with
    | none => simp [hd] at ht
    | some d => simp [hd] at ht; subst ht; exact mem_wrOps hi hd)

/-- the two ways of an operation that comes up -/
theorem cOne_cases {i : Nat} {o : Oper} {e : Env} {a : Act} {w : World} {k : Env → Pr} (he : Ag e a) (hi : ops[i]? = some o) (h : cOne P ops o e k w) :
    (Region.wanted o (yielded ops a.tmps) = true ∧ ∃ e1, Ag e1 a ∧ Ext (wrOps ops) e e1 ∧ cop P o e1 (fun v => k (Env.put e1 o.dst v)) w) ∨
    (Region.wanted o (yielded ops a.tmps) = false ∧ ∃ e1, Ag e1 a ∧ Ext (wrOps ops) e e1 ∧ k (Env.put e1 o.dst .no) w) := by
  unfold cOne at h
  cases hg : o.guard with
  | none =>
    rw [hg] at h
    exact .inl ⟨by simp [Region.wanted, hg], e, he, Ext.refl _ _, h⟩
  | some jw =>
    obtain ⟨j, want⟩ := jw
    rw [hg] at h
    obtain ⟨d, hd, h⟩ := opt_sound h
    obtain ⟨b, hb, h⟩ := cbr_sound h
    have hw := wanted_some hg hd (he.get d _ hb)
    have he1 : Ag (Env.set e d (.lit b)) a := he.lit hb
    have hx : Ext (wrOps ops) e (Env.set e d (.lit b)) := Ext.set _ _ _ _ (gslot_mem hd)
    have key : cGo P o e d b want k w := by
      rcases h with ⟨rfl, h⟩ | ⟨rfl, h⟩ <;> exact h
    rcases tf_sound key with ⟨hbw, h⟩ | ⟨hbw, h⟩
    · exact .inl ⟨hw.trans hbw, _, he1, hx, h⟩
    · exact .inr ⟨hw.trans hbw, _, he1, hx, h⟩

theorem cOne_step {r : Option Nat} {n : Nat} {Q : Exit → Act → World → Prop} {i : Nat} {o : Oper} {e : Env} {a : Act} {w : World} {k : Env → Pr} {K : Act → World → Prop} (he : Ag e a) (hi : ops[i]? = some o)
    (h : cOne P ops o e k w) (hk : ∀ e' a' w', Ag e' a' → Ext (wrOps ops) e e' → k e' w' → K a' w') : wpOpIn (wf r) n P ops Q i K a w := by
  unfold wpOpIn
  rw [hi]
  dsimp only
  rcases cOne_cases he hi h with ⟨hw, e1, he1, hx, h1⟩ | ⟨hw, e1, he1, hx, h1⟩
  · rw [if_pos hw]
    refine ⟨fun _ _ => trivial, cop_sound he1 h1 fun x v w' hg hk' => hk _ _ _ (he1.put o.dst hg) (Ext.put' hi hx) hk'⟩
  · rw [if_neg (by simp [hw])]
    exact ⟨fun _ _ => trivial, hk _ _ _ (he1.put_no o.dst _) (Ext.put' hi hx) h1⟩

/-! ### a region in its order -/

def cOps (P : Program) (ops : Array Oper) : List Nat → Env → (Env → Pr) → Pr
  | [], e, k => k e
  | i :: l, e, k => opt (ops[i]?) fun o => cOne P ops o e fun e' => cOps P ops l e' k

theorem cOps_sound {r : Option Nat} {n : Nat} {Q : Exit → Act → World → Prop} : ∀ {l : List Nat} {e : Env} {a : Act} {w : World} {k : Env → Pr}, Ag e a → cOps P ops l e k w →
    (∀ e' a' w', Ag e' a' → Ext (wrOps ops) e e' → k e' w' → Q .normal a' w') → wpOpsIn (wf r) n P ops Q l a w
  | [], _, _, _, _, he, h, hk => hk _ _ _ he (Ext.refl _ _) h
  | i :: l, e, a, w, k, he, h, hk => by
    obtain ⟨o, ho, h⟩ := opt_sound h
    rw [wpOpsIn_cons]
    exact cOne_step he ho h fun e' a' w' he' hx h' => cOps_sound he' h' fun e2 a2 w2 he2 hx2 h2 => hk _ _ _ he2 (hx.trans hx2 (fun _ h => h) (fun _ h => h)) h2

/-! ### a region in whatever order -/

variable {n : Nat} {Q : Exit → Act → World → Prop}

/-- what an operation's slot gets -/
def yieldOf : Next → Option Value
  | .value v => some v
  | .skip => some undef
  | _ => none

theorem upon_yield {F : Fence} {o : Oper} {a : Act} {w : World} {next : Act → World → Prop} {nx : Next} {v : Value} (hv : yieldOf nx = some v) (h : next (a.put o.dst v) w) : o.uponIn F n P a next Q (.ok nx w) := by
  cases nx <;> simp only [yieldOf, Option.some.injEq, reduceCtorEq] at hv
  · subst hv; exact h
  · subst hv; exact h

def wpOpR (P : Program) (ops : Array Oper) (n : Nat) (Q : Exit → Act → World → Prop) (i : Nat) (K : Act → World → Prop) (a : Act) (w : World) : Prop :=
  match ops[i]? with
  | none => K a w
  | some o =>
    if isRead o = true then
      (Region.wanted o (yielded ops a.tmps) = true ∧ ∃ nx v, (execOp a.eval o).run P w = .ok nx w ∧ yieldOf nx = some v ∧ K (a.put o.dst v) w) ∨
      (Region.wanted o (yielded ops a.tmps) = false ∧ K (a.put o.dst undef) w)
    else wpOpIn (wf none) n P ops Q i K a w

def wpAnyR (P : Program) (ops : Array Oper) (n : Nat) (Q : Exit → Act → World → Prop) : Nat → Array Bool → Act → World → Prop
  | 0, listed, a, w => Region.ready .any ops listed = [] ∧ Q .normal a w
  | fuel + 1, listed, a, w =>
    (Region.ready .any ops listed = [] → Q .normal a w) ∧
    ∀ i ∈ Region.ready .any ops listed, wpOpR P ops n Q i (wpAnyR P ops n Q fuel (listed.setIfInBounds i true)) a w

theorem isRead_noDefer {o : Oper} (h : isRead o = true) (c : Call) : o.op ≠ .defer c := by
  intro hc
  simp [isRead, hc] at h

theorem wpOpR_mono {i : Nat} {K K' : Act → World → Prop} {a : Act} {w : World} (h : ∀ a w, K a w → K' a w) (hh : wpOpR P ops n Q i K a w) : wpOpR P ops n Q i K' a w := by
  unfold wpOpR at *
  cases ho : ops[i]? with
  | none => rw [ho] at hh; exact h _ _ hh
  | some o =>
    simp only [ho] at hh ⊢
    by_cases hr : isRead o = true
    · rw [if_pos hr] at hh ⊢
      rcases hh with ⟨h1, nx, v, h2, hv, h3⟩ | ⟨h1, h2⟩
      · exact .inl ⟨h1, nx, v, h2, hv, h _ _ h3⟩
      · exact .inr ⟨h1, h _ _ h2⟩
    · rw [if_neg hr] at hh ⊢
      exact wpOpIn_mono h hh

def noDefer (ops : Array Oper) : Bool := ops.toList.all fun o => match o.op with | .defer _ => false | _ => true

theorem noDefer_spec (h : noDefer ops = true) {i : Nat} {o : Oper} (hi : ops[i]? = some o) (c : Call) : o.op ≠ .defer c := by
  intro hc
  have := List.all_eq_true.1 h o (by simpa using Array.mem_of_getElem? hi)
  simp [hc] at this

theorem wpOpR_In {r : Option Nat} (hd : noDefer ops = true) {i : Nat} {K : Act → World → Prop} {a : Act} {w : World} (hh : wpOpR P ops n Q i K a w) : wpOpIn (wf r) n P ops Q i K a w := by
  unfold wpOpR at hh
  cases ho : ops[i]? with
  | none => rw [ho] at hh; unfold wpOpIn; rw [ho]; exact hh
  | some o =>
    simp only [ho] at hh
    have hnd := noDefer_spec hd ho
    by_cases hr : isRead o = true
    · rw [if_pos hr] at hh
      unfold wpOpIn
      rw [ho]
      dsimp only
      rcases hh with ⟨h1, nx, v, h2, hv, h3⟩ | ⟨h1, h2⟩
      · rw [if_pos h1]
        refine ⟨fun _ _ => trivial, ?_⟩
        rw [show (wf r).round = r from rfl, Oper.semAt_eq r a.eval o hnd, h2]
        exact upon_yield hv h3
      · rw [if_neg (by simp [h1])]
        exact ⟨fun _ _ => trivial, h2⟩
    · rw [if_neg hr] at hh
      unfold wpOpIn at *
      rw [ho] at *
      dsimp only at *
      split
      · rename_i hw
        rw [if_pos hw] at hh
        refine ⟨fun _ _ => trivial, ?_⟩
        have h2 := hh.2
        rw [show (wf r).round = r from rfl, Oper.semAt_eq r a.eval o hnd]
        rw [show (wf none).round = none from rfl, Oper.semAt_none] at h2
        generalize (execOp a.eval o).run P w = res at *
        cases res with
        | ok x w' => cases x <;> exact h2
        | halt x w' => cases x <;> exact h2
      · rename_i hw
        rw [if_neg hw] at hh
        exact ⟨fun _ _ => trivial, hh.2⟩

theorem wpAnyR_In {r : Option Nat} (hd : noDefer ops = true) : ∀ (fuel : Nat) (listed : Array Bool) (a : Act) (w : World), wpAnyR P ops n Q fuel listed a w → wpAnyIn (wf r) n P .any ops Q fuel listed a w
  | 0, _, _, _, h => h
  | fuel + 1, listed, a, w, h => ⟨h.1, fun i hi => wpOpR_In hd (wpOpR_mono (fun a w => wpAnyR_In hd fuel _ a w) (h.2 i hi))⟩

theorem getD_both' {listed : Array Bool} {i : Nat} (h : listed.getD i true = false) : listed.getD i false = false := by
  rcases Nat.lt_or_ge i listed.size with h' | h'
  · simp [h'] at h ⊢; exact h
  · simp [Array.getElem?_eq_none h'] at h

/-- an operation that may come up may be taken first -/
theorem first_gen {i : Nat} {oi : Oper} {v : Value} {B : Nat → Prop} {Y : Act → World → Prop} (hi : ops[i]? = some oi)
    (hYi : ∀ (K : Act → World → Prop) a w, Y a w → K (a.put oi.dst v) w → wpOpR P ops n Q i K a w)
    (hB : ∀ j oj, ops[j]? = some oj → B j → ∃ e ∈ oj.after, Region.binds .any e = true ∧ (e.on = i ∨ B e.on)) :
    ∀ (fuel : Nat) (listed : Array Bool) (a : Act) (w : World), (∀ j, B j → listed.getD j true = false) →
      (∀ j oj, ops[j]? = some oj → j ≠ i → listed.getD j true = false → ¬ B j → ∀ (K : Act → World → Prop) a w, Y a w → wpOpR P ops n Q j K (a.put oi.dst v) w →
        wpOpR P ops n Q j (fun a' w' => Y a' w' ∧ K (a'.put oi.dst v) w') a w) →
      i ∈ Region.ready .any ops listed → Y a w → wpAnyR P ops n Q fuel (listed.setIfInBounds i true) (a.put oi.dst v) w → wpAnyR P ops n Q (fuel + 1) listed a w := by
  intro fuel
  induction fuel with
  | zero =>
    intro listed a w hbl hput hr hy H
    refine ⟨fun h => (by rw [h] at hr; cases hr), fun j hj => ?_⟩
    by_cases hji : j = i
    · subst hji; exact hYi _ _ _ hy H
    · have := ready_mono hj hji
      rw [H.1] at this
      cases this
  | succ fuel ih =>
    intro listed a w hbl hput hr hy H
    refine ⟨fun h => (by rw [h] at hr; cases hr), fun j hj => ?_⟩
    by_cases hji : j = i
    · subst hji; exact hYi _ _ _ hy H
    · have h1 := H.2 j (ready_mono hj hji)
      obtain ⟨hjun, oj, hoj, hall⟩ := mem_ready.1 hj
      have hnB : ¬ B j := by
        intro hb
        obtain ⟨e, he, hbind, hon⟩ := hB j oj hoj hb
        have h2 := hall e he hbind
        have h3 : listed.getD e.on true = false := by
          rcases hon with h | h
          · rw [h]; exact (mem_ready.1 hr).1
          · exact hbl _ h
        rw [getD_both' h3] at h2
        cases h2
      have h2 := hput j oj hoj hji hjun hnB _ _ _ hy h1
      refine wpOpR_mono (fun a' w' h3 => ih (listed.setIfInBounds j true) a' w' ?_ ?_ (ready_mono hr (Ne.symm hji)) h3.1 ?_) h2
      · intro m hm
        have hne : j ≠ m := fun h => hnB (h ▸ hm)
        rw [getD_set_ne true hne]
        exact hbl m hm
      · intro m om hom hmi hmun
        refine hput m om hom hmi ?_
        by_cases hjm : j = m
        · subst hjm; exact hjun
        · rw [getD_set_ne true hjm] at hmun; exact hmun
      · rw [Array.setIfInBounds_comm _ _ hji]
        exact h3.2

/-- yields v at whatever world; yields v at this one -/
def YP (P : Program) (ops : Array Oper) (o : Oper) (v : Value) (a : Act) : Prop :=
  (Region.wanted o (yielded ops a.tmps) = true ∧ ∀ w, (execOp a.eval o).run P w = .ok (.value v) w) ∨ (Region.wanted o (yielded ops a.tmps) = false ∧ v = undef)
def YR (P : Program) (ops : Array Oper) (o : Oper) (v : Value) (a : Act) (w : World) : Prop :=
  (Region.wanted o (yielded ops a.tmps) = true ∧ ∃ nx, (execOp a.eval o).run P w = .ok nx w ∧ yieldOf nx = some v) ∨ (Region.wanted o (yielded ops a.tmps) = false ∧ v = undef)

theorem isRead_noSelect {o : Oper} (h : isRead o = true) (cs : Array SelectCase) (b : Bool) : o.op ≠ .select cs b := by
  intro hc
  simp [isRead, hc] at h

theorem YR_put {oi oj : Oper} {v : Value} {a : Act} {w : World} (hap : oi.apart ops oj = true) (hri : isRead oi = true) (hy : YR P ops oi v a w) (u : Value) : YR P ops oi v (a.put oj.dst u) w := by
  obtain ⟨h1, h2, h3⟩ := Oper.apart_spec hap
  unfold YR at *
  rw [execOp_put oi (isRead_noSelect hri) a oj.dst u h3, wanted_put oi a oj.dst u h3]
  exact hy

theorem YP_put {oi oj : Oper} {v : Value} {a : Act} (hap : oi.apart ops oj = true) (hri : isRead oi = true) (hy : YP P ops oi v a) (u : Value) : YP P ops oi v (a.put oj.dst u) := by
  obtain ⟨h1, h2, h3⟩ := Oper.apart_spec hap
  unfold YP at *
  simp only [execOp_put oi (isRead_noSelect hri) a oj.dst u h3, wanted_put oi a oj.dst u h3]
  exact hy

theorem wpOpR_yield {i : Nat} {oi : Oper} {v : Value} {K : Act → World → Prop} {a : Act} {w : World} (hi : ops[i]? = some oi) (hri : isRead oi = true) (hy : YR P ops oi v a w) (h : K (a.put oi.dst v) w) : wpOpR P ops n Q i K a w := by
  unfold wpOpR
  rw [hi]
  dsimp only
  rw [if_pos hri]
  rcases hy with ⟨h1, nx, h2, hv⟩ | ⟨h1, rfl⟩
  · exact .inl ⟨h1, nx, v, h2, hv, h⟩
  · exact .inr ⟨h1, h⟩

theorem YP.at {o : Oper} {v : Value} {a : Act} (h : YP P ops o v a) (w : World) : YR P ops o v a w :=
  h.imp (fun h => ⟨h.1, _, h.2 w, rfl⟩) id

/-- a read beside a read -/
theorem put_read {j : Nat} {oi oj : Oper} {v : Value} (hj : ops[j]? = some oj) (hap : oi.apart ops oj = true) (hri : isRead oi = true) (hrj : isRead oj = true)
    {Y : Act → World → Prop} (hY : ∀ a w u, Y a w → Y (a.put oj.dst u) w) (K : Act → World → Prop) (a : Act) (w : World) (hy : Y a w) (h : wpOpR P ops n Q j K (a.put oi.dst v) w) :
    wpOpR P ops n Q j (fun a' w' => Y a' w' ∧ K (a'.put oi.dst v) w') a w := by
  obtain ⟨h1, h2, h3⟩ := Oper.apart_spec hap
  unfold wpOpR at h ⊢
  simp only [hj] at h ⊢
  rw [if_pos hrj] at h ⊢
  rw [wanted_put oj a oi.dst v h1, execOp_put oj (isRead_noSelect hrj) a oi.dst v h1] at h
  rcases h with ⟨hw, nx, u, hu, hv, hk⟩ | ⟨hw, hk⟩
  · exact .inl ⟨hw, nx, u, hu, hv, hY _ _ _ hy, by rw [← Act.put_comm a v u h2]; exact hk⟩
  · exact .inr ⟨hw, hY _ _ _ hy, by rw [← Act.put_comm a v undef h2]; exact hk⟩

theorem about_read {o : Oper} (h : isPure P o = true) (ρ : Operand → Value) (w : World) : o.about P w ρ = none := by
  unfold Oper.about
  cases ho : o.op
  case call c =>
    obtain ⟨callee, args, ats⟩ := c
    cases callee <;> first | (simp [isPure, ho] at h; done) | skip
    rename_i b
    have hl : ∀ d w', (resolve ρ { callee := .builtin b, args := args, argTypes := ats } o.type).run P w = .ok d w' → d.target.leads P w' d.args = none := by
      intro d w' hd
      simp only [resolve, Sem.run_pure, Result.ok.injEq] at hd
      obtain ⟨rfl, rfl⟩ := hd
      rfl
    dsimp only
    cases hr : (resolve ρ { callee := .builtin b, args := args, argTypes := ats } o.type).run P w with
    | ok d w' => exact hl d w' hr
    | halt _ _ => rfl
  all_goals first | rfl | simp [isPure, ho] at h

theorem isPure_read {o : Oper} (h : isPure P o = true) : isRead o = true := by
  unfold isPure at h
  unfold isRead
  split at h <;> first | (simp_all; done) | skip
  · rename_i b args ats heq
    rw [heq]
    cases b <;> first | rfl | (simp [pureB] at h; done)

/-- a pure one beside whatever else -/
theorem put_pure {j : Nat} {oi oj : Oper} {v : Value} (hj : ops[j]? = some oj) (hap : oi.apart ops oj = true) (hpi : isPure P oi = true) (hsel : Region.noSelect ops = true)
    (hQ : ∀ c a w, ¬ Q (.panic c) a w) (K : Act → World → Prop) (a : Act) (w : World) (hy : YP P ops oi v a) (h : wpOpR P ops n Q j K (a.put oi.dst v) w) :
    wpOpR P ops n Q j (fun a' w' => YP P ops oi v a' ∧ K (a'.put oi.dst v) w') a w := by
  by_cases hrj : isRead oj = true
  · exact put_read (Y := fun a _ => YP P ops oi v a) hj hap (isPure_read hpi) hrj (fun a w u hy => YP_put hap (isPure_read hpi) hy u) K a w hy h
  · unfold wpOpR at h ⊢
    simp only [hj] at h ⊢
    rw [if_neg hrj] at h ⊢
    have hyf : YieldsFenced P ops oi v a := ⟨hy, fun w => about_read hpi _ w⟩
    have := wpOpIn_put (F := wf none) rfl hj hap (isRead_noSelect (isPure_read hpi)) (Region.noSelect_spec hsel j oj · · hj) (fun c a w h => absurd h (hQ _ _ _)) hyf h
    exact wpOpIn_mono (fun a w h => ⟨h.1.1, h.2⟩) this

end
end Go.Eng
