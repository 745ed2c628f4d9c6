import Derived.Test.YtlenkeefncbmcaaE8
set_option linter.unusedVariables false
set_option linter.unusedSimpArgs false
set_option linter.unusedSectionVars false
/-! The engine, part 9: calls; one operation, whole. -/
namespace Go.Eng
section
variable {P : Program} {e : Env} {a : Act} {w : World} {k : EV → Pr}

theorem uponIn_of_eq {F : Fence} {n : Nat} {o : Oper} {next : Act → World → Prop} {Q : Exit → Act → World → Prop} {r r' : Result Next} (h : r = r') (hh : o.uponIn F n P a next Q r') : o.uponIn F n P a next Q r := h ▸ hh

theorem upon_callV {r : Option Nat} {n : Nat} {next : Act → World → Prop} {Q : Exit → Act → World → Prop} {dst : Option Tmp} {x : Operand} {args : Array Operand} {ats : Array TypeId} {ty : TypeId} {pos : String} {after : Array Edge}
    {guard : Option (Nat × Bool)} {shs : List Sh} {kk : PayL shs → Pr} (h2 : callV P (a.eval x) (args.toList.map a.eval) shs kk w) (hk : ∀ p w', kk p w' → next (a.put dst (valR shs p)) w') :
    Oper.uponIn (wf r) n P ⟨dst, .call ⟨.value x, args, ats⟩, ty, pos, after, guard⟩ a next Q ((execOp a.eval ⟨dst, .call ⟨.value x, args, ats⟩, ty, pos, after, guard⟩).run P w) := by
  have hargs : (args.toList.map a.eval).toArray = args.map a.eval := by rw [← Array.toList_map, Array.toArray_toList]
  unfold callV at h2
  rw [hargs] at h2
  rcases h2 with ⟨f, first, caps, hv, hcall, h2⟩ | ⟨l, caps, hv, fn, tmps, assign, body, hy, h2⟩
  · have hrun : (execOp a.eval ⟨dst, .call ⟨.value x, args, ats⟩, ty, pos, after, guard⟩).run P w = .ok (.enter f (first ++ args.map a.eval ++ caps)) w := by
      simp only [execOp, resolve, Deferred.ofValue, hv, Sem.run_bind, Sem.run_pure, Result.andThen_ok, invoke]
      exact run_callFunc hcall
    rw [hrun]
    exact upon_enter h2 hk
  · have hrun : (execOp a.eval ⟨dst, .call ⟨.value x, args, ats⟩, ty, pos, after, guard⟩).run P w = .ok (.round l fn tmps assign body) w := by
      simp only [execOp, resolve, Deferred.ofValue, hv, Sem.run_bind, Sem.run_pure, Result.andThen_ok, invoke, Array.empty_append]
      exact hy
    rw [hrun]
    exact upon_round h2 hk

theorem cop_sound {r : Option Nat} {n : Nat} {o : Oper} {next : Act → World → Prop} {Q : Exit → Act → World → Prop} (he : Ag e a) (h : cop P o e k w)
    (hk : ∀ x v w', Good x v → k x w' → next (a.put o.dst v) w') : o.uponIn (wf r) n P a next Q ((o.semAt r a.eval).run P w) := by
  have hnd : ∀ c, o.op ≠ .defer c := by
    intro c hc
    obtain ⟨dst, op, ty, pos, after, guard⟩ := o
    dsimp only at hc
    subst hc
    exact h
  rw [Oper.semAt_eq r a.eval o hnd]
  rcases Classical.em (∀ c, o.op ≠ .call c) with hno | hno
  · exact upon_NX (cop_rt he h hno) hk
  obtain ⟨c, hc⟩ : ∃ c, o.op = .call c := Classical.byContradiction fun h => hno fun c hc => h ⟨c, hc⟩
  clear hno
  obtain ⟨dst, op, ty, pos, after, guard⟩ := o
  dsimp only at hc
  subst hc
  clear hnd
  simp only [cop] at h
  have h1 := ndL_sound he h
  clear h
  obtain ⟨callee, args, ats⟩ := c
  have hargs : (args.toList.map a.eval).toArray = args.map a.eval := by rw [← Array.toList_map, Array.toArray_toList]
  dsimp only at h1
  have hval : ∀ x, nd (Env.ev e x) (fun fv => opt (retShs P ty) fun shs => callV P fv (args.toList.map a.eval) shs fun p => k (.val (valR shs p))) w →
      Oper.uponIn (wf r) n P ⟨dst, .call ⟨.value x, args, ats⟩, ty, pos, after, guard⟩ a next Q ((execOp a.eval ⟨dst, .call ⟨.value x, args, ats⟩, ty, pos, after, guard⟩).run P w) := by
    intro x h
    obtain ⟨shs, _, h2⟩ := opt_sound (ndEv he h)
    exact upon_callV h2 fun p w' hp => hk _ _ _ (Good.val _) hp
  cases callee with
  | value x =>
    cases x with
    | func f =>
      rcases tf_sound h1 with ⟨hcall, h2⟩ | ⟨_, h2⟩
      · obtain ⟨shs, hshs, h2⟩ := opt_sound h2
        unfold callF at h2
        rw [hargs] at h2
        have hrun : (execOp a.eval ⟨dst, .call ⟨.value (.func f), args, ats⟩, ty, pos, after, guard⟩).run P w = .ok (.enter f (args.map a.eval)) w := by
          simp only [execOp, resolve, Deferred.ofValue, Act.eval, Sem.run_bind, Sem.run_pure, Result.andThen_ok, invoke, Array.empty_append, Array.append_empty]
          exact run_callFunc hcall
        rw [hrun]
        exact upon_enter h2 fun p w' hp => hk _ _ _ (Good.val _) hp
      · exact h2.elim
    | tmp t => exact hval _ h1
    | const v => exact hval _ h1
    | global g => exact hval _ h1
  | builtin b =>
    refine upon_NX (k := k) ?_ hk
    unfold execOp
    dsimp only
    unfold resolve
    dsimp only
    refine .bind (.pure ?_)
    dsimp only [invoke]
    rw [← hargs]
    exact run_builtin h1
  | invoke _ _ => exact h1.elim
end
end Go.Eng
