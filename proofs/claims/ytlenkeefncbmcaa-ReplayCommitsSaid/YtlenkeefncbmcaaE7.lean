import Derived.Test.YtlenkeefncbmcaaE6
set_option linter.unusedVariables false
set_option linter.unusedSimpArgs false
set_option linter.unusedSectionVars false
/-! The engine, part 7: one operation is carried out as 'cop' asks. -/
namespace Go.Eng
section
variable {P : Program} {e : Env} {a : Act} {w : World} {k : EV → Pr}

theorem run_cun {op : UnOp} {x : EV} (h : cun op x k w) : ∃ v u, x.v? = some v ∧ (Op.unary op v).run P w = .ok u w ∧ ∃ y, Good y u ∧ k y w := by
  unfold cun at h
  split at h
  · exact ⟨_, _, rfl, rfl, _, fun u hu => by simp [EV.v?] at hu; exact hu.symm, h⟩
  · exact ⟨_, _, rfl, rfl, _, Good.val _, h⟩
  · exact ⟨_, _, rfl, rfl, _, Good.val _, h⟩
  · exact ⟨_, _, rfl, rfl, _, Good.val _, h⟩
  · exact h.elim

theorem run_cconv {s d : TypeId} {x : Value} (h : cconv P s d x k w) : RT P (convert s d x) w fun v w' => k (.val v) w' := by
  obtain ⟨sd, hs, h⟩ := opt_sound h
  obtain ⟨dd, hd, h9⟩ := opt_sound h
  clear h
  unfold convert
  refine .bind (.underlying hs (.bind (.underlying hd ?_)))
  have h := h9
  clear h9
  split at h
  · exact ⟨_, w, rfl, h⟩
  · exact .pure h
  · obtain ⟨u, hu, h9⟩ := opt_sound h
    clear h
    have h := h9
    clear h9
    split at h
    · rename_i a _ _ _ _
      cases a with
      | none => exact .bind (.underlying hu (run_b2s h fun _ h => h))
      | some b => exact .bind (.underlying hu (run_b2s h fun _ h => h))
    · exact h.elim
  · exact h.elim

theorem run_min {l : List Value} {f : Value → Pr} {ts : Array TypeId} {ty : TypeId} (h : minL l f w) : RT P (Builtin.min_ ts ty l.toArray) w fun v w' => f v w' := by
  unfold minL at h
  split at h
  · exact ⟨_, w, rfl, h⟩
  · exact ⟨_, w, rfl, h⟩
  · exact h.elim

theorem run_max {l : List Value} {f : Value → Pr} {ts : Array TypeId} {ty : TypeId} (h : maxL l f w) : RT P (Builtin.max_ ts ty l.toArray) w fun v w' => f v w' := by
  unfold maxL at h
  split at h
  · exact ⟨_, w, rfl, h⟩
  · exact ⟨_, w, rfl, h⟩
  · exact h.elim

theorem run_builtin {b : Builtin} {ts : Array TypeId} {ty : TypeId} {cs : Array Bool} {args : List Value} (h : cbuiltin P b ts.toList args k w) :
    RT P (builtin b ts ty cs args.toArray) w (NX k) := by
  unfold cbuiltin at h
  split at h
  · obtain ⟨t, ht, h⟩ := opt_sound h
    obtain ⟨el, hel, h⟩ := opt_sound h
    refine RT.value' ?_
    unfold Builtin.len_
    simp only [show ts[0]? = some t by simpa using ht, List.getElem?_toArray, List.getElem?_cons_zero]
    exact .bind (.underlying (sliceElem_sound hel) (.pure h))
  · obtain ⟨t, ht, h⟩ := opt_sound h
    obtain ⟨d, hd, h9⟩ := opt_sound h
    clear h
    refine RT.value' ?_
    unfold Builtin.len_
    simp only [show ts[0]? = some t by simpa using ht, List.getElem?_toArray, List.getElem?_cons_zero]
    refine .bind (.underlying hd ?_)
    cases d <;> first | exact h9.elim | exact .pure h9
  · obtain ⟨t, ht, h⟩ := opt_sound h
    obtain ⟨el, hel, h⟩ := opt_sound h
    exact RT.value' (run_mapLen (by simpa using ht) (mapElem_sound hel) h fun _ h => h)
  · obtain ⟨t, ht, h⟩ := opt_sound h
    obtain ⟨el, hel, h⟩ := opt_sound h
    refine RT.value' ?_
    unfold Builtin.cap_
    simp only [show ts[0]? = some t by simpa using ht, List.getElem?_toArray, List.getElem?_cons_zero]
    exact .bind (.underlying (sliceElem_sound hel) (.pure h))
  · exact RT.value' (run_min h)
  · exact RT.value' (run_max h)
  · rename_i da dl dc sa sl sc
    obtain ⟨t, ht, h⟩ := opt_sound h
    obtain ⟨el, hel, h⟩ := opt_sound h
    obtain ⟨i, hi, h⟩ := opt_sound h
    exact RT.value' (run_copy (d := ⟨da, dl, dc⟩) (s := ⟨sa, sl, sc⟩) (by simpa using ht) (sliceElem_sound hel) hi h fun _ h => h)
  · rename_i da dl dc sa sl sc
    obtain ⟨t, ht, h⟩ := opt_sound h
    obtain ⟨t2, ht2, h⟩ := opt_sound h
    rcases tf_sound h with ⟨_, h⟩ | ⟨hint, h⟩
    · exact h.elim
    obtain ⟨d2, hd2, h⟩ := opt_sound h
    obtain ⟨el, hel, h⟩ := opt_sound h
    obtain ⟨i, hi, h⟩ := opt_sound h
    obtain ⟨z, hz, h⟩ := opt_sound h
    obtain ⟨hzs, h⟩ := cnd_sound h
    exact RT.value' (run_append (s := ⟨da, dl, dc⟩) (x := ⟨sa, sl, sc⟩) (by simpa using ht) (by simpa using ht2) hd2 hint (sliceElem_sound hel) hi hz hzs h fun _ _ h => h)
  · obtain ⟨t, ht, h⟩ := opt_sound h
    obtain ⟨ke, hke, h⟩ := opt_sound h
    obtain ⟨kd, hkd, h⟩ := opt_sound h
    rcases tf_sound h with ⟨hs, h⟩ | ⟨_, h⟩
    · exact RT.value' (run_mapDel (by simpa using ht) (mapElem_sound hke) hkd hs h fun _ h => h)
    · exact h.elim
  · exact h.elim

theorem ndO_sound (he : Ag e a) {x : Option Operand} {f : Option Int → Pr} (h : ndO (x.map (Env.ev e)) f w) : ∃ (n : Option Int) (kd : IntKind), x.map a.eval = n.map (.int kd) ∧ f n w := by
  cases x with
  | none => exact ⟨none, .i64, rfl, h⟩
  | some x =>
    have h1 := ndEv he (x := x) h
    obtain ⟨kd, n, hn, h2⟩ := asIntE_sound h1
    exact ⟨some n, kd, by simp [hn], h2⟩

theorem callable_sound {f : FuncId} (h : callable P f = true) : ∃ fn, P.funcs[f]? = some fn ∧ fn.body.isNone = false ∧ (fn.name == "runtime.NumGoroutine") = false := by
  unfold callable at h
  split at h
  · rename_i fn hfn
    simp only [Bool.and_eq_true, Bool.not_eq_true'] at h
    exact ⟨fn, hfn, by cases hb : fn.body <;> simp_all, h.2⟩
  · simp at h

theorem run_callFunc {f : FuncId} {args : Array Value} (h : callable P f = true) : (callFunc f args).run P w = .ok (.enter f args) w := by
  obtain ⟨fn, h1, h2, h3⟩ := callable_sound h
  unfold callFunc
  simp only [Sem.run_bind, run_program, Result.andThen_ok, h1, h2, h3, Bool.false_eq_true, if_false, Sem.run_pure]

/-- what a call asks -/
theorem upon_enter {r : Option Nat} {n : Nat} {o : Oper} {next : Act → World → Prop} {Q : Exit → Act → World → Prop} {f : FuncId} {args : Array Value} {shs : List Sh} {kk : PayL shs → Pr}
    (h : Calls P f args w (RetT shs kk)) (hk : ∀ p w', kk p w' → next (a.put o.dst (valR shs p)) w') : o.uponIn (wf r) n P a next Q (.ok (.enter f args) w) := by
  rw [Oper.uponIn_enter]
  refine ⟨fun h => by simp [wf, Fence.wide] at h, callsIn_wf.2 (h.mono ?_)⟩
  rintro e w' ⟨p, rfl, hp⟩
  exact hk p w' hp

theorem roundIn_wf {r : Option Nat} {n m : Nat} {P : Program} {l : Nat} {f : FuncId} {tmps : Array Value} {assign body : Code} {w : World} {R : Ending → World → Prop} :
    RoundIn Fence.wide m P l f tmps assign body w R → RoundIn (wf r) n P l f tmps assign body w R := by
  rintro ⟨h1, h2⟩
  exact ⟨trivial, fun c cs _ => h2 c cs (room_wide _)⟩

theorem upon_round {r : Option Nat} {n : Nat} {o : Oper} {next : Act → World → Prop} {Q : Exit → Act → World → Prop} {l : Nat} {f : FuncId} {tmps : Array Value} {assign body : Code} {shs : List Sh} {kk : PayL shs → Pr} {m : Nat}
    (h : RoundIn Fence.wide m P l f tmps assign body w (RetT shs kk)) (hk : ∀ p w', kk p w' → next (a.put o.dst (valR shs p)) w') : o.uponIn (wf r) n P a next Q (.ok (.round l f tmps assign body) w) := by
  rw [Oper.uponIn_round]
  refine ⟨fun h => by simp [wf, Fence.wide] at h, (roundIn_wf h).mono ?_⟩
  rintro e w' ⟨p, rfl, hp⟩
  exact hk p w' hp

theorem upon_NX {r : Option Nat} {n : Nat} {o : Oper} {next : Act → World → Prop} {Q : Exit → Act → World → Prop} {s : Sem Next} (h : RT P s w (NX k))
    (hk : ∀ x v w', Good x v → k x w' → next (a.put o.dst v) w') : o.uponIn (wf r) n P a next Q (s.run P w) := by
  obtain ⟨nx, w', h1, h2⟩ := h
  rw [h1]
  cases nx <;> simp only [NX] at h2 <;> try exact h2.elim
  · obtain ⟨x, hx, h2⟩ := h2
    exact hk x _ _ hx h2
  · exact hk .no _ _ (by intro u hu; simp [EV.v?] at hu) h2

end
end Go.Eng
