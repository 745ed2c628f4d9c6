import Derived.Test.YtlenkeefncbmcaaE3
set_option linter.unusedVariables false
set_option linter.unusedSimpArgs false
set_option linter.unusedSectionVars false
/-! The engine, part 4: one operation, soundness. -/
namespace Go.Eng

def wf (r : Option Nat) : Fence := { Fence.wide with round := r }

theorem callsIn_wf {r : Option Nat} {n : Nat} {P : Program} {f : FuncId} {args : Array Value} {w : World} {R : Ending → World → Prop} :
    CallsIn (wf r) n P f args w R ↔ Calls P f args w R := callsIn_wide (n := n)

def Good (x : EV) (v : Value) : Prop := ∀ u, x.v? = some u → u = v

theorem Good.val (v : Value) : Good (.val v) v := fun u h => by simpa [EV.v?] using h.symm

/-- what the operation's run comes to -/
def NX (k : EV → Pr) : Next → World → Prop
  | .value v, w' => ∃ x, Good x v ∧ k x w'
  | .skip, w' => k .no w'
  | _, _ => False

section
variable {P : Program} {e : Env} {a : Act} {w : World} {k : EV → Pr}

theorem RT.value {s : Sem Value} (h : RT P s w fun v w' => ∃ x, Good x v ∧ k x w') : RT P (do Pure.pure (Next.value (← s))) w (NX k) :=
  .bind (h.mono fun _ _ h => .pure h)

theorem RT.value' {s : Sem Value} (h : RT P s w fun v w' => k (.val v) w') : RT P (do Pure.pure (Next.value (← s))) w (NX k) :=
  .value (h.mono fun v _ h => ⟨_, Good.val v, h⟩)

theorem RT.skip {s : Sem Unit} (h : RT P s w fun _ w' => k .no w') : RT P (do s; Pure.pure Next.skip) w (NX k) :=
  .bind (h.mono fun _ _ h => .pure h)

theorem ndEv (he : Ag e a) {x : Operand} {f : Value → Pr} (h : nd (Env.ev e x) f w) : f (a.eval x) w := by
  obtain ⟨v, hv, h⟩ := nd_sound h
  rw [he.eval hv]; exact h

theorem ndEvK (he : Ag e a) {x : Operand} {k : EV → Pr} (h : nd (Env.ev e x) (fun _ => k (Env.ev e x)) w) : ∃ y, Good y (a.eval x) ∧ k y w := by
  obtain ⟨v, hv, h⟩ := nd_sound h
  exact ⟨_, fun u hu => by rw [hv] at hu; simp only [Option.some.injEq] at hu; rw [← hu, he.eval hv], h⟩

theorem ndL_sound (he : Ag e a) : ∀ {l : List Operand} {f : List Value → Pr}, ndL (l.map (Env.ev e)) f w → f (l.map a.eval) w
  | [], _, h => h
  | x :: l, _, h => by
    have h1 := ndEv he (x := x) h
    exact ndL_sound he (l := l) h1

theorem ndParts_sound (he : Ag e a) : ∀ {l : List (Nat × Operand)} {f : List (Nat × Value) → Pr}, ndParts e l f w → f (l.map fun (i, x) => (i, a.eval x)) w
  | [], _, h => h
  | (i, x) :: l, _, h => by
    have h1 := ndEv he (x := x) h
    exact ndParts_sound he (l := l) h1

theorem owe_sound {p : Prop} {f : Pr} (h : owe p f w) : p ∧ f w := h

theorem run_pick (he : Ag e a) {c x y : Operand} (h : cpick e c x y k w) :
    RT P (do Pure.pure (Next.value (if ← asBool (a.eval c) then a.eval x else a.eval y))) w (NX k) := by
  obtain ⟨b, hb, h⟩ := cbr_sound h
  rw [he.eval (x := c) hb]
  rcases h with ⟨rfl, h⟩ | ⟨rfl, h⟩
  · exact ⟨_, w, rfl, ndEvK he h⟩
  · exact ⟨_, w, rfl, ndEvK he h⟩

theorem zeroOf_sound {t : TypeId} {z : Value} (h : zeroOf P t = some z) {Q : Value → World → Prop} (hq : Q z w) : RT P (zeroValue t) w Q := by
  unfold zeroOf at h
  split at h
  · rename_i i hi; exact .zeroValue hi h hq
  · simp at h

theorem sliceElem_sound {t el : TypeId} (h : sliceElem P t = some el) : P.underlying t = some (.slice el) := by
  unfold sliceElem at h
  split at h
  · rename_i e he; simp at h; rw [he, h]
  · simp at h

theorem mapElem_sound {t : TypeId} {ke : TypeId × TypeId} (h : mapElem P t = some ke) : P.underlying t = some (.map ke.1 ke.2) := by
  unfold mapElem at h
  split at h
  · rename_i e he; simp at h; rw [he, ← h]
  · simp at h

theorem fieldOf_sound {t : TypeId} {j : Nat} {f : Field} (h : fieldOf P t j = some f) : ∃ fs, P.underlying t = some (.struct fs) ∧ fs[j]? = some f := by
  unfold fieldOf at h
  split at h
  · rename_i fs hfs; exact ⟨fs, hfs, h⟩
  · simp at h

/-! #### literals -/

theorem splice_eq (off : Nat) : ∀ (vs : List Value) (cells : List Value) (j : Nat), off + j + vs.length ≤ cells.length →
    (vs.zipIdx j).foldl (fun (cs : Array Value) (x : Value × Nat) => cs.setIfInBounds (off + x.2) x.1) cells.toArray = (cells.take (off + j) ++ vs ++ cells.drop (off + j + vs.length)).toArray
  | [], cells, j, _ => by simp
  | v :: vs, cells, j, h => by
    simp only [List.length_cons] at h
    simp only [List.zipIdx_cons, List.foldl_cons, List.setIfInBounds_toArray]
    rw [splice_eq off vs (cells.set (off + j) v) (j + 1) (by simp; omega)]
    congr 1
    have h1 : (cells.set (off + j) v).take (off + (j + 1)) = cells.take (off + j) ++ [v] := by
      rw [← Nat.add_assoc, List.take_add_one]
      simp [List.take_set_of_le, show off + j < cells.length by omega]
    have h2 : (cells.set (off + j) v).drop (off + (j + 1) + vs.length) = cells.drop (off + j + (vs.length + 1)) := by
      rw [List.drop_set_of_lt (by omega)]
      congr 1; omega
    rw [h1, h2]
    simp

theorem splice_eq' (off : Nat) (vs : Array Value) (cells : List Value) (h : off + vs.size ≤ cells.length) :
    vs.zipIdx.foldl (fun (cs : Array Value) (x : Value × Nat) => cs.setIfInBounds (off + x.2) x.1) cells.toArray = (cells.take off ++ vs.toList ++ cells.drop (off + vs.size)).toArray := by
  rw [← Array.foldl_toList, Array.toList_zipIdx]
  have := splice_eq off vs.toList cells 0 (by simpa using h)
  simpa using this

theorem fillL_sound {place : Nat → Option (Nat × Nat)} : ∀ {ps : List (Nat × Value)} {cells out : List Value}, fillL place cells ps = some out → Instr.fill place cells.toArray ps = some out.toArray
  | [], _, _, h => by simp only [fillL, Option.some.injEq] at h; rw [h]; rfl
  | (i, v) :: ps, cells, out, h => by
    simp only [fillL] at h
    unfold Instr.fill
    cases hp : place i with
    | none => simp [hp] at h
    | some os =>
      obtain ⟨off, size⟩ := os
      simp only [hp] at h ⊢
      have one : ∀ v : Value, v.cells = #[v] → (if size = 1 ∧ off + 1 ≤ cells.length then fillL place (cells.set off v) ps else none) = some out →
          (if v.cells.size ≠ size || off + v.cells.size > cells.toArray.size then none
            else Instr.fill place (v.cells.zipIdx.foldl (fun cs (c, j) => cs.setIfInBounds (off + j) c) cells.toArray) ps) = some out.toArray := by
        clear h
        intro v hv h9
        by_cases hc : size = 1 ∧ off + 1 ≤ cells.length
        · rw [if_pos hc] at h9
          rw [hv]
          obtain ⟨rfl, h2⟩ := hc
          have hn : ¬ (off + 1 > cells.length) := by omega
          have := fillL_sound h9
          simp [hn, this]
        · rw [if_neg hc] at h9; simp at h9
      cases v with
      | agg cs =>
        simp only [Value.cells] at h ⊢
        by_cases hc : cs.size = size ∧ off + size ≤ cells.length
        · rw [if_pos hc] at h
          obtain ⟨rfl, h2⟩ := hc
          have hn : ¬ (off + cs.size > cells.length) := by omega
          have h3 := fillL_sound h
          have h4 := splice_eq' off cs cells h2
          simp only [ne_eq, not_true_eq_false, decide_false, List.size_toArray, hn, Bool.or_self, Bool.false_eq_true, if_false]
          rw [h4]
          exact h3
        · rw [if_neg hc] at h; simp at h
      | _ => exact one _ rfl h

theorem places_sound : ∀ {l : List Field} {pl : List (Nat × Nat)} {Q : List (Nat × Nat) → World → Prop}, placesOf P l = some pl → Q pl w →
    RT P (l.mapM fun f => do Pure.pure (f.offset, ← sizeOf f.type)) w Q
  | [], pl, Q, h, hq => by
    simp only [placesOf, Option.some.injEq] at h
    simp only [List.mapM_nil]
    exact .pure (h ▸ hq)
  | f :: l, pl, Q, h, hq => by
    simp only [placesOf] at h
    cases hi : P.info? f.type with
    | none => simp [hi] at h
    | some i =>
      cases hr : placesOf P l with
      | none => simp [hi, hr] at h
      | some r =>
        simp only [hi, hr, Option.some.injEq] at h
        simp only [List.mapM_cons]
        refine .bind (.bind (.sizeOf hi (.pure (.bind (places_sound hr (.pure ?_))))))
        exact h ▸ hq

theorem zc_eq (z : List Value) (n m : Nat) (hm : z.length = m) : (Array.range (n * m)).map (fun i => z.toArray[i % m]!) = (zc z n).toArray := by
  subst hm
  apply Array.ext'
  simp only [Array.toList_map, Array.toList_range]
  induction n with
  | zero => simp [zc]
  | succ n ih =>
    unfold zc at ih ⊢
    rw [Nat.succ_mul, List.range_add, List.map_append, ih, List.replicate_succ', List.flatten_append]
    simp only [List.flatten_cons, List.flatten_nil, List.append_nil, List.map_map]
    congr 1
    apply List.ext_getElem (by simp)
    intro i h1 h2
    simp only [List.length_map, List.length_range] at h1
    simp [Nat.mul_add_mod, Nat.mod_eq_of_lt h1, h1, getElem!_pos, Nat.add_mul_mod_self_left, Nat.mul_comm n]

end
end Go.Eng
