import Derived.Test.YtlenkeefncbmcaaE9
set_option linter.unusedVariables false
set_option linter.unusedSimpArgs false
set_option linter.unusedSectionVars false
/-! The engine, part 10: operations that leave the world alone. -/
namespace Go.Eng

/-! ### what follows may be turned, at one world -/
section
variable {w : World}
theorem nd_mono {x : EV} {f f' : Value → Pr} (h : ∀ v, f v w → f' v w) (hh : nd x f w) : nd x f' w := by
  cases x with
  | no => exact hh
  | val v => exact h _ hh
  | lit b => exact h _ hh
  | nx0 => exact h _ hh
  | nx1 _ _ => exact h _ hh
  | ent _ _ => exact h _ hh
theorem opt_mono {α : Type} {x : Option α} {f f' : α → Pr} (h : ∀ v, f v w → f' v w) (hh : opt x f w) : opt x f' w := by
  cases x with
  | none => exact hh
  | some v => exact h _ hh
theorem cnd_mono {p : Prop} [Decidable p] {f f' : Pr} (h : f w → f' w) (hh : cnd p f w) : cnd p f' w := by
  unfold cnd at *
  split
  · rename_i hp; rw [if_pos hp] at hh; exact h hh
  · rename_i hp; rw [if_neg hp] at hh; exact hh
theorem tf_mono {b : Bool} {f f' g g' : Pr} (h : f w → f' w) (h2 : g w → g' w) (hh : tf b f g w) : tf b f' g' w := by
  cases b with
  | true => exact h hh
  | false => exact h2 hh
theorem owe_mono {p : Prop} {f f' : Pr} (h : f w → f' w) (hh : owe p f w) : owe p f' w := ⟨hh.1, h hh.2⟩
theorem deref_mono {p : Option Addr} {f f' : Addr → Pr} (h : ∀ v, f v w → f' v w) (hh : deref p f w) : deref p f' w :=
  let ⟨a, h1, h2⟩ := hh; ⟨a, h1, h _ h2⟩
theorem asPtr_mono {v : Value} {f f' : Addr → Pr} (h : ∀ v, f v w → f' v w) (hh : asPtr v f w) : asPtr v f' w := by
  cases v with
  | pointer p => exact deref_mono h hh
  | _ => exact hh
theorem asIntE_mono {v : Value} {f f' : Int → Pr} (h : ∀ v, f v w → f' v w) (hh : asIntE v f w) : asIntE v f' w := by
  cases v with
  | int k n => exact h _ hh
  | _ => exact hh
theorem asAggE_mono {v : Value} {f f' : Array Value → Pr} (h : ∀ v, f v w → f' v w) (hh : asAggE v f w) : asAggE v f' w := by
  cases v with
  | agg cs => exact h _ hh
  | _ => exact hh
theorem asMap_mono {v : Value} {f f' : Option Nat → Pr} (h : ∀ v, f v w → f' v w) (hh : asMap v f w) : asMap v f' w := by
  cases v with
  | map r => exact h _ hh
  | _ => exact hh
theorem ndO_mono {x : Option EV} {f f' : Option Int → Pr} (h : ∀ v, f v w → f' v w) (hh : ndO x f w) : ndO x f' w := by
  cases x with
  | none => exact h _ hh
  | some x => exact nd_mono (fun v => asIntE_mono fun n => h _) hh
theorem br_mono {b : Bool} {f f' g g' : Pr} (h : f w → f' w) (h2 : g w → g' w) (hh : br b f g w) : br b f' g' w := by
  unfold br at *
  cases b <;> simp_all
theorem cbr_mono {x : EV} {f f' g g' : Pr} (h : f w → f' w) (h2 : g w → g' w) (hh : cbr x f g w) : cbr x f' g' w := by
  unfold cbr at *
  split at hh
  · exact h hh
  · exact h2 hh
  · exact br_mono h h2 hh
  · exact hh.elim
theorem ldC_mono {s : CS} {a : Addr} {f f' : PayC s → Pr} (h : ∀ v, f v w → f' v w) (hh : ldC s a f w) : ldC s a f' w :=
  let ⟨p, h1, h2⟩ := hh; ⟨p, h1, h _ h2⟩
theorem ldA_mono {s : List CS} {a : Addr} {f f' : PayA s → Pr} (h : ∀ v, f v w → f' v w) (hh : ldA s a f w) : ldA s a f' w :=
  let ⟨p, h1, h2⟩ := hh; ⟨p, h1, h _ h2⟩
theorem ldT_mono {P : Program} {t : TypeId} {a : Addr} {f f' : Value → Pr} (h : ∀ v, f v w → f' v w) (hh : ldT P t a f w) : ldT P t a f' w :=
  opt_mono (fun _ => tf_mono (opt_mono fun _ => cnd_mono (ldA_mono fun _ => h _)) (opt_mono fun _ => opt_mono fun _ => ldC_mono fun _ => h _)) hh
theorem ndL_mono : ∀ {l : List EV} {f f' : List Value → Pr} (_ : ∀ v, f v w → f' v w), ndL l f w → ndL l f' w
  | [], _, _, h, hh => h _ hh
  | _ :: _, _, _, h, hh => nd_mono (fun _ => ndL_mono fun _ => h _) hh
theorem slc_mono {n : Nat} {s : Sl} {lo hi mx : Option Int} {f f' : Sl → Pr} (h : ∀ v, f v w → f' v w) (hh : slc n s lo hi mx f w) : slc n s lo hi mx f' w :=
  ⟨hh.1, hh.2.1, hh.2.2.1, hh.2.2.2.1, h _ hh.2.2.2.2⟩
theorem slcStr_mono {s : ByteArray} {lo hi : Option Int} {f f' : ByteArray → Pr} (h : ∀ v, f v w → f' v w) (hh : slcStr s lo hi f w) : slcStr s lo hi f' w :=
  ⟨hh.1, hh.2.1, h _ hh.2.2⟩
theorem mapAt_mono {kd : TypeDesc} {r : Option Nat} {key zero : Value} {sh : CS} {f f' : PayC sh → Bool → Pr} (h : ∀ v b, f v b w → f' v b w) (hh : mapAt kd r key sh zero f w) : mapAt kd r key sh zero f' w :=
  let ⟨es, res, p, h1, h2, h3, h4⟩ := hh; ⟨es, res, p, h1, h2, h3, h _ _ h4⟩
theorem mapLen_mono {r : Option Nat} {f f' : Int → Pr} (h : ∀ v, f v w → f' v w) (hh : mapLen r f w) : mapLen r f' w :=
  let ⟨es, h1, h2⟩ := hh; ⟨es, h1, h _ h2⟩
theorem cbin_mono {op : BinOp} {x y : Value} {f f' : EV → Pr} (h : ∀ v, f v w → f' v w) (hh : cbin op x y f w) : cbin op x y f' w := by
  unfold cbin at *
  split at hh <;> first
    | exact hh.elim
    | exact ⟨hh.1, h _ hh.2⟩
    | exact h _ hh
    | (split at hh
       · rename_i hk
         first
           | exact (show (if _ then _ else _ : Pr) w by rw [if_pos hk]; exact h _ hh)
           | exact (show (if _ then _ else _ : Pr) w by rw [if_pos hk]; exact ⟨hh.1, h _ hh.2⟩)
       · exact hh.elim)
theorem ceq_mono {P : Program} {t : TypeId} {x y : Value} {f f' : Bool → Pr} (h : ∀ v, f v w → f' v w) (hh : ceq P t x y f w) : ceq P t x y f' w := by
  exact opt_mono (fun d => opt_mono fun r => owe_mono (h _)) hh
theorem eqOp_mono {op : BinOp} {f f' : Bool → Pr} (h : ∀ v, f v w → f' v w) (hh : eqOp op f w) : eqOp op f' w := by
  cases op <;> first | exact hh.elim | exact h _ hh
theorem cun_mono {op : UnOp} {x : EV} {f f' : EV → Pr} (h : ∀ v, f v w → f' v w) (hh : cun op x f w) : cun op x f' w := by
  unfold cun at *
  split at hh <;> first
    | exact hh.elim
    | exact h _ hh
theorem b2s_mono {s : Sl} {f f' : ByteArray → Pr} (h : ∀ v, f v w → f' v w) (hh : b2s s f w) : b2s s f' w :=
  let ⟨l, h1, h2, h3⟩ := hh; ⟨l, h1, h2, h _ h3⟩
theorem cconv_mono {P : Program} {s d : TypeId} {x : Value} {f f' : EV → Pr} (h : ∀ v, f v w → f' v w) (hh : cconv P s d x f w) : cconv P s d x f' w := by
  refine opt_mono (fun d => opt_mono fun e h9 => ?_) hh
  split at h9
  · exact h _ h9
  · exact h _ h9
  · refine opt_mono (fun u h8 => ?_) h9
    split at h8
    · exact b2s_mono (fun _ => h _) h8
    · exact h8.elim
  · exact h9.elim
theorem minL_mono {l : List Value} {f f' : Value → Pr} (h : ∀ v, f v w → f' v w) (hh : minL l f w) : minL l f' w := by
  unfold minL at *
  split at hh <;> first | exact hh.elim | exact h _ hh
theorem maxL_mono {l : List Value} {f f' : Value → Pr} (h : ∀ v, f v w → f' v w) (hh : maxL l f w) : maxL l f' w := by
  unfold maxL at *
  split at hh <;> first | exact hh.elim | exact h _ hh
end

/-- it reads at most: what 'cop' asks of it leaves the world alone -/
def isRead (o : Oper) : Bool :=
  match o.op with
  | .move _ | .assign _ | .pick _ _ _ | .load _ _ | .nilCheck _ | .binOp _ _ _ _ _ | .unOp _ _ _ | .convert _ _ _ | .makeFunc _ _ _ | .slice _ _ _ _ _ | .fieldAddr _ _ _ | .field _ _ _
  | .indexAddr _ _ _ | .index _ _ _ | .lookup _ _ _ _ | .extract _ _ => true
  | .call { callee := .builtin .len, .. } | .call { callee := .builtin .cap, .. } | .call { callee := .builtin .min, .. } | .call { callee := .builtin .max, .. } => true
  | _ => false

section
variable {P : Program} {e : Env} {w : World} {k : EV → Pr}

def readB : Builtin → Bool
  | .len | .cap | .min | .max => true
  | _ => false

theorem cbuiltin_mono {b : Builtin} {ts : List TypeId} {args : List Value} {k' : EV → Pr} (hb : readB b = true) (hk : ∀ x, k x w → k' x w) (h : cbuiltin P b ts args k w) : cbuiltin P b ts args k' w := by
  unfold cbuiltin at *
  split at h <;> first
    | exact h.elim
    | exact opt_mono (fun _ => opt_mono fun _ => hk _) h
    | exact opt_mono (fun _ => opt_mono fun _ => mapLen_mono fun _ => hk _) h
    | exact minL_mono (fun _ => hk _) h
    | exact maxL_mono (fun _ => hk _) h
    | (refine opt_mono (fun _ => opt_mono fun d h => ?_) h
       cases d <;> first | exact h.elim | exact hk _ h)
    | simp [readB] at hb

theorem cop_mono {o : Oper} {k' : EV → Pr} (hr : isRead o = true) (hk : ∀ x, k x w → k' x w) (h : cop P o e k w) : cop P o e k' w := by
  obtain ⟨dst, op, ty, pos, after, guard⟩ := o
  cases op <;> simp only [isRead, Bool.false_eq_true] at hr <;> simp only [cop] at h ⊢
  case move x => exact nd_mono (fun _ => hk _) h
  case assign x => exact nd_mono (fun _ => hk _) h
  case pick c x y => exact cbr_mono (nd_mono fun _ => hk _) (nd_mono fun _ => hk _) h
  case load t x => exact nd_mono (fun _ => asPtr_mono fun _ => ldT_mono fun _ => hk _) h
  case nilCheck x =>
    refine nd_mono (fun v h => ?_) h
    cases v <;> first
      | exact deref_mono (fun _ => hk _) h
      | exact owe_mono (hk _) h
      | exact h
  case binOp op t x y ty2 =>
    refine nd_mono (fun u => nd_mono fun v => tf_mono (cbin_mono hk) fun h => ?_) h
    exact eqOp_mono (fun neg => ceq_mono (fun _ => hk _)) h
  case unOp op t x => exact cun_mono hk h
  case convert s d x => exact nd_mono (fun _ => cconv_mono hk) h
  case makeFunc fn f c => exact ndL_mono (fun _ => ndL_mono fun _ => hk _) h
  case slice t x lo hi mx =>
    refine nd_mono (fun v => ndO_mono fun l => ndO_mono fun h => ndO_mono fun m h => ?_) h
    cases v <;> first
      | exact opt_mono (fun _ => opt_mono fun _ => slc_mono fun _ => hk _) h
      | (refine opt_mono (fun d h => ?_) h
         cases d <;> first
           | exact h.elim
           | (cases m <;> first | exact h.elim | exact slcStr_mono (fun _ => hk _) h))
      | exact h
  case fieldAddr s x f => exact nd_mono (fun _ => asPtr_mono fun _ => opt_mono fun _ => opt_mono fun _ => cnd_mono (hk _)) h
  case field s x f => exact nd_mono (fun _ => asAggE_mono fun _ => opt_mono fun _ => opt_mono fun _ => opt_mono fun _ => tf_mono (hk _) (opt_mono fun _ => hk _)) h
  case indexAddr t x ix =>
    refine nd_mono (fun v => nd_mono fun _ => asIntE_mono fun n h => ?_) h
    cases v <;> first
      | exact opt_mono (fun _ => opt_mono fun _ => owe_mono (deref_mono fun _ => hk _)) h
      | (refine opt_mono (fun d h => ?_) h
         cases d <;> first
           | exact h.elim
           | exact opt_mono (fun _ => owe_mono (deref_mono fun _ => hk _)) h)
      | exact h
  case index t x ix =>
    refine nd_mono (fun v => nd_mono fun _ => asIntE_mono fun n h => ?_) h
    cases v <;> first
      | (refine opt_mono (fun d h => ?_) h
         cases d <;> first
           | exact h.elim
           | exact owe_mono (hk _) h)
      | exact h
  case lookup t x ix ok =>
    exact nd_mono (fun _ => nd_mono fun _ => asMap_mono fun _ => opt_mono fun _ => opt_mono fun _ => tf_mono (opt_mono fun _ => opt_mono fun _ => opt_mono fun _ => mapAt_mono fun _ _ => tf_mono (hk _) (hk _)) id) h
  case extract t ix =>
    cases hx : Env.ev e t with
    | nx0 =>
      rw [hx] at h
      match ix, h with
      | 0, h => exact hk _ h
      | _ + 1, h => exact h.elim
    | nx1 k1 v1 =>
      rw [hx] at h
      match ix, h with
      | 0, h => exact hk _ h
      | 1, h => exact hk _ h
      | 2, h => exact hk _ h
      | _ + 3, h => exact h.elim
    | ent k1 v1 =>
      rw [hx] at h
      match ix, h with
      | 0, h => exact opt_mono (fun _ h => opt_mono (fun _ ⟨p, hp, h⟩ => ⟨p, hp, hk _ h⟩) h) (show shOne P _ _ w from h)
      | 1, h => exact opt_mono (fun _ h => opt_mono (fun _ ⟨p, hp, h⟩ => ⟨p, hp, hk _ h⟩) h) (show shOne P _ _ w from h)
      | _ + 2, h => exact h.elim
    | no => rw [hx] at h; exact h.elim
    | lit b => rw [hx] at h; exact h.elim
    | val v =>
      rw [hx] at h
      cases v <;> first | exact h.elim | skip
      exact opt_mono (fun _ => hk _) (show opt _ _ w from h)
  case call c =>
    obtain ⟨callee, args, ats⟩ := c
    cases callee <;> (try (simp at hr; done))
    rename_i b
    refine ndL_mono (fun args h => ?_) h
    refine cbuiltin_mono (b := b) ?_ hk h
    cases b <;> first | rfl | simp at hr

theorem cop_same {o : Oper} (hr : isRead o = true) (h : cop P o e k w) : cop P o e (fun x w' => k x w' ∧ w' = w) w := cop_mono hr (fun _ h => ⟨h, rfl⟩) h

end
end Go.Eng
