import Derived.Test.YtlenkeefncbmcaaE10
set_option linter.unusedVariables false
set_option linter.unusedSimpArgs false
set_option linter.unusedSectionVars false
/-! The engine, part 11: operations that do not look at the world. -/
namespace Go.Eng
section
variable {w : World}
theorem nd_any {x : EV} {f : Value → Pr} (hh : nd x f w) : ∃ v, f v w ∧ ∀ (f' : Value → Pr) w', f' v w' → nd x f' w' := by
  cases x with
  | no => exact hh.elim
  | val v => exact ⟨v, hh, fun _ _ h => h⟩
  | lit b => exact ⟨_, hh, fun _ _ h => h⟩
  | nx0 => exact ⟨_, hh, fun _ _ h => h⟩
  | nx1 _ _ => exact ⟨_, hh, fun _ _ h => h⟩
  | ent _ _ => exact ⟨_, hh, fun _ _ h => h⟩
theorem nd_self {x : EV} {k : EV → Pr} (hh : nd x (fun _ => k x) w) : ∃ y v, y.v? = some v ∧ k y w ∧ ∀ (k' : EV → Pr) w', k' y w' → nd x (fun _ => k' x) w' := by
  cases x with
  | no => exact hh.elim
  | val v => exact ⟨_, v, rfl, hh, fun _ _ h => h⟩
  | lit b => exact ⟨_, _, rfl, hh, fun _ _ h => h⟩
  | nx0 => exact ⟨_, _, rfl, hh, fun _ _ h => h⟩
  | nx1 _ _ => exact ⟨_, _, rfl, hh, fun _ _ h => h⟩
  | ent _ _ => exact ⟨_, _, rfl, hh, fun _ _ h => h⟩
theorem opt_any {α : Type} {x : Option α} {f : α → Pr} (hh : opt x f w) : ∃ v, f v w ∧ ∀ (f' : α → Pr) w', f' v w' → opt x f' w' := by
  cases x with
  | none => exact hh.elim
  | some v => exact ⟨v, hh, fun _ _ h => h⟩
theorem cnd_any {p : Prop} [Decidable p] {f : Pr} (hh : cnd p f w) : f w ∧ ∀ (f' : Pr) w', f' w' → cnd p f' w' := by
  obtain ⟨hp, h⟩ := cnd_sound hh
  exact ⟨h, fun f' w' h' => by unfold cnd; rw [if_pos hp]; exact h'⟩
theorem deref_any {p : Option Addr} {f : Addr → Pr} (hh : deref p f w) : ∃ v, f v w ∧ ∀ (f' : Addr → Pr) w', f' v w' → deref p f' w' :=
  let ⟨a, h1, h2⟩ := hh; ⟨a, h2, fun _ _ h => ⟨a, h1, h⟩⟩
theorem cbr_any {x : EV} {f g : Pr} (hh : cbr x f g w) : (f w ∧ ∀ (f' g' : Pr) w', f' w' → cbr x f' g' w') ∨ (g w ∧ ∀ (f' g' : Pr) w', g' w' → cbr x f' g' w') := by
  unfold cbr at *
  split at hh
  · exact .inl ⟨hh, fun _ _ _ h => h⟩
  · exact .inr ⟨hh, fun _ _ _ h => h⟩
  · rename_i b
    unfold br at *
    cases b with
    | true => exact .inl ⟨by simpa using hh, fun f' g' w' h => by simpa using h⟩
    | false => exact .inr ⟨by simpa using hh, fun f' g' w' h => by simpa using h⟩
  · exact hh.elim
theorem asPtr_any {v : Value} {f : Addr → Pr} (hh : asPtr v f w) : ∃ a, f a w ∧ ∀ (f' : Addr → Pr) w', f' a w' → asPtr v f' w' := by
  cases v with
  | pointer p => exact deref_any hh
  | _ => exact hh.elim
theorem asIntE_any {v : Value} {f : Int → Pr} (hh : asIntE v f w) : ∃ a, f a w ∧ ∀ (f' : Int → Pr) w', f' a w' → asIntE v f' w' := by
  cases v with
  | int k n => exact ⟨n, hh, fun _ _ h => h⟩
  | _ => exact hh.elim
theorem asAggE_any {v : Value} {f : Array Value → Pr} (hh : asAggE v f w) : ∃ a, f a w ∧ ∀ (f' : Array Value → Pr) w', f' a w' → asAggE v f' w' := by
  cases v with
  | agg k => exact ⟨k, hh, fun _ _ h => h⟩
  | _ => exact hh.elim
theorem ndO_any {x : Option EV} {f : Option Int → Pr} (hh : ndO x f w) : ∃ a, f a w ∧ ∀ (f' : Option Int → Pr) w', f' a w' → ndO x f' w' := by
  cases x with
  | none => exact ⟨none, hh, fun _ _ h => h⟩
  | some x =>
    obtain ⟨v, h1, h2⟩ := nd_any hh
    obtain ⟨n, h3, h4⟩ := asIntE_any h1
    exact ⟨some n, h3, fun f' w' h => h2 _ _ (h4 (fun n => f' (some n)) _ h)⟩
theorem ndL_any : ∀ {l : List EV} {f : List Value → Pr}, ndL l f w → ∃ a, f a w ∧ ∀ (f' : List Value → Pr) w', f' a w' → ndL l f' w'
  | [], _, hh => ⟨[], hh, fun _ _ h => h⟩
  | x :: l, f, hh => by
    obtain ⟨v, h1, h2⟩ := nd_any hh
    obtain ⟨vs, h3, h4⟩ := ndL_any h1
    exact ⟨v :: vs, h3, fun f' w' h => h2 _ _ (h4 (fun vs => f' (v :: vs)) _ h)⟩
theorem slc_any {n : Nat} {s : Sl} {lo hi mx : Option Int} {f : Sl → Pr} (hh : slc n s lo hi mx f w) : ∃ r, f r w ∧ ∀ (f' : Sl → Pr) w', f' r w' → slc n s lo hi mx f' w' :=
  ⟨_, hh.2.2.2.2, fun _ _ h => ⟨hh.1, hh.2.1, hh.2.2.1, hh.2.2.2.1, h⟩⟩
theorem slcStr_any {s : ByteArray} {lo hi : Option Int} {f : ByteArray → Pr} (hh : slcStr s lo hi f w) : ∃ r, f r w ∧ ∀ (f' : ByteArray → Pr) w', f' r w' → slcStr s lo hi f' w' :=
  ⟨_, hh.2.2, fun _ _ h => ⟨hh.1, hh.2.1, h⟩⟩
theorem cbin_any {op : BinOp} {x y : Value} {k : EV → Pr} (hh : cbin op x y k w) : ∃ v, k (.val v) w ∧ ∀ (k' : EV → Pr) w', k' (.val v) w' → cbin op x y k' w' := by
  unfold cbin at *
  split at hh <;> first
    | exact hh.elim
    | exact ⟨_, hh.2, fun _ _ h => ⟨hh.1, h⟩⟩
    | (split at hh
       · rename_i hk
         first
           | exact ⟨_, hh.2, fun k' w' h => by rw [if_pos hk]; exact ⟨hh.1, h⟩⟩
           | exact ⟨_, hh, fun k' w' h => by rw [if_pos hk]; exact h⟩
       · exact hh.elim)
    | exact ⟨_, hh, fun _ _ h => h⟩
theorem ceq_any {P : Program} {t : TypeId} {x y : Value} {f : Bool → Pr} (hh : ceq P t x y f w) : ∃ b, f b w ∧ ∀ (f' : Bool → Pr) w', f' b w' → ceq P t x y f' w' := by
  obtain ⟨d, h1, g1⟩ := opt_any hh
  obtain ⟨r, h2, g2⟩ := opt_any h1
  exact ⟨r.2, h2.2, fun f' w' h => g1 _ _ (g2 _ _ ⟨h2.1, h⟩)⟩
theorem eqOp_any {op : BinOp} {f : Bool → Pr} (hh : eqOp op f w) : ∃ b, f b w ∧ ∀ (f' : Bool → Pr) w', f' b w' → eqOp op f' w' := by
  cases op <;> first | exact hh.elim | exact ⟨_, hh, fun _ _ h => h⟩
theorem cun_any {op : UnOp} {x : EV} {k : EV → Pr} (hh : cun op x k w) : ∃ y v, y.v? = some v ∧ k y w ∧ ∀ (k' : EV → Pr) w', k' y w' → cun op x k' w' := by
  unfold cun at *
  split at hh <;> first
    | exact hh.elim
    | exact ⟨_, _, rfl, hh, fun _ _ h => h⟩
end

/-- it does not look at the world -/
def noMapT (P : Program) (t : TypeId) : Bool :=
  match P.underlying t with
  | some (.map _ _) => false
  | some _ => true
  | none => false

def pureB (P : Program) (b : Builtin) (ts : List TypeId) : Bool :=
  match b with
  | .min => true
  | .max => true
  | .len => (match ts with | t :: _ => noMapT P t | [] => false)
  | .cap => (match ts with | t :: _ => noMapT P t | [] => false)
  | _ => false

def isPure (P : Program) (o : Oper) : Bool :=
  match o.op with
  | .move _ | .assign _ | .pick _ _ _ | .nilCheck _ | .binOp _ _ _ _ _ | .unOp _ _ _ | .makeFunc _ _ _ | .slice _ _ _ _ _ | .fieldAddr _ _ _ | .field _ _ _
  | .indexAddr _ _ _ | .extract _ _ => true
  | .convert s d _ => isIntT P s && isIntT P d
  | .call { callee := .builtin b, argTypes := ts, .. } => pureB P b ts.toList
  | _ => false

section
variable {P : Program} {e : Env} {a : Act} {w : World} {k : EV → Pr}

theorem minL_any {l : List Value} {f : Value → Pr} (hh : minL l f w) : ∃ v, f v w ∧ ∀ (f' : Value → Pr) w', f' v w' → minL l f' w' := by
  unfold minL at hh
  split at hh <;> first | exact hh.elim | exact ⟨_, hh, fun _ _ h => h⟩
theorem maxL_any {l : List Value} {f : Value → Pr} (hh : maxL l f w) : ∃ v, f v w ∧ ∀ (f' : Value → Pr) w', f' v w' → maxL l f' w' := by
  unfold maxL at hh
  split at hh <;> first | exact hh.elim | exact ⟨_, hh, fun _ _ h => h⟩

theorem cbuiltin_any {b : Builtin} {ts : List TypeId} {args : List Value} (hb : pureB P b ts = true) (h : cbuiltin P b ts args k w) :
    ∃ x v, x.v? = some v ∧ k x w ∧ ∀ (k' : EV → Pr) w', k' x w' → cbuiltin P b ts args k' w' := by
  cases b <;> simp only [pureB, Bool.false_eq_true] at hb
  case min =>
    obtain ⟨v, h1, g1⟩ := minL_any (show minL args _ w from h)
    exact ⟨.val v, v, rfl, h1, fun k' w' h => g1 (fun v => k' (.val v)) _ h⟩
  case max =>
    obtain ⟨v, h1, g1⟩ := maxL_any (show maxL args _ w from h)
    exact ⟨.val v, v, rfl, h1, fun k' w' h => g1 (fun v => k' (.val v)) _ h⟩
  case len =>
    cases ts with
    | nil => cases hb
    | cons t ts =>
      match args, h with
      | [.slice a n c], h =>
        simp only [cbuiltin] at h ⊢
        obtain ⟨t', h1, g1⟩ := opt_any h
        obtain ⟨e, h2, g2⟩ := opt_any h1
        exact ⟨_, _, rfl, h2, fun k' w' h => g1 _ _ (g2 (fun _ => k' (.val (.int .i64 n))) _ h)⟩
      | [.string s], h =>
        simp only [cbuiltin] at h ⊢
        obtain ⟨t', h1, g1⟩ := opt_any h
        obtain ⟨d, h2, g2⟩ := opt_any h1
        cases d <;> first | exact h2.elim | skip
        exact ⟨_, _, rfl, h2, fun k' w' h => g1 _ _ (g2 _ _ h)⟩
      | [.map r], h =>
        exfalso
        simp only [cbuiltin] at h
        obtain ⟨t', ht, h1⟩ := opt_sound h
        simp only [List.getElem?_cons_zero, Option.some.injEq] at ht
        subst ht
        obtain ⟨ke, hke, _⟩ := opt_sound h1
        have := mapElem_sound hke
        simp [noMapT, this] at hb
  case cap =>
    cases ts with
    | nil => cases hb
    | cons t ts =>
      match args, h with
      | [.slice a m n], h =>
        simp only [cbuiltin] at h ⊢
        obtain ⟨t', h1, g1⟩ := opt_any h
        obtain ⟨e, h2, g2⟩ := opt_any h1
        exact ⟨_, _, rfl, h2, fun k' w' h => g1 _ _ (g2 (fun _ => k' (.val (.int .i64 n))) _ h)⟩

theorem cop_any {o : Oper} (hr : isPure P o = true) (h : cop P o e k w) : ∃ x v, x.v? = some v ∧ k x w ∧ ∀ (k' : EV → Pr) w', k' x w' → cop P o e k' w' := by
  obtain ⟨dst, op, ty, pos, after, guard⟩ := o
  cases op <;> simp only [isPure, Bool.false_eq_true] at hr <;> simp only [cop] at h ⊢
  case move x => exact nd_self h
  case assign x => exact nd_self h
  case pick c x y =>
    unfold cpick at *
    rcases cbr_any h with ⟨h, g⟩ | ⟨h, g⟩
    · obtain ⟨z, v, h1, h2, h3⟩ := nd_self h
      exact ⟨z, v, h1, h2, fun k' w' h => g _ _ _ (h3 k' w' h)⟩
    · obtain ⟨z, v, h1, h2, h3⟩ := nd_self h
      exact ⟨z, v, h1, h2, fun k' w' h => g _ _ _ (h3 k' w' h)⟩
  case nilCheck x =>
    obtain ⟨v, h1, h2⟩ := nd_any h
    clear h
    cases v with
    | pointer p =>
      obtain ⟨ad, h3, h4⟩ := deref_any h1
      exact ⟨_, _, rfl, h3, fun k' w' h => h2 _ _ (h4 _ _ h)⟩
    | func fn f1 f2 => exact ⟨_, _, rfl, h1.2, fun k' w' h => h2 _ _ ⟨h1.1, h⟩⟩
    | int _ _ => exact h1.elim
    | bool _ => exact h1.elim
    | string _ => exact h1.elim
    | nilIface => exact h1.elim
    | slice _ _ _ => exact h1.elim
    | map _ => exact h1.elim
    | float _ _ => exact (h1.1 : False).elim
    | complex _ _ _ => exact (h1.1 : False).elim
    | chan _ => exact (h1.1 : False).elim
    | nilFunc => exact (h1.1 : False).elim
    | iface _ _ => exact (h1.1 : False).elim
    | agg _ => exact (h1.1 : False).elim
    | tuple _ => exact (h1.1 : False).elim
  case binOp op t x y ty2 =>
    obtain ⟨u, h1, h2⟩ := nd_any h
    obtain ⟨v, h3, h4⟩ := nd_any h1
    clear h h1
    cases hn : numStr v u with
    | true =>
      rw [hn] at h3
      obtain ⟨r, h5, h6⟩ := cbin_any h3
      exact ⟨_, _, rfl, h5, fun k' w' h => h2 _ _ (h4 _ _ (by rw [hn]; exact h6 _ _ h))⟩
    | false =>
      rw [hn] at h3
      obtain ⟨neg, h4', g4⟩ := eqOp_any (f := fun neg => ceq P t u v fun b => k (.val (.bool (if neg then !b else b)))) h3
      obtain ⟨r, h5, h6⟩ := ceq_any h4'
      exact ⟨_, _, rfl, h5, fun k' w' h => h2 _ _ (h4 _ _ (by rw [hn]; exact g4 (fun neg => ceq P t u v fun b => k' (.val (.bool (if neg then !b else b)))) _ (h6 (fun b => k' (.val (.bool (if neg then !b else b)))) _ h)))⟩
  case unOp op t x => exact cun_any h
  case makeFunc fn f c =>
    obtain ⟨u, h1, h2⟩ := ndL_any h
    obtain ⟨v, h3, h4⟩ := ndL_any h1
    exact ⟨_, _, rfl, h3, fun k' w' h => h2 _ _ (h4 _ _ h)⟩
  case slice t x lo hi mx =>
    obtain ⟨v, h1, g1⟩ := nd_any h
    obtain ⟨l, h2, g2⟩ := ndO_any h1
    obtain ⟨hh, h3, g3⟩ := ndO_any h2
    obtain ⟨m, h4, g4⟩ := ndO_any h3
    clear h h1 h2 h3
    cases v <;> first | exact h4.elim | skip
    · obtain ⟨d, h5, g5⟩ := opt_any h4
      clear h4
      cases d <;> first | exact h5.elim | skip
      cases m <;> first | exact h5.elim | skip
      obtain ⟨r, h6, g6⟩ := slcStr_any h5
      exact ⟨_, _, rfl, h6, fun k' w' h => g1 _ _ (g2 _ _ (g3 _ _ (g4 _ _ (g5 _ _ (g6 _ _ h)))))⟩
    · obtain ⟨d, h5, g5⟩ := opt_any h4
      obtain ⟨i, h6, g6⟩ := opt_any h5
      obtain ⟨r, h7, g7⟩ := slc_any h6
      exact ⟨_, _, rfl, h7, fun k' w' h => g1 _ _ (g2 _ _ (g3 _ _ (g4 _ _ (g5 _ _ (g6 _ _ (g7 (fun s => k' (.val (.slice s.a s.len s.cap))) _ h))))))⟩
  case fieldAddr s x f =>
    obtain ⟨v, h1, g1⟩ := nd_any h
    obtain ⟨ad, h2, g2⟩ := asPtr_any h1
    obtain ⟨fl, h3, g3⟩ := opt_any h2
    obtain ⟨i, h4, g4⟩ := opt_any h3
    obtain ⟨h5, g5⟩ := cnd_any h4
    exact ⟨_, _, rfl, h5, fun k' w' h => g1 _ _ (g2 _ _ (g3 _ _ (g4 _ _ (g5 _ _ h))))⟩
  case field s x f =>
    obtain ⟨v, h1, g1⟩ := nd_any h
    obtain ⟨ad, h2, g2⟩ := asAggE_any h1
    obtain ⟨fl, h3, g3⟩ := opt_any h2
    obtain ⟨i, h4, g4⟩ := opt_any h3
    obtain ⟨d, h5, g5⟩ := opt_any h4
    clear h h1 h2 h3 h4
    cases hb : isAggT P fl.type with
    | true =>
      rw [hb] at h5
      exact ⟨_, _, rfl, h5, fun k' w' h => g1 _ _ (g2 _ _ (g3 _ _ (g4 _ _ (g5 _ _ (by rw [hb]; exact h)))))⟩
    | false =>
      rw [hb] at h5
      obtain ⟨c, h6, g6⟩ := opt_any h5
      exact ⟨_, _, rfl, h6, fun k' w' h => g1 _ _ (g2 _ _ (g3 _ _ (g4 _ _ (g5 _ _ (by rw [hb]; exact g6 (fun c => k' (.val c)) _ h)))))⟩
  case indexAddr t x ix =>
    obtain ⟨v, h1, g1⟩ := nd_any h
    obtain ⟨iv, h2, g2⟩ := nd_any h1
    obtain ⟨n, h3, g3⟩ := asIntE_any h2
    clear h h1 h2
    cases v <;> first | exact h3.elim | skip
    · obtain ⟨d, h5, g5⟩ := opt_any h3
      clear h3
      cases d <;> first | exact h5.elim | skip
      obtain ⟨i, h6, g6⟩ := opt_any h5
      obtain ⟨hb, h7⟩ := h6
      obtain ⟨ad, h8, g8⟩ := deref_any h7
      exact ⟨_, _, rfl, h8, fun k' w' h => g1 _ _ (g2 _ _ (g3 _ _ (g5 _ _ (g6 _ _ ⟨hb, g8 _ _ h⟩))))⟩
    · obtain ⟨d, h5, g5⟩ := opt_any h3
      obtain ⟨i, h6, g6⟩ := opt_any h5
      obtain ⟨hb, h7⟩ := h6
      obtain ⟨ad, h8, g8⟩ := deref_any h7
      exact ⟨_, _, rfl, h8, fun k' w' h => g1 _ _ (g2 _ _ (g3 _ _ (g5 _ _ (g6 _ _ ⟨hb, g8 _ _ h⟩))))⟩
  case convert s d x =>
    rw [Bool.and_eq_true] at hr
    obtain ⟨v, h1, g1⟩ := nd_any h
    unfold cconv at h1
    obtain ⟨s', hs, h2⟩ := opt_sound h1
    obtain ⟨d', hd, h3⟩ := opt_sound h2
    have hs2 := hr.1
    have hd2 := hr.2
    unfold isIntT at hs2 hd2
    rw [hs] at hs2
    rw [hd] at hd2
    cases s' <;> (try (simp at hs2; done))
    cases d' <;> (try (simp at hd2; done))
    cases v <;> first | exact h3.elim | skip
    refine ⟨_, _, rfl, h3, fun k' w' h => g1 _ _ ?_⟩
    unfold cconv
    rw [hs, hd]
    exact h
  case call c =>
    obtain ⟨callee, args, ats⟩ := c
    cases callee <;> (try (simp at hr; done))
    rename_i b
    obtain ⟨vs, h1, g1⟩ := ndL_any h
    obtain ⟨x, v, hx, h2, g2⟩ := cbuiltin_any (P := P) (show pureB P b ats.toList = true from hr) h1
    exact ⟨x, v, hx, h2, fun k' w' h => g1 _ _ (g2 k' w' h)⟩
  case extract t ix =>
    cases hx : Env.ev e t with
    | nx0 =>
      rw [hx] at h
      match ix, h with
      | 0, h => exact ⟨.lit false, _, rfl, h, fun k' w' h' => h'⟩
      | _ + 1, h => exact h.elim
    | nx1 k1 v1 =>
      rw [hx] at h
      match ix, h with
      | 0, h => exact ⟨.lit true, _, rfl, h, fun k' w' h' => h'⟩
      | 1, h => exact ⟨.val k1, _, rfl, h, fun k' w' h' => h'⟩
      | 2, h => exact ⟨.val v1, _, rfl, h, fun k' w' h' => h'⟩
      | _ + 3, h => exact h.elim
    | ent k1 v1 =>
      rw [hx] at h
      match ix, h with
      | 0, h =>
        obtain ⟨l, h1, g1⟩ := opt_any (show shOne P _ _ w from h)
        obtain ⟨s, h2, g2⟩ := opt_any h1
        obtain ⟨p, hp, h3⟩ := h2
        exact ⟨_, _, rfl, h3, fun k' w' h' => g1 _ _ (g2 (fun s w => sayC s k1 (fun p => k' (.val (valC s p))) w) _ ⟨p, hp, h'⟩)⟩
      | 1, h =>
        obtain ⟨l, h1, g1⟩ := opt_any (show shOne P _ _ w from h)
        obtain ⟨s, h2, g2⟩ := opt_any h1
        obtain ⟨p, hp, h3⟩ := h2
        exact ⟨_, _, rfl, h3, fun k' w' h' => g1 _ _ (g2 (fun s w => sayC s v1 (fun p => k' (.val (valC s p))) w) _ ⟨p, hp, h'⟩)⟩
      | _ + 2, h => exact h.elim
    | no => rw [hx] at h; exact h.elim
    | lit b => rw [hx] at h; exact h.elim
    | val v =>
      rw [hx] at h
      cases v <;> first | exact h.elim | skip
      obtain ⟨c, h2, g2⟩ := opt_any (show opt _ _ w from h)
      exact ⟨_, _, rfl, h2, fun k' w' h => g2 (fun c => k' (.val c)) _ h⟩

end
end Go.Eng
