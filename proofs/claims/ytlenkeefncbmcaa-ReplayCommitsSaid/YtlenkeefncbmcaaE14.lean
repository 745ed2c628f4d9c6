import Derived.Test.YtlenkeefncbmcaaE13
import Derived.RangeFuncNested
set_option linter.unusedVariables false
set_option linter.unusedSimpArgs false
set_option linter.unusedSectionVars false
/-! The engine, part 14: code. -/
namespace Go.Eng

inductive An where
  | z
  | sq (x y : An)
  | br (x y : An)
  | bl (x : An)
  | sc (x : An)
  | lp (l : Live) (x : An)
  | jn (l : Live) (x : An)
  | rf (shs : List Sh) (x y : An)
  | jm (l : Live) (x : An)

structure Ks where
  n : Env → Pr
  r : Env → Pr
  x : List (Nat × (Env → Pr))
  rg : Bool

def xget : List (Nat × (Env → Pr)) → Nat → Env → Pr
  | [], _, _ => fls
  | (j, k) :: l, i, e =>
    match Nat.beq i j with
    | true => k e
    | false => xget l i e

def wrC : Code → List Nat
  | .region _ ops _ => wrOps ops
  | .seq a b => wrC a ++ wrC b
  | .cond _ a b => wrC a ++ wrC b
  | .block _ a => wrC a
  | .loop a => wrC a
  | .scope a => wrC a
  | .rangeFunc _ _ _ _ => [markN]
  | _ => []

def drawOk (P : Program) (ops : Array Oper) : Bool := Region.noSelect ops && noDefer ops && (P.follows .mixedOrders || !Region.departs ops)

def cReg (P : Program) (ops : Array Oper) (draw : Bool) (e : Env) (k : Env → Pr) : Pr :=
  match draw with
  | false => cOps P ops (List.range ops.size) e k
  | true => tf (drawOk P ops) (drw (cDraw P ops ops.size (Array.replicate ops.size false) e k)) fls

def liveIn (l : Live) (W : List Nat) : Bool := !W.contains markN && l.all fun x => W.contains x.1

def jcode : Option Nat → Code
  | none => .ret
  | some i => .exit i

def xg : List (Nat × Pr) → Nat → Pr
  | [], _ => fls
  | (j, k) :: l, i =>
    match Nat.beq i j with
    | true => k
    | false => xg l i

/-- behind a range over a function, by a jump -/
def jmp (r : Pr) (x : List (Nat × Pr)) : Option Nat → Pr
  | none => r
  | some i => xg x i

def hasRet : Code → Bool
  | .ret => true
  | .seq a b => hasRet a || hasRet b
  | .cond _ a b => hasRet a || hasRet b
  | .block _ a => hasRet a
  | .loop a => hasRet a
  | .scope a => hasRet a
  | .rangeFunc _ _ a b => hasRet a || hasRet b
  | _ => false

def hasExit (i : Nat) : Code → Bool
  | .exit j => Nat.beq i j
  | .seq a b => hasExit i a || hasExit i b
  | .cond _ a b => hasExit i a || hasExit i b
  | .block _ a => hasExit i a
  | .loop a => hasExit i a
  | .scope a => hasExit i a
  | .rangeFunc _ _ a b => hasExit i a || hasExit i b
  | _ => false

def xat (c : Code) (e : Env) : List (Nat × (Env → Pr)) → List (Nat × Pr)
  | [] => []
  | (i, k) :: l =>
    match hasExit i c with
    | true => (i, k e) :: xat c e l
    | false => xat c e l

/-- a range over a function: the record of the loop is L; what a round does, R, gives what a call of yield does -/
def rngE (P : Program) (v : Value) (shs : List Sh) (R : Nat → PayL shs → (Pr → Pr) → Pr → (Option Nat → Pr) → Pr) (K Jr : Nat → Pr) (Jx : Nat → List (Nat × Pr)) : Pr := fun w =>
  ∃ f caps, v = .func (.func f) #[] caps ∧ callable P f = true ∧
  ∀ L : LoopState → Option Code → Obj, (∀ s p, ∃ r, L s p = .loop r) →
    (∀ (W : World) (args : PayL shs) (k : Bool → Pr), W.heap[w.heap.size + 1]? = some (L .ready none) →
      R (w.heap.size + 1) args (fun c W1 => W1.heap[w.heap.size + 1]? = some (L .ready none) ∧ c (W1.putObj (w.heap.size + 1) (L .busy none)))
        (fun W1 => W1.heap[w.heap.size + 1]? = some (L .busy none) ∧ k true (W1.putObj (w.heap.size + 1) (L .ready none)))
        (fun j W1 => W1.heap[w.heap.size + 1]? = some (L .busy none) ∧ k false (W1.putObj (w.heap.size + 1) (L .done (some (jcode j))))) W →
      YieldAt Fence.wide 0 P (w.heap.size + 1) (valL shs args).toArray W (RetT [.c .bool] k)) →
    Calls P f (#[.func (.yield (w.heap.size + 1)) #[] #[]] ++ caps) ((w.alloc (.deferred (some []))).alloc (L .ready none)) fun e W1 =>
      (∃ u, e = .returned u) ∧
      ((W1.heap[w.heap.size + 1]? = some (L .ready none) ∧ K w.heap.size (W1.putObj (w.heap.size + 1) (L .exhausted none))) ∨
       ∃ j, W1.heap[w.heap.size + 1]? = some (L .done (some (jcode j))) ∧ jmp (Jr w.heap.size) (Jx w.heap.size) j (W1.putObj (w.heap.size + 1) (L .exhausted (some (jcode j)))))

def setPs : List Nat → List Value → Env → Env
  | p :: ps, v :: vs, e => setPs ps vs (Env.set e p (.val v))
  | _, _, e => e

def xlv (lv : Option Nat → Pr) : List (Nat × (Env → Pr)) → List (Nat × (Env → Pr))
  | [] => []
  | (i, _) :: l => (i, fun _ => lv (some i)) :: xlv lv l

def takes : List Nat → Pr → Pr
  | [], k => k
  | D :: ds, k => fun w => w.heap[D]? = some (.deferred (some [])) ∧ takes ds k (w.putObj D (.deferred none))

def cC (P : Program) : An → Code → Env → Ks → Pr
  | .z, .skip, e, K => K.n e
  | .z, .label _, e, K => K.n e
  | .z, .region _ ops draw, e, K => cReg P ops draw e K.n
  | .z, .exit i, e, K => xget K.x i e
  | .z, .ret, e, K => K.r e
  | .sq x y, .seq a b, e, K => cC P x a e { K with n := fun e' => cC P y b e' K }
  | .br x y, .cond c a b, e, K => cbr (Env.ev e c) (cC P x a e K) (cC P y b e K)
  | .bl x, .block id a, e, K => cC P x a e { K with x := (id, K.n) :: K.x }
  | .sc x, .scope a, e, K => cC P x a e K
  | .lp l x, .loop a, e, K => tf (liveIn l (wrC a)) (need e l fun s => loopE (fun X s => cC P x a (upd (Env.forget e (wrC a)) l s) { K with n := fun e' => need e' l X }) s) fls
  | .jn l x, c, e, K => tf (liveIn l (wrC c)) (jn (fun R => cC P x c e { K with n := fun e' => need e' l R }) (fun s => K.n (upd (Env.forget e (wrC c)) l s))) fls
  | .rf shs x y, .rangeFunc g ps assign body, e, K => tf (!K.rg && Nat.beq shs.length ps.size) (nd (Env.ev e g) fun v =>
      rngE P v shs (fun _ args bg nx lv => cC P x assign (setPs ps.toList (valL shs args) ⟨e.l, []⟩) ⟨fun e1 => bg (cC P y body e1 ⟨fun _ => nx, fun _ => lv none, xlv lv K.x, true⟩), fun _ => fls, [], true⟩)
        (fun D => K.n (Env.mark e D)) (fun D => tf (hasRet body) (K.r (Env.mark e D)) fls) (fun D => xat body (Env.mark e D) K.x)) fls
  | .jm l x, c, e, K => tf (l.all fun z => (wrC c).contains z.1) (jn (fun R => cC P x c e { K with n := fun e' => need e' l fun s => R (e'.ds, s) }) (fun s => K.n (upd ⟨(Env.forget e (wrC c)).l, s.1⟩ l s.2))) fls
  | _, _, _, _ => fls

theorem stepR_scope' {P : Program} {b : Frame} {a : Act} {k : List Item} {cs : List Frame} {w : World} {c : Code} :
    step P (lone (b.atR a (.code (.scope c) :: k)) cs w) = .next (lone (b.atR a (.code c :: .inScope c :: k)) cs w) :=
  step_lone_go (by simp [stepG, stepG.exec, Frame.atR])

theorem stepR_inScope' {P : Program} {b : Frame} {a : Act} {k : List Item} {cs : List Frame} {w : World} {c : Code} :
    step P (lone (b.atR a (.inScope c :: k)) cs w) = .next (lone (b.atR a k) cs w) :=
  step_lone_go (by simp [stepG, stepG.exec, Frame.atR])

def noGo (Q : Exit → Act → World → Prop) : Exit → Act → World → Prop
  | .goto _, _, _ => False
  | e, a, w => Q e a w

theorem wpIn_scope' {F : Fence} {n : Nat} {P : Program} {Q : Exit → Act → World → Prop} {a : Act} {w : World} {c : Code} (h : c.wpIn F n P (noGo Q) a w) : (Code.scope c).wpIn F n P Q a w := by
  intro b k cs hro hb hr
  have h0 : (lone (b.atR a (.code (.scope c) :: k)) cs w).fenced P F := fenced_calm hb hr rfl
  obtain ⟨e, a₁, w₁, hq, harr⟩ := h b (.inScope c :: k) cs hro hb hr
  cases e with
  | normal => exact ⟨.normal, a₁, w₁, hq, .head h0 stepR_scope' (StepsIn.trans harr (.one (fenced_calm hb hr rfl) stepR_inScope'))⟩
  | exit id =>
    have hx : exitTo id (.inScope c :: k) = exitTo id k := by simp [exitTo]
    exact ⟨_, a₁, w₁, hq, fun k' hk => .head h0 stepR_scope' (harr.1 k' (by rw [hx]; exact hk)),
      fun hr' hk => let ⟨k₁, h1, h2⟩ := harr.2 hr' (by rw [hx]; exact hk); ⟨k₁, h1, .head h0 stepR_scope' h2⟩⟩
  | goto l => exact hq.elim
  | ret => exact ⟨_, a₁, w₁, hq, .of_steps (.one h0 stepR_scope') harr⟩
  | panic ch => exact ⟨_, a₁, w₁, hq, .of_steps (.one h0 stepR_scope') harr⟩
  | outgrown => exact ⟨_, a₁, w₁, hq, .of_steps (.one h0 stepR_scope') harr⟩

theorem least {S : Type} (p : S → Prop) (f : S → Nat) (h : ∃ s, p s) : ∃ s, p s ∧ ∀ s', p s' → f s ≤ f s' := by
  have key : ∀ m s, p s → f s = m → ∃ s, p s ∧ ∀ s', p s' → f s ≤ f s' := by
    intro m
    induction m using Nat.strongRecOn with
    | _ m ih =>
      intro s hs hm
      rcases Classical.em (∃ s', p s' ∧ f s' < m) with ⟨s', h1, h2⟩ | hno
      · exact ih _ h2 s' h1 rfl
      · refine ⟨s, hs, fun s' hs' => ?_⟩
        rw [hm]
        exact Nat.le_of_not_lt fun hlt => hno ⟨s', hs', hlt⟩
  obtain ⟨s, hs⟩ := h
  exact key _ s hs rfl

theorem wpIn_loopG {F : Fence} {n : Nat} {P : Program} {Q : Exit → Act → World → Prop} {c : Code} {S : Type} (I : S → Act → World → Prop) (μ : S → World → Nat) {s : S} {a : Act} {w : World} (h₀ : I s a w)
    (round : ∀ s a w, I s a w → c.wpIn F n P (Exit.then (fun a' w' => ∃ s', I s' a' w' ∧ μ s' w' < μ s w) Q) a w) : (Code.loop c).wpIn F n P Q a w := by
  classical
  let ν : Act → World → Nat := fun a w => if h : ∃ s, I s a w then μ (Classical.choose (least (fun s => I s a w) (fun s => μ s w) h)) w else 0
  refine wpIn_loop (fun a w => ∃ s, I s a w) ν ⟨s, h₀⟩ ?_
  intro a w hex
  obtain ⟨hs1, _⟩ := Classical.choose_spec (least (fun s => I s a w) (fun s => μ s w) hex)
  have hν : ν a w = μ (Classical.choose (least (fun s => I s a w) (fun s => μ s w) hex)) w := by simp only [ν]; rw [dif_pos hex]
  refine wpIn_mono (round _ a w hs1) ?_
  intro e a' w' h
  cases e with
  | normal =>
    obtain ⟨s', hs', hlt⟩ := h
    refine ⟨⟨s', hs'⟩, ?_⟩
    have hex' : ∃ s, I s a' w' := ⟨s', hs'⟩
    have h2 := (Classical.choose_spec (least (fun s => I s a' w') (fun s => μ s w') hex')).2 s' hs'
    have hν' : ν a' w' = μ (Classical.choose (least (fun s => I s a' w') (fun s => μ s w') hex')) w' := by simp only [ν]; rw [dif_pos hex']
    rw [hν, hν']
    exact Nat.lt_of_le_of_lt h2 hlt
  | _ => exact h

section
variable {P : Program} {n : Nat} {r : Option Nat}

theorem region_any {Q : Exit → Act → World → Prop} {ops : Array Oper} {id : Nat} {a : Act} {w : World} (hm : (P.follows .mixedOrders || !Region.departs ops) = true)
    (h : wpAnyIn (wf r) n P .any ops Q ops.size (Array.replicate ops.size false) a w.drew) : (Code.region id ops true).wpIn (wf r) n P Q a w :=
  wpIn_region_draw fun t => by
    simp only [Region.schedule, hm, if_true]
    exact wpAnyIn_sound ops.size t _ a _ h

theorem cReg_sound {ops : Array Oper} {id : Nat} {draw : Bool} {Q : Exit → Act → World → Prop} {e : Env} {a : Act} {w : World} {k : Env → Pr} (hQ : ∀ c a w, ¬ Q (.panic c) a w) (he : Ag e a) (h : cReg P ops draw e k w)
    (hk : ∀ e' a' w', Ag e' a' → Ext (wrOps ops) e e' → k e' w' → Q .normal a' w') : (Code.region id ops draw).wpIn (wf r) n P Q a w := by
  cases draw with
  | false => exact wpIn_region (cOps_sound he h hk)
  | true =>
    rcases tf_sound (show tf (drawOk P ops) _ _ w from h) with ⟨hd, h⟩ | ⟨_, h⟩
    · simp only [drawOk, Bool.and_eq_true] at hd
      exact region_any hd.2 (wpAnyR_In hd.1.2 _ _ _ _ (cDraw_sound hd.1.1 hQ _ _ _ _ _ _ he h hk))
    · exact h.elim

theorem liveIn_spec {l : Live} {W : List Nat} (h : liveIn l W = true) : (∀ x ∈ l, x.1 ∈ W) ∧ markN ∉ W := by
  unfold liveIn at h
  rw [Bool.and_eq_true] at h
  refine ⟨fun x hx => ?_, by simpa using h.1⟩
  have := List.all_eq_true.1 h.2 x hx
  simpa using this

theorem valL_length : ∀ (l : List Sh) (p : PayL l), (valL l p).length = l.length
  | [], _ => rfl
  | [_], _ => rfl
  | _ :: t :: l, (p, q) => by
    show (val _ p :: valL (t :: l) q).length = _
    rw [List.length_cons, valL_length (t :: l) q]
    rfl

theorem setPs_ag : ∀ (ps : List Nat) (vs : List Value) (e : Env) (a : Act), Ag e a → Ag (setPs ps vs e) ((ps.zip vs).foldl (fun a x => a.put (some x.1) x.2) a)
  | [], vs, e, a, h => by cases vs <;> exact h
  | _ :: _, [], e, a, h => h
  | p :: ps, v :: vs, e, a, h => setPs_ag ps vs _ _ (h.put (some p) (x := .val v) (fun u hu => by simpa [EV.v?] using hu.symm))

theorem foldl_put : ∀ (l : List (Nat × Value)) (a : Act), l.foldl (fun a x => a.put (some x.1) x.2) a = { a with tmps := l.foldl (fun t x => t.setIfInBounds x.1 x.2) a.tmps }
  | [], a => rfl
  | x :: l, a => by
    rw [List.foldl_cons, List.foldl_cons, foldl_put l]
    rfl

theorem xg_none {c : Code} {e : Env} {i : Nat} {w : World} (hi : hasExit i c = false) : ∀ {l : List (Nat × (Env → Pr))}, xg (xat c e l) i w → False
  | [], h => h.elim
  | (j, k) :: l, h => by
    unfold xat at h
    cases hj : hasExit j c with
    | false => rw [hj] at h; exact xg_none hi (l := l) h
    | true =>
      rw [hj] at h
      unfold xg at h
      cases hb : Nat.beq i j with
      | true =>
        have : i = j := Nat.eq_of_beq_eq_true hb
        subst this
        rw [hi] at hj
        cases hj
      | false => rw [hb] at h; exact xg_none hi (l := l) h

theorem xg_xat {c : Code} {e : Env} {i : Nat} {w : World} (hi : hasExit i c = true) : ∀ {l : List (Nat × (Env → Pr))}, xg (xat c e l) i w → xget l i e w
  | [], h => h.elim
  | (j, k) :: l, h => by
    unfold xat at h
    unfold xget
    cases hb : Nat.beq i j with
    | true =>
      have : i = j := Nat.eq_of_beq_eq_true hb
      subst this
      rw [hi] at h
      unfold xg at h
      rw [hb] at h
      exact h
    | false =>
      cases hj : hasExit j c with
      | false => rw [hj] at h; exact xg_xat hi (l := l) h
      | true =>
        rw [hj] at h
        unfold xg at h
        rw [hb] at h
        exact xg_xat hi (l := l) h

theorem xg_any {c : Code} {e : Env} {i : Nat} {w : World} {l : List (Nat × (Env → Pr))} (h : xg (xat c e l) i w) : xget l i e w := by
  cases hi : hasExit i c with
  | true => exact xg_xat hi h
  | false => exact (xg_none hi h).elim

theorem xget_xlv {lv : Option Nat → Pr} {i : Nat} {e : Env} {w : World} : ∀ {l : List (Nat × (Env → Pr))}, xget (xlv lv l) i e w → lv (some i) w
  | [], h => h.elim
  | (j, k) :: l, h => by
    unfold xlv xget at h
    cases hb : Nat.beq i j with
    | true =>
      rw [hb] at h
      have : i = j := Nat.eq_of_beq_eq_true hb
      subst this
      exact h
    | false =>
      rw [hb] at h
      exact xget_xlv (l := l) h

theorem cC_sound : ∀ (an : An) {n : Nat} {r : Option Nat} (c : Code) (Q : Exit → Act → World → Prop) (e : Env) (a : Act) (w : World) (K : Ks), (∀ c a w, ¬ Q (.panic c) a w) → Ag e a → cC P an c e K w → (K.rg = false → r = none) →
    (∀ e' a' w', Ag e' a' → Ext (wrC c) e e' → K.n e' w' → Q .normal a' w') → (∀ e' a' w', Ag e' a' → K.r e' w' → Q .ret a' w') →
    (∀ i e' a' w', Ag e' a' → Ext (wrC c) e e' → xget K.x i e' w' → Q (.exit i) a' w') → c.wpIn (wf r) n P Q a w := by
  intro an
  induction an with
  | z =>
    intro n r c Q e a w K hQ he h hrg hn hr hx
    cases c <;> simp only [cC] at h <;> try exact h.elim
    · exact wpIn_skip (hn _ _ _ he (Ext.refl _ _) h)
    · exact cReg_sound hQ he h hn
    · exact wpIn_exit (hx _ _ _ _ he (Ext.refl _ _) h)
    · exact wpIn_label (hn _ _ _ he (Ext.refl _ _) h)
    · exact wpIn_ret (hr _ _ _ he h)
  | sq x y ihx ihy =>
    intro n r c Q e a w K hQ he h hrg hn hr hx
    cases c <;> simp only [cC] at h <;> try exact h.elim
    rename_i c1 c2
    refine wpIn_seq (ihx c1 _ e a w _ (fun c a w => hQ c a w) he h hrg ?_ hr ?_)
    · intro e1 a1 w1 he1 hx1 h1
      refine ihy c2 Q e1 a1 w1 K hQ he1 h1 hrg ?_ hr ?_
      · intro e2 a2 w2 he2 hx2 h2
        exact hn _ _ _ he2 (hx1.trans hx2 (fun _ h => by simp [wrC, h]) (fun _ h => by simp [wrC, h])) h2
      · intro i e2 a2 w2 he2 hx2 h2
        exact hx _ _ _ _ he2 (hx1.trans hx2 (fun _ h => by simp [wrC, h]) (fun _ h => by simp [wrC, h])) h2
    · intro i e1 a1 w1 he1 hx1 h1
      exact hx _ _ _ _ he1 (hx1.mono (fun _ h => by simp [wrC, h])) h1
  | br x y ihx ihy =>
    intro n r c Q e a w K hQ he h hrg hn hr hx
    cases c <;> simp only [cC] at h <;> try exact h.elim
    rename_i o c1 c2
    obtain ⟨b, hb, h⟩ := cbr_sound h
    have hev := he.eval (x := o) hb
    rcases h with ⟨rfl, h⟩ | ⟨rfl, h⟩
    · refine wpIn_cond_true hev (ihx c1 Q e a w K hQ he h hrg ?_ hr ?_)
      · exact fun e1 a1 w1 he1 hx1 h1 => hn _ _ _ he1 (hx1.mono (fun _ h => by simp [wrC, h])) h1
      · exact fun i e1 a1 w1 he1 hx1 h1 => hx _ _ _ _ he1 (hx1.mono (fun _ h => by simp [wrC, h])) h1
    · refine wpIn_cond_false hev (ihy c2 Q e a w K hQ he h hrg ?_ hr ?_)
      · exact fun e1 a1 w1 he1 hx1 h1 => hn _ _ _ he1 (hx1.mono (fun _ h => by simp [wrC, h])) h1
      · exact fun i e1 a1 w1 he1 hx1 h1 => hx _ _ _ _ he1 (hx1.mono (fun _ h => by simp [wrC, h])) h1
  | bl x ihx =>
    intro n r c Q e a w K hQ he h hrg hn hr hx
    cases c <;> simp only [cC] at h <;> try exact h.elim
    rename_i id c1
    refine wpIn_block (ihx c1 _ e a w _ (fun c a w => hQ c a w) he h hrg hn hr ?_)
    intro i e1 a1 w1 he1 hx1 h1
    simp only [xget] at h1
    by_cases hi : i = id
    · subst hi
      rw [Nat.beq_refl] at h1
      simp only [Exit.inBlock, if_true]
      exact hn _ _ _ he1 hx1 h1
    · have hb : Nat.beq i id = false := by
        cases hb : Nat.beq i id with
        | false => rfl
        | true => exact absurd (Nat.eq_of_beq_eq_true hb) hi
      rw [hb] at h1
      simp only [Exit.inBlock, hi, if_false]
      exact hx _ _ _ _ he1 hx1 h1
  | sc x ihx =>
    intro n r c Q e a w K hQ he h hrg hn hr hx
    cases c <;> simp only [cC] at h <;> try exact h.elim
    rename_i c1
    exact wpIn_scope' (ihx c1 _ e a w K (fun c a w => hQ c a w) he h hrg hn hr hx)
  | lp l x ihx =>
    intro n r c Q e a w K hQ he h hrg hn hr hx
    cases c <;> simp only [cC] at h <;> try exact h.elim
    rename_i c1
    rcases tf_sound h with ⟨hl, h⟩ | ⟨_, h⟩
    · obtain ⟨hlive, hmk⟩ := liveIn_spec hl
      obtain ⟨s, hs, I, μ, hI, hG⟩ := need_sound (e0 := Env.forget e (wrC c1)) he (he.forget (Ext.refl _ _) hmk) h
      refine wpIn_loopG (fun s a w => Ag (upd (Env.forget e (wrC c1)) l s) a ∧ I s w) μ ⟨hs, hI⟩ ?_
      rintro s1 a1 w1 ⟨ha1, hI1⟩
      have hext : Ext (wrC c1) e (upd (Env.forget e (wrC c1)) l s1) := Ext.upd (Ext.forget _ _) hlive
      refine ihx c1 _ _ a1 w1 _ (fun c a w => hQ c a w) ha1 (hG s1 w1 hI1) hrg ?_ hr ?_
      · intro e2 a2 w2 he2 hx2 h2
        obtain ⟨s2, hs2, h3, h4⟩ := need_sound (e0 := Env.forget e (wrC c1)) he2 (he2.forget (hext.trans hx2 (fun _ h => h) (fun _ h => h)) hmk) h2
        exact ⟨s2, ⟨hs2, h3⟩, h4⟩
      · intro i e2 a2 w2 he2 hx2 h2
        exact hx _ _ _ _ he2 (hext.trans hx2 (fun _ h => h) (fun _ h => h)) h2
    · exact h.elim
  | jn l x ihx =>
    intro n r c Q e a w K hQ he h hrg hn hr hx
    have h' : tf (liveIn l (wrC c)) (jn (fun R => cC P x c e { K with n := fun e' => need e' l R }) (fun s => K.n (upd (Env.forget e (wrC c)) l s))) fls w := by cases c <;> exact h
    rcases tf_sound h' with ⟨hl, h⟩ | ⟨_, h⟩
    · obtain ⟨hlive, hmk⟩ := liveIn_spec hl
      obtain ⟨R, h1, h2⟩ := h
      let Q' : Exit → Act → World → Prop := fun ex a' w' => match ex with
        | .normal => ∃ s, Ag (upd (Env.forget e (wrC c)) l s) a' ∧ R s w'
        | ex => Q ex a' w'
      have hQ' : ∀ c a w, ¬ Q' (.panic c) a w := fun c a w => hQ c a w
      refine wpIn_mono (ihx c Q' e a w _ hQ' he h1 hrg ?_ hr hx) ?_
      · intro e1 a1 w1 he1 hx1 h3
        exact need_sound (e0 := Env.forget e (wrC c)) he1 (he1.forget hx1 hmk) h3
      · intro ex a' w' h3
        cases ex with
        | normal =>
          obtain ⟨s, hs, h4⟩ := h3
          exact hn _ _ _ hs (Ext.upd (Ext.forget _ _) hlive) (h2 _ _ h4)
        | _ => exact h3
    · exact h.elim

  | rf shs x y ihx ihy =>
    intro n r c Q e a w K hQ he h hrg hn hr hx
    cases c <;> simp only [cC] at h <;> try exact h.elim
    rename_i g ps assign body
    rcases tf_sound h with ⟨hb, h⟩ | ⟨_, h⟩
    rotate_left
    · exact h.elim
    simp only [Bool.and_eq_true, Bool.not_eq_true'] at hb
    have hr0 := hrg hb.1
    subst hr0
    have hps := Nat.eq_of_beq_eq_true hb.2
    obtain ⟨f, caps, hv, hcl, h⟩ := ndEv he h
    refine wpIn_rangeFunc ?_
    intro fn hfn
    obtain ⟨L, hL⟩ : ∃ L : LoopState → Option Code → Obj, L = fun st pe => .loop { state := st, pending := pe, fn, tmps := a.tmps, params := ps, assign, body, defers := w.heap.size } := ⟨_, rfl⟩
    have hcall := h L (fun s p => ⟨_, by rw [hL]⟩) ?_
    rotate_left
    · intro W args k hl hR
      have hl' : W.heap[w.heap.size + 1]? = some (.loop { state := .ready, pending := none, fn, tmps := a.tmps, params := ps, assign, body, defers := w.heap.size }) := by rw [hl, hL]
      refine ⟨_, _, _, _, run_yield hl' (by rw [← hps]; simp [valL_length]), roundIn_of_wpIn trivial ?_⟩
      have hag : Ag (setPs ps.toList (valL shs args) ⟨e.l, []⟩) { tmps := (ps.zip (valL shs args).toArray).foldl (fun t x => t.setIfInBounds x.1 x.2) a.tmps, defers := [] } := by
        have h0 : Ag ⟨e.l, []⟩ { tmps := a.tmps, defers := [] } := ⟨he.size, he.get, rfl⟩
        have h1 := setPs_ag ps.toList (valL shs args) _ _ h0
        rw [foldl_put] at h1
        have h2 : (ps.zip (valL shs args).toArray).foldl (fun t x => t.setIfInBounds x.1 x.2) a.tmps = (ps.toList.zip (valL shs args)).foldl (fun t x => t.setIfInBounds x.1 x.2) a.tmps := by
          rw [← Array.foldl_toList, Array.toList_zip]
        rw [h2]
        exact h1
      refine ihx (n := 0) (r := some (w.heap.size + 1)) assign _ _ _ W _ (fun c a w h => h) hag hR (fun h => by cases h) ?_ (fun _ _ _ _ h => h.elim) (fun _ _ _ _ _ _ h => h.elim)
      rintro e1 a1 w1 he1 _ ⟨h1, h2⟩
      have h1' : w1.heap[w.heap.size + 1]? = some (.loop { state := .ready, pending := none, fn, tmps := a.tmps, params := ps, assign, body, defers := w.heap.size }) := by rw [h1, hL]
      have hbr := run_beginRound (P := P) h1' rfl
      refine ⟨_, hbr, ?_⟩
      have hLb : (Obj.loop { state := .busy, pending := none, fn, tmps := a.tmps, params := ps, assign, body, defers := w.heap.size }) = L .busy none := by rw [hL]
      rw [show ({ ({ state := .ready, pending := none, fn := fn, tmps := a.tmps, params := ps, assign := assign, body := body, defers := w.heap.size } : Loop) with state := .busy } : Loop) = { state := .busy, pending := none, fn, tmps := a.tmps, params := ps, assign, body, defers := w.heap.size } from rfl, hLb]
      have hend : ∀ (W3 : World) (jump : Option Code), W3.heap[w.heap.size + 1]? = some (L .busy none) →
          (Instr.endRound (w.heap.size + 1) jump).run P W3 = .ok (.bool jump.isNone) (W3.putObj (w.heap.size + 1) (L (if jump.isNone then .ready else .done) jump)) := by
        intro W3 jump h3
        have h3' : W3.heap[w.heap.size + 1]? = some (.loop { state := .busy, pending := none, fn, tmps := a.tmps, params := ps, assign, body, defers := w.heap.size }) := by rw [h3, hL]
        rw [run_endRound jump h3', hL]
      refine ihy (n := 0) (r := some (w.heap.size + 1)) body _ e1 a1 _ _ (fun c a w h => h) he1 h2 (fun h => by cases h) ?_ ?_ ?_
      · rintro e2 a2 w2 _ _ ⟨h3, h4⟩
        exact ⟨_, _, hend w2 none h3, true, rfl, h4⟩
      · rintro e2 a2 w2 _ ⟨h3, h4⟩
        exact ⟨_, _, hend w2 (some .ret) h3, false, rfl, h4⟩
      · intro i e2 a2 w2 _ _ h5
        obtain ⟨h3, h4⟩ := xget_xlv h5
        exact ⟨_, _, hend w2 (some (.exit i)) h3, false, rfl, h4⟩
    have hmk : Ag (Env.mark e w.heap.size) { a with defers := [{ target := .collected w.heap.size, args := #[] }] ++ a.defers } := ⟨he.size, he.get, by rw [he.defers]; rfl⟩
    have hxm : Ext [markN] e (Env.mark e w.heap.size) := ⟨rfl, fun _ _ => rfl, fun h => absurd (List.mem_singleton.2 rfl) h⟩
    have hinv : ∀ {args : Array Value} {w : World}, (callFunc f args).run P w = .ok (.enter f args) w := run_callFunc hcl
    refine ⟨w.heap.size + 1, [{ target := .collected w.heap.size, args := #[] }], (w.alloc (.deferred (some []))).alloc (L .ready none), { target := .fn (.func f) caps, args := #[.func (.yield (w.heap.size + 1)) #[] #[]] }, (w.alloc (.deferred (some []))).alloc (L .ready none), f,
      #[.func (.yield (w.heap.size + 1)) #[] #[]] ++ caps, (w.alloc (.deferred (some []))).alloc (L .ready none), ?_, ?_, fun _ _ => trivial, ?_, ?_, ?_⟩
    · rw [hL]; exact run_enterLoop_outer _ _ _ _ _
    · simp only [resolve, hv]
      simp [go_sem]
    · simp [invoke, go_sem, hinv]
    · intro h; cases h
    · refine callsIn_wf.2 (Calls.mono hcall ?_)
      rintro e1 W1 ⟨⟨u, rfl⟩, h1⟩
      have hend : ∀ (st : LoopState) (pe : Option Code), st ≠ .busy → W1.heap[w.heap.size + 1]? = some (L st pe) → (Instr.endLoop (w.heap.size + 1)).run P W1 = .ok pe (W1.putObj (w.heap.size + 1) (L .exhausted pe)) := by
        intro st pe hst h3
        have h3' : W1.heap[w.heap.size + 1]? = some (.loop { state := st, pending := pe, fn, tmps := a.tmps, params := ps, assign, body, defers := w.heap.size }) := by rw [h3, hL]
        rw [run_endLoop h3' hst, hL]
      rcases h1 with ⟨h2, h3⟩ | ⟨j, h2, h3⟩
      · exact ⟨none, _, hend _ _ (by simp) h2, hn _ _ _ hmk hxm h3⟩
      · refine ⟨some (jcode j), _, hend _ _ (by simp) h2, ?_⟩
        cases j with
        | none =>
          rcases tf_sound (show tf (hasRet body) _ _ _ from h3) with ⟨_, h4⟩ | ⟨_, h4⟩
          · exact wpIn_ret (hr _ _ _ hmk h4)
          · exact h4.elim
        | some i => exact wpIn_exit (hx _ _ _ _ hmk hxm (xg_any h3))

  | jm l x ihx =>
    intro n r c Q e a w K hQ he h hrg hn hr hx
    have h' : tf (l.all fun z => (wrC c).contains z.1) (jn (fun R => cC P x c e { K with n := fun e' => need e' l fun s => R (e'.ds, s) }) (fun s => K.n (upd ⟨(Env.forget e (wrC c)).l, s.1⟩ l s.2))) fls w := by cases c <;> exact h
    rcases tf_sound h' with ⟨hl, h⟩ | ⟨_, h⟩
    · have hlive : ∀ z ∈ l, z.1 ∈ wrC c := fun z hz => by simpa using List.all_eq_true.1 hl z hz
      obtain ⟨R, h1, h2⟩ := h
      let Q' : Exit → Act → World → Prop := fun ex a' w' => match ex with
        | .normal => ∃ s, Ag (upd ⟨(Env.forget e (wrC c)).l, s.1⟩ l s.2) a' ∧ R s w' ∧ (markN ∉ wrC c → s.1 = e.ds)
        | ex => Q ex a' w'
      have hQ' : ∀ c a w, ¬ Q' (.panic c) a w := fun c a w => hQ c a w
      refine wpIn_mono (ihx c Q' e a w _ hQ' he h1 hrg ?_ hr hx) ?_
      · intro e1 a1 w1 he1 hx1 h3
        have hf : Ag ⟨(Env.forget e (wrC c)).l, e1.ds⟩ a1 := by
          refine ⟨?_, fun t v hv => ?_, he1.defers⟩
          · have h1 : (⟨(Env.forget e (wrC c)).l, e1.ds⟩ : Env).length = (Env.forget e (wrC c)).length := rfl
            rw [h1, Env.length_forget, hx1.1]
            exact he1.size
          · have hv' : (Env.get (Env.forget e (wrC c)) t).v? = some v := hv
            rw [Env.get_forget] at hv'
            split at hv'
            · simp [EV.v?] at hv'
            · rename_i ht
              by_cases hlt : t < e.length
              · have htW : t ∉ wrC c := fun h => ht ⟨h, hlt⟩
                rw [← hx1.2.1 t htW] at hv'
                exact he1.get t v hv'
              · rw [Env.get_none_of_ge e t (by omega)] at hv'
                simp [EV.v?] at hv'
        obtain ⟨p, hp, h4⟩ := need_sound he1 hf h3
        exact ⟨(e1.ds, p), hp, h4, fun hm => hx1.2.2 hm⟩
      · intro ex a' w' h3
        cases ex with
        | normal =>
          obtain ⟨s, hs, h4, h5⟩ := h3
          refine hn _ _ _ hs (Ext.upd (e0 := ⟨(Env.forget e (wrC c)).l, s.1⟩) ?_ hlive) (h2 _ _ h4)
          have h6 := Ext.forget e (wrC c)
          exact ⟨h6.1, h6.2.1, h5⟩
        | _ => exact h3
    · exact h.elim

/-! ### functions -/

def rets (P : Program) : List ResultVar → Env → (List Value → Pr) → Pr
  | [], _, f => f []
  | .tmp t :: l, e, f => nd (Env.get e t) fun v => rets P l e fun vs => f (v :: vs)
  | .cell t ty :: l, e, f => nd (Env.get e t) fun p => asPtr p fun ad => ldT P ty ad fun v => rets P l e fun vs => f (v :: vs)

def getL : (l : List Sh) → List Value → (PayL l → Pr) → Pr
  | [], [], f => f ()
  | [s], [v], f => getP s v f
  | s :: t :: l, v :: vs, f => getP s v fun p => getL (t :: l) vs fun q => f (p, q)
  | _, _, _ => fls

theorem getL_sound {w : World} : ∀ {l : List Sh} {vs : List Value} {f : PayL l → Pr}, getL l vs f w → ∃ p, vs = valL l p ∧ f p w
  | [], [], _, h => ⟨(), rfl, h⟩
  | [], _ :: _, _, h => h.elim
  | [s], [v], _, h => let ⟨p, hp, hf⟩ := getP_sound h; ⟨p, by rw [hp]; rfl, hf⟩
  | [_], [], _, h => h.elim
  | [_], _ :: _ :: _, _, h => h.elim
  | s :: t :: l, v :: vs, _, h => by
    obtain ⟨p, hp, h⟩ := getP_sound h
    obtain ⟨q, hq, h⟩ := getL_sound h
    exact ⟨(p, q), by rw [hp, hq]; rfl, h⟩
  | _ :: _ :: _, [], _, h => h.elim

def env0 (args : List Value) (m : Nat) : Env := ⟨args.map EV.val ++ List.replicate (m - args.length) EV.no, []⟩

def compileFn (P : Program) (fn : Func) (an : An) (args : List Value) (shs : List Sh) (Q : PayL shs → Pr) : Pr :=
  opt fn.body fun c =>
    cC P an c (env0 args fn.ntmps) ⟨fun e => takes e.ds (rets P fn.results.toList e fun vs => getL shs vs Q), fun e => takes e.ds (rets P fn.results.toList e fun vs => getL shs vs Q), [], false⟩

theorem env0_get : ∀ (args : List Value) (k : Nat) (t : Nat) (v : Value), (Env.getL (args.map EV.val ++ List.replicate k EV.no) t).v? = some v → (args ++ List.replicate k undef)[t]? = some v
  | [], 0, t, v, h => by simp [Env.getL, EV.v?] at h
  | [], k + 1, 0, v, h => by simp [List.replicate_succ, Env.getL, EV.v?] at h
  | [], k + 1, t + 1, v, h => by
    have := env0_get [] k t v (by simpa [List.replicate_succ, Env.getL] using h)
    simpa [List.replicate_succ] using this
  | x :: args, k, 0, v, h => by
    simp only [List.map_cons, List.cons_append, Env.getL, EV.v?, Option.some.injEq] at h
    rw [h]
    rfl
  | x :: args, k, t + 1, v, h => env0_get args k t v h

theorem env0_ag (args : List Value) (m : Nat) : Ag (env0 args m) { tmps := args.toArray ++ Array.replicate (m - args.toArray.size) undef, defers := [] } := by
  have hE : args.toArray ++ Array.replicate (m - args.toArray.size) undef = (args ++ List.replicate (m - args.length) undef).toArray := by simp
  refine ⟨by simp [env0, Env.length], fun t v h => ?_, rfl⟩
  simp only [hE]
  simpa using env0_get args (m - args.length) t v h

theorem rets_sound {e : Env} {a : Act} {w : World} (he : Ag e a) : ∀ {l : List ResultVar} {f : List Value → Pr} {Q : List Value → World → Prop}, rets P l e f w → (∀ vs, f vs w → Q vs w) →
    RT P (l.mapM fun
      | .tmp t => Pure.pure (a.tmps.getD t undef)
      | .cell x t => do Go.loadVar t (← asAddr (a.tmps.getD x undef))) w (fun vs w' => w' = w ∧ Q vs w)
  | [], _, _, h, hq => by simp only [List.mapM_nil]; exact .pure ⟨rfl, hq _ h⟩
  | .tmp t :: l, f, Q, h, hq => by
    have h1 := ndEv he (x := .tmp t) h
    simp only [List.mapM_cons]
    refine .bind (.pure (.bind ((rets_sound he h1 (Q := fun vs w => Q (a.tmps.getD t undef :: vs) w) (fun vs h => hq _ h)).mono ?_)))
    rintro vs w' ⟨rfl, h⟩
    exact .pure ⟨rfl, h⟩
  | .cell t ty :: l, f, Q, h, hq => by
    have h1 := ndEv he (x := .tmp t) h
    obtain ⟨ad, hv, h2⟩ := asPtr_sound h1
    simp only [List.mapM_cons]
    have hv' : a.tmps.getD t undef = .pointer (some ad) := hv
    rw [hv']
    have h3 : ldT P ty ad (fun v w' => rets P l e (fun vs => f (v :: vs)) w' ∧ w' = w) w := ldT_mono (fun v h => ⟨h, rfl⟩) h2
    refine .bind (.bind (.pure ((RT.loadVar' h3).mono ?_)))
    rintro v w1 ⟨h4, rfl⟩
    refine .bind ((rets_sound he h4 (Q := fun vs w => Q (v :: vs) w) (fun vs h => hq _ h)).mono ?_)
    rintro vs w' ⟨rfl, h⟩
    exact .pure ⟨rfl, h⟩

theorem takes_sound {n : Nat} {fn : Func} {tmps : Array Value} {R : Ending → World → Prop} {k : Pr} (hk : ∀ w, k w → LeavesInM (wf none) n P fn tmps R [] .returning w) : ∀ {ds : List Nat} {w : World}, takes ds k w → LeavesInM (wf none) n P fn tmps R (marks ds) .returning w
  | [], w, h => hk w h
  | D :: ds, w, h => ⟨by simp, .inl ⟨D, _, rfl, run_takeDeferred h.1, takes_sound hk h.2⟩⟩

theorem bodyPost_of {n : Nat} {fn : Func} {e : Env} {a : Act} {w : World} {shs : List Sh} {Q : PayL shs → Pr} (he : Ag e a) (h : takes e.ds (rets P fn.results.toList e (fun vs => getL shs vs Q)) w) :
    LeavesInM (wf none) n P fn a.tmps (RetT shs Q) a.defers .returning w := by
  rw [he.defers]
  refine takes_sound ?_ h
  clear h w
  intro w h
  obtain ⟨vs, w', h1, hw, p, hvs, hp⟩ := rets_sound he h (Q := fun vs w => ∃ p, vs = valL shs p ∧ Q p w) (fun vs h => getL_sound h)
  rw [hw] at h1
  show ∃ v, (results fn a.tmps).run P w = .ok v w ∧ RetT shs Q (.returned v) w
  refine ⟨valR shs p, ?_, p, rfl, hp⟩
  unfold results
  rw [Sem.run_bind, show fn.results = fn.results.toList.toArray by simp, List.mapM_toArray, Sem.run_map]
  erw [h1]
  simp only [Result.andThen_ok, Sem.run_pure, Result.ok.injEq, and_true]
  unfold valR
  rw [← hvs]
  match vs with
  | [] => rfl
  | [v] => rfl
  | v :: u :: vs => simp

theorem callsIn_of_compile {f : FuncId} {fn : Func} {an : An} {args : List Value} {shs : List Sh} {Q : PayL shs → Pr} {w : World} (hf : P.funcs[f]? = some fn) (h : compileFn P fn an args shs Q w) :
    Calls P f args.toArray w (RetT shs Q) := by
  obtain ⟨c, hc, h⟩ := opt_sound h
  refine (callsIn_wide (n := 0)).1 ?_
  refine callsIn_of_wp_marks (F := wf none) hf hc trivial ?_
  let Q' : Exit → Act → World → Prop := fun ex a w => match ex with
    | .normal => bodyPostM (wf none) 0 P fn (RetT shs Q) .normal a w
    | .ret => bodyPostM (wf none) 0 P fn (RetT shs Q) .ret a w
    | _ => False
  refine wpIn_mono (cC_sound (n := 0) (r := none) an c Q' _ _ w _ (fun c a w h => h) (env0_ag args fn.ntmps) h (fun _ => rfl) ?_ ?_ ?_) ?_
  · exact fun e' a' w' he' _ h => bodyPost_of he' h
  · exact fun e' a' w' he' h => bodyPost_of he' h
  · exact fun i e' a' w' _ _ h => h.elim
  · intro ex a w h
    cases ex <;> first | exact h | exact h.elim

end
end Go.Eng
