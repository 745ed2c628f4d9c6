import Derived.Test.YtiebhappinojmaaGreatX1
import Derived.RangeFuncNested
import Derived.Laws.Alloc2
import Derived.Laws.Strings
import Derived.RangeFuncBound
import Derived.RecoverIn
import Derived.Test.YtiebhappinojmaaGreatProg
set_option linter.unusedVariables false
set_option linter.unusedSimpArgs false
set_option linter.unusedSectionVars false
namespace Go.Eng
inductive An where
 | z
 | sq (x y : An)
 | br (x y : An)
 | bl (x : An)
 | sc (x : An)
 | lp (l : Live) (x : An)
 | jn (l : Live) (x : An)
 | rf (shs : List Sh) (x y : An)
 | jm (l : Live) (x : An)
 | lb
 | sj (lb : Nat) (l : Live) (x y : An)
 | rj (js : List JA)
structure Ks where
 n : Env → Pr
 r : Env → Pr
 x : List (Nat × (Env → Pr))
 rg : Bool
 g : List (Nat × (Env → Pr))
def xget : List (Nat × (Env → Pr)) → Nat → Env → Pr
 | [], _, _ => fls
 | (j, k) :: l, i, e =>
   match Nat.beq i j with
   | true => k e
   | false => xget l i e
def wrC : Code → List Nat
 | .region _ ops _ => wrOps ops
 | .seq a b => wrC a ++ wrC b
 | .cond _ a b => wrC a ++ wrC b
 | .block _ a => wrC a
 | .loop a => wrC a
 | .scope a => wrC a
 | .rangeFunc _ _ _ _ => [markN]
 | _ => []
def kpDraw (kp : KP) (dk : Bool) : KP :=
 match dk with
 | true => kp
 | false => none
def drawOk (P : Program) (ops : Array Oper) : Bool := Region.noSelect ops && noDefer ops
def mixes (P : Program) (ops : Array Oper) : Bool := P.follows .mixedOrders || !Region.departs ops
def okJ (js : List JA) (ops : Array Oper) : Bool := js.all fun j => j.l.all fun x => (wrOps ops).contains x.1
def cReg (P : Program) (kp : KP) (dk rg : Bool) (js : List JA) (ops : Array Oper) (draw : Bool) (e : Env) (k : Env → Pr) : Pr :=
 match draw with
 | false => cOps P kp (!rg) ops (List.range ops.size) e k
 | true => tf (drawOk P ops) (drw (tf (mixes P ops) (cDrawM P .any ops (kpDraw kp dk) js e k)
     (both (cDrawM P .text ops (kpDraw kp dk) js e k) (cDrawM P .gc ops (kpDraw kp dk) js e k)))) fls
def liveIn (l : Live) (W : List Nat) : Bool := !W.contains markN && !W.contains dfrN && l.all fun x => W.contains x.1
def jcode : Option Nat → Code
 | none => .ret
 | some i => .exit i
def xg : List (Nat × Pr) → Nat → Pr
 | [], _ => fls
 | (j, k) :: l, i =>
   match Nat.beq i j with
   | true => k
   | false => xg l i
def jmp (r : Pr) (x : List (Nat × Pr)) : Option Nat → Pr
 | none => r
 | some i => xg x i
def hasRet : Code → Bool
 | .ret => true
 | .seq a b => hasRet a || hasRet b
 | .cond _ a b => hasRet a || hasRet b
 | .block _ a => hasRet a
 | .loop a => hasRet a
 | .scope a => hasRet a
 | .rangeFunc _ _ a b => hasRet a || hasRet b
 | _ => false
def hasExit (i : Nat) : Code → Bool
 | .exit j => Nat.beq i j
 | .seq a b => hasExit i a || hasExit i b
 | .cond _ a b => hasExit i a || hasExit i b
 | .block _ a => hasExit i a
 | .loop a => hasExit i a
 | .scope a => hasExit i a
 | .rangeFunc _ _ a b => hasExit i a || hasExit i b
 | _ => false
def xat (c : Code) (e : Env) : List (Nat × (Env → Pr)) → List (Nat × Pr)
 | [] => []
 | (i, k) :: l =>
   match hasExit i c with
   | true => (i, k e) :: xat c e l
   | false => xat c e l
def rngE (P : Program) (v : Value) (shs : List Sh) (R : Nat → PayL shs → (Pr → Pr) → Pr → (Option Nat → Pr) → Pr) (K Jr : Nat → Pr) (Jx : Nat → List (Nat × Pr)) : Pr := fun w =>
 ∃ f caps, v = .func (.func f) #[] caps ∧ callable P f = true ∧
 ∀ L : LoopState → Option Code → Obj, (∀ s p, ∃ r, L s p = .loop r) →
   (∀ (W : World) (args : PayL shs) (k : Bool → Pr), W.heap[w.heap.size + 1]? = some (L .ready none) →
     R (w.heap.size + 1) args (fun c W1 => W1.heap[w.heap.size + 1]? = some (L .ready none) ∧ c (W1.putObj (w.heap.size + 1) (L .busy none)))
       (fun W1 => W1.heap[w.heap.size + 1]? = some (L .busy none) ∧ k true (W1.putObj (w.heap.size + 1) (L .ready none)))
       (fun j W1 => W1.heap[w.heap.size + 1]? = some (L .busy none) ∧ k false (W1.putObj (w.heap.size + 1) (L .done (some (jcode j))))) W →
     YieldAt Fence.wide 0 P (w.heap.size + 1) (valL shs args).toArray W (RetT [.c .bool] k)) →
   Calls P f (#[.func (.yield (w.heap.size + 1)) #[] #[]] ++ caps) ((w.alloc (.deferred (some []))).alloc (L .ready none)) fun e W1 =>
     (∃ u, e = .returned u) ∧
     ((W1.heap[w.heap.size + 1]? = some (L .ready none) ∧ K w.heap.size (W1.putObj (w.heap.size + 1) (L .exhausted none))) ∨
      ∃ j, W1.heap[w.heap.size + 1]? = some (L .done (some (jcode j))) ∧ jmp (Jr w.heap.size) (Jx w.heap.size) j (W1.putObj (w.heap.size + 1) (L .exhausted (some (jcode j)))))
def setPs : List Nat → List Value → Env → Env
 | p :: ps, v :: vs, e => setPs ps vs (Env.set e p (.val v))
 | _, _, e => e
def xlv (lv : Option Nat → Pr) : List (Nat × (Env → Pr)) → List (Nat × (Env → Pr))
 | [] => []
 | (i, _) :: l => (i, fun _ => lv (some i)) :: xlv lv l
def takes : List Nat → Pr → Pr
 | [], k => k
 | D :: ds, k => fun w => w.heap[D]? = some (.deferred (some [])) ∧ takes ds k (w.putObj D (.deferred none))
def hasLab (l : Nat) : Code → Bool
 | .seq a b => hasLab l a || hasLab l b
 | .label l' => Nat.beq l' l
 | _ => false
def noLab : Code → Bool
 | .seq a b => noLab a && noLab b
 | .label _ => false
 | _ => true
def scpE {S : Type} (G : (S → Pr) → S → Pr) (F : (S → Pr) → Pr) : Pr := fun w =>
 ∃ (I : S → Pr) (μ : S → World → Nat), F I w ∧ ∀ s w, I s w → G (fun s' w' => I s' w' ∧ μ s' w' < μ s w) s w
mutual
def cC (P : Program) (kp : KP) (dk : Bool) : An → Code → Env → Ks → Pr
 | .z, .skip, e, K => K.n e
 | .z, .label _, e, K => K.n e
 | .z, .region _ ops draw, e, K => cReg P kp dk K.rg [] ops draw e K.n
 | .rj js, .region _ ops draw, e, K => tf (okJ js ops) (cReg P kp dk K.rg js ops draw e K.n) fls
 | .z, .exit i, e, K => xget K.x i e
 | .z, .ret, e, K => K.r e
 | .z, .goto l, e, K => xget K.g l e
 | .lb, .label l, e, K => xget K.g l e
 | .sq x y, .seq a b, e, K => cC P kp dk x a e { K with n := fun e' => cC P kp dk y b e' K }
 | .br x y, .cond c a b, e, K => tf (noLab a && noLab b) (cbr (Env.ev e c) (cC P kp dk x a e K) (cC P kp dk y b e K)) fls
 | .bl x, .block id a, e, K => tf (noLab a) (cC P kp dk x a e { K with x := (id, K.n) :: K.x }) fls
 | .sc x, .scope a, e, K => cC P kp dk x a e { K with g := [] }
 | .sj lb l x y, .scope a, e, K => tf (liveIn l (wrC a) && hasLab lb a) (scpE
     (fun X s => cL P kp dk lb y a (upd (Env.forget e (wrC a)) l s) { K with g := [(lb, fun e' => need e' l X)] })
     (fun X => cC P kp dk x a e { K with g := [(lb, fun e' => need e' l X)] })) fls
 | .lp l x, .loop a, e, K => tf (liveIn l (wrC a) && noLab a) (need e l fun s => loopE (fun X s => cC P kp dk x a (upd (Env.forget e (wrC a)) l s) { K with n := fun e' => need e' l X }) s) fls
 | .jn l x, c, e, K => tf (liveIn l (wrC c) && noLab c) (jn (fun R => cC P kp dk x c e { K with n := fun e' => need e' l R }) (fun s => K.n (upd (Env.forget e (wrC c)) l s))) fls
 | .rf shs x y, .rangeFunc g ps assign body, e, K => tf (!K.rg && Nat.beq shs.length ps.size) (nd (Env.ev e g) fun v =>
     rngE P v shs (fun _ args bg nx lv => cC P none dk x assign (setPs ps.toList (valL shs args) ⟨e.l, [], []⟩) ⟨fun e1 => bg (cC P none dk y body e1 ⟨fun _ => nx, fun _ => lv none, xlv lv K.x, true, []⟩), fun _ => fls, [], true, []⟩)
       (fun D => K.n (Env.mark e D)) (fun D => tf (hasRet body) (K.r (Env.mark e D)) fls) (fun D => xat body (Env.mark e D) K.x)) fls
 | .jm l x, c, e, K => tf ((!(wrC c).contains dfrN && l.all fun z => (wrC c).contains z.1) && noLab c) (jn (fun R => cC P kp dk x c e { K with n := fun e' => need e' l fun s => R (e'.ds, s) }) (fun s => K.n (upd ⟨(Env.forget e (wrC c)).l, s.1, e.bs⟩ l s.2))) fls
 | _, _, _, _ => fls

def cL (P : Program) (kp : KP) (dk : Bool) (lb : Nat) : An → Code → Env → Ks → Pr
 | .z, .label l, e, K => tf (Nat.beq l lb) (K.n e) fls
 | .sq x y, .seq a b, e, K => tf (hasLab lb a) (tf (hasLab lb b) fls (cL P kp dk lb x a e { K with n := fun e' => cC P kp dk y b e' K })) (cL P kp dk lb y b e K)
 | _, _, _, _ => fls
end
theorem stepR_scope' {P : Program} {b : Frame} {a : Act} {k : List Item} {cs : List Frame} {w : World} {c : Code} :
   step P (lone (b.atR a (.code (.scope c) :: k)) cs w) = .next (lone (b.atR a (.code c :: .inScope c :: k)) cs w) :=
 step_lone_go (by simp [stepG, stepG.exec, Frame.atR])
theorem stepR_inScope' {P : Program} {b : Frame} {a : Act} {k : List Item} {cs : List Frame} {w : World} {c : Code} :
   step P (lone (b.atR a (.inScope c :: k)) cs w) = .next (lone (b.atR a k) cs w) :=
 step_lone_go (by simp [stepG, stepG.exec, Frame.atR])
def noGo (Q : Exit → Act → World → Prop) : Exit → Act → World → Prop
 | .goto _, _, _ => False
 | e, a, w => Q e a w
theorem wpIn_scope' {F : Fence} {n : Nat} {P : Program} {Q : Exit → Act → World → Prop} {a : Act} {w : World} {c : Code} (h : c.wpIn F n P (noGo Q) a w) : (Code.scope c).wpIn F n P Q a w := by
 intro b k cs hro hb hr
 have h0 : (lone (b.atR a (.code (.scope c) :: k)) cs w).fenced P F := fenced_calm hb hr rfl
 obtain ⟨e, a₁, w₁, hq, harr⟩ := h b (.inScope c :: k) cs hro hb hr
 cases e with
 | normal => exact ⟨.normal, a₁, w₁, hq, .head h0 stepR_scope' (StepsIn.trans harr (.one (fenced_calm hb hr rfl) stepR_inScope'))⟩
 | exit id =>
   have hx : exitTo id (.inScope c :: k) = exitTo id k := by simp [exitTo]
   exact ⟨_, a₁, w₁, hq, fun k' hk => .head h0 stepR_scope' (harr.1 k' (by rw [hx]; exact hk)),
     fun hr' hk => let ⟨k₁, h1, h2⟩ := harr.2 hr' (by rw [hx]; exact hk); ⟨k₁, h1, .head h0 stepR_scope' h2⟩⟩
 | goto l => exact hq.elim
 | ret => exact ⟨_, a₁, w₁, hq, .of_steps (.one h0 stepR_scope') harr⟩
 | panic ch => exact ⟨_, a₁, w₁, hq, .of_steps (.one h0 stepR_scope') harr⟩
 | outgrown => exact ⟨_, a₁, w₁, hq, .of_steps (.one h0 stepR_scope') harr⟩
theorem least {S : Type} (p : S → Prop) (f : S → Nat) (h : ∃ s, p s) : ∃ s, p s ∧ ∀ s', p s' → f s ≤ f s' := by
 have key : ∀ m s, p s → f s = m → ∃ s, p s ∧ ∀ s', p s' → f s ≤ f s' := by
   intro m
   induction m using Nat.strongRecOn with
   | _ m ih =>
     intro s hs hm
     rcases Classical.em (∃ s', p s' ∧ f s' < m) with ⟨s', h1, h2⟩ | hno
     · exact ih _ h2 s' h1 rfl
     · refine ⟨s, hs, fun s' hs' => ?_⟩
       rw [hm]
       exact Nat.le_of_not_lt fun hlt => hno ⟨s', hs', hlt⟩
 obtain ⟨s, hs⟩ := h
 exact key _ s hs rfl
theorem wpIn_loopG {F : Fence} {n : Nat} {P : Program} {Q : Exit → Act → World → Prop} {c : Code} {S : Type} (I : S → Act → World → Prop) (μ : S → World → Nat) {s : S} {a : Act} {w : World} (h₀ : I s a w)
   (round : ∀ s a w, I s a w → c.wpIn F n P (Exit.then (fun a' w' => ∃ s', I s' a' w' ∧ μ s' w' < μ s w) Q) a w) : (Code.loop c).wpIn F n P Q a w := by
 classical
 let ν : Act → World → Nat := fun a w => if h : ∃ s, I s a w then μ (Classical.choose (least (fun s => I s a w) (fun s => μ s w) h)) w else 0
 refine wpIn_loop (fun a w => ∃ s, I s a w) ν ⟨s, h₀⟩ ?_
 intro a w hex
 obtain ⟨hs1, _⟩ := Classical.choose_spec (least (fun s => I s a w) (fun s => μ s w) hex)
 have hν : ν a w = μ (Classical.choose (least (fun s => I s a w) (fun s => μ s w) hex)) w := by simp only [ν]; rw [dif_pos hex]
 refine wpIn_mono (round _ a w hs1) ?_
 intro e a' w' h
 cases e with
 | normal =>
   obtain ⟨s', hs', hlt⟩ := h
   refine ⟨⟨s', hs'⟩, ?_⟩
   have hex' : ∃ s, I s a' w' := ⟨s', hs'⟩
   have h2 := (Classical.choose_spec (least (fun s => I s a' w') (fun s => μ s w') hex')).2 s' hs'
   have hν' : ν a' w' = μ (Classical.choose (least (fun s => I s a' w') (fun s => μ s w') hex')) w' := by simp only [ν]; rw [dif_pos hex']
   rw [hν, hν']
   exact Nat.lt_of_le_of_lt h2 hlt
 | _ => exact h
section
variable {P : Program} {n : Nat} {r : Option Nat}
theorem region_any {Q : Exit → Act → World → Prop} {ops : Array Oper} {id : Nat} {a : Act} {w : World} (hm : mixes P ops = true)
   (h : wpAnyIn (wf r) n P .any ops Q ops.size (Array.replicate ops.size false) a w.drew) : (Code.region id ops true).wpIn (wf r) n P Q a w :=
 wpIn_region_draw fun t => by
   unfold mixes at hm
   simp only [Region.schedule, hm, if_true]
   exact wpAnyIn_sound ops.size t _ a _ h
theorem region_two {Q : Exit → Act → World → Prop} {ops : Array Oper} {id : Nat} {a : Act} {w : World} (hm : mixes P ops = false)
   (h1 : wpAnyIn (wf r) n P .text ops Q ops.size (Array.replicate ops.size false) a w.drew) (h2 : wpAnyIn (wf r) n P .gc ops Q ops.size (Array.replicate ops.size false) a w.drew) : (Code.region id ops true).wpIn (wf r) n P Q a w :=
 wpIn_region_draw fun t => by
   unfold mixes at hm
   simp only [Region.schedule, hm, Bool.false_eq_true, if_false]
   split
   · exact wpAnyIn_sound ops.size _ _ a _ h1
   · exact wpAnyIn_sound ops.size _ _ a _ h2
def noPan (Q : Exit → Act → World → Prop) : Exit → Act → World → Prop
 | .panic _, _, _ => False
 | e, a, w => Q e a w
theorem okJ_spec {js : List JA} {ops : Array Oper} (h : okJ js ops = true) : ∀ j ∈ js, ∀ x ∈ j.l, x.1 ∈ wrOps ops := fun j hj x hx => by
 simpa using List.all_eq_true.1 (List.all_eq_true.1 h j hj) x hx
theorem cReg_sound {kp : KP} {dk rg : Bool} {js : List JA} {ops : Array Oper} {id : Nat} {draw : Bool} {Q : Exit → Act → World → Prop} {e : Env} {a : Act} {w : World} {k : Env → Pr} (hrg : rg = false → r = none)
   (hI : dk = true → ∀ c a d v w, d ∈ wrOps ops → Q (.panic c) (a.put (some d) v) w → Q (.panic c) a w) (hjs : okJ js ops = true) (he : Ag e a) (h : cReg P kp dk rg js ops draw e k w)
   (hk : ∀ e' a' w', Ag e' a' → Ext (wrOps ops) e e' → k e' w' → Q .normal a' w')
   (hp : ∀ e' a' ch w', Ag e' a' → Ext (wrOps ops) e e' → kpH (kp.at e') ch w' → Q (.panic ch) a' w') : (Code.region id ops draw).wpIn (wf r) n P Q a w := by
 cases draw with
 | false => exact wpIn_region (cOps_sound (fun h => hrg (by simpa using h)) he h hk hp)
 | true =>
   rcases tf_sound (show tf (drawOk P ops) _ _ w from h) with ⟨hd, h⟩ | ⟨_, h⟩
   · simp only [drawOk, Bool.and_eq_true] at hd
     have one : ∀ (md : Region.Mode) (Q0 : Exit → Act → World → Prop), (Q0 = Q ∧ dk = true) ∨ (Q0 = noPan Q ∧ dk = false) → cDrawM P md ops (kpDraw kp dk) js e k w.drew →
         wpAnyIn (wf r) n P md ops Q0 ops.size (Array.replicate ops.size false) a w.drew := by
       intro md Q0 hQ0 h
       rw [cDrawM_eq] at h
       rcases hQ0 with ⟨rfl, rfl⟩ | ⟨rfl, rfl⟩
       · exact wpAnyR_In hd.2 _ _ _ _ (cDraw_sound hd.1 (hI rfl) js (okJ_spec hjs) _ _ _ _ _ _ he h hk hp)
       · exact wpAnyR_In hd.2 _ _ _ _ (cDraw_sound (kp := none) hd.1 (fun c a d v w _ h => h) js (okJ_spec hjs) _ _ _ _ _ _ he h hk (fun e' a' ch w' _ _ h => False.elim h))
     have both' : ∀ Q0 : Exit → Act → World → Prop, (Q0 = Q ∧ dk = true) ∨ (Q0 = noPan Q ∧ dk = false) → (Code.region id ops true).wpIn (wf r) n P Q0 a w := by
       intro Q0 hQ0
       rcases tf_sound (show tf (mixes P ops) _ _ w.drew from h) with ⟨hm, h⟩ | ⟨hm, h⟩
       · exact region_any hm (one _ _ hQ0 h)
       · exact region_two hm (one _ _ hQ0 h.1) (one _ _ hQ0 h.2)
     cases hdk : dk with
     | true => exact both' Q (.inl ⟨rfl, hdk⟩)
     | false =>
       refine wpIn_mono (Q := noPan Q) (both' _ (.inr ⟨rfl, hdk⟩)) ?_
       intro ex a' w' h
       cases ex <;> first | exact h | exact False.elim h
   · exact h.elim
theorem liveIn_spec {l : Live} {W : List Nat} (h : liveIn l W = true) : (∀ x ∈ l, x.1 ∈ W) ∧ markN ∉ W ∧ dfrN ∉ W := by
 unfold liveIn at h
 rw [Bool.and_eq_true, Bool.and_eq_true] at h
 refine ⟨fun x hx => ?_, by simpa using h.1.1, by simpa using h.1.2⟩
 have := List.all_eq_true.1 h.2 x hx
 simpa using this
theorem valL_length : ∀ (l : List Sh) (p : PayL l), (valL l p).length = l.length
 | [], _ => rfl
 | [_], _ => rfl
 | _ :: t :: l, (p, q) => by
   show (val _ p :: valL (t :: l) q).length = _
   rw [List.length_cons, valL_length (t :: l) q]
   rfl
theorem setPs_ag : ∀ (ps : List Nat) (vs : List Value) (e : Env) (a : Act), Ag e a → Ag (setPs ps vs e) ((ps.zip vs).foldl (fun a x => a.put (some x.1) x.2) a)
 | [], vs, e, a, h => by cases vs <;> exact h
 | _ :: _, [], e, a, h => h
 | p :: ps, v :: vs, e, a, h => setPs_ag ps vs _ _ (h.put (some p) (x := .val v) (fun u hu => by simpa [EV.v?] using hu.symm))
theorem foldl_put : ∀ (l : List (Nat × Value)) (a : Act), l.foldl (fun a x => a.put (some x.1) x.2) a = { a with tmps := l.foldl (fun t x => t.setIfInBounds x.1 x.2) a.tmps }
 | [], a => rfl
 | x :: l, a => by
   rw [List.foldl_cons, List.foldl_cons, foldl_put l]
   rfl
theorem xg_none {c : Code} {e : Env} {i : Nat} {w : World} (hi : hasExit i c = false) : ∀ {l : List (Nat × (Env → Pr))}, xg (xat c e l) i w → False
 | [], h => h.elim
 | (j, k) :: l, h => by
   unfold xat at h
   cases hj : hasExit j c with
   | false => rw [hj] at h; exact xg_none hi (l := l) h
   | true =>
     rw [hj] at h
     unfold xg at h
     cases hb : Nat.beq i j with
     | true =>
       have : i = j := Nat.eq_of_beq_eq_true hb
       subst this
       rw [hi] at hj
       cases hj
     | false => rw [hb] at h; exact xg_none hi (l := l) h
theorem xg_xat {c : Code} {e : Env} {i : Nat} {w : World} (hi : hasExit i c = true) : ∀ {l : List (Nat × (Env → Pr))}, xg (xat c e l) i w → xget l i e w
 | [], h => h.elim
 | (j, k) :: l, h => by
   unfold xat at h
   unfold xget
   cases hb : Nat.beq i j with
   | true =>
     have : i = j := Nat.eq_of_beq_eq_true hb
     subst this
     rw [hi] at h
     unfold xg at h
     rw [hb] at h
     exact h
   | false =>
     cases hj : hasExit j c with
     | false => rw [hj] at h; exact xg_xat hi (l := l) h
     | true =>
       rw [hj] at h
       unfold xg at h
       rw [hb] at h
       exact xg_xat hi (l := l) h
theorem xg_any {c : Code} {e : Env} {i : Nat} {w : World} {l : List (Nat × (Env → Pr))} (h : xg (xat c e l) i w) : xget l i e w := by
 cases hi : hasExit i c with
 | true => exact xg_xat hi h
 | false => exact (xg_none hi h).elim
theorem xget_xlv {lv : Option Nat → Pr} {i : Nat} {e : Env} {w : World} : ∀ {l : List (Nat × (Env → Pr))}, xget (xlv lv l) i e w → lv (some i) w
 | [], h => h.elim
 | (j, k) :: l, h => by
   unfold xlv xget at h
   cases hb : Nat.beq i j with
   | true =>
     rw [hb] at h
     have : i = j := Nat.eq_of_beq_eq_true hb
     subst this
     exact h
   | false =>
     rw [hb] at h
     exact xget_xlv (l := l) h
theorem noLab_has {l : Nat} : ∀ {c : Code}, noLab c = true → hasLab l c = false
 | .seq a b, h => by
   simp only [noLab, Bool.and_eq_true] at h
   simp only [hasLab, noLab_has (c := a) h.1, noLab_has (c := b) h.2, Bool.or_self]
 | .label _, h => by cases h
 | .skip, _ | .region _ _ _, _ | .cond _ _ _, _ | .block _ _, _ | .loop _, _ | .scope _, _ | .exit _, _ | .goto _, _ | .ret, _ | .refuse _, _ | .rangeFunc _ _ _ _, _ => rfl
def landQ (P : Program) (n : Nat) (r : Option Nat) : Code → Nat → (Exit → Act → World → Prop) → Act → World → Prop
 | .seq a b, l, Q, ac, w => (hasLab l a = true → landQ P n r a l (Exit.then (b.wpIn (wf r) n P Q) Q) ac w) ∧ (hasLab l b = true → landQ P n r b l Q ac w)
 | .label _, _, Q, ac, w => Q .normal ac w
 | _, _, _, _, _ => True
theorem findLabel_has {l : Nat} : ∀ {c rest : Code}, findLabel c l = some rest → hasLab l c = true
 | .seq a b, rest, h => by
   unfold findLabel at h
   simp only [hasLab, Bool.or_eq_true]
   split at h
   · rename_i ra ha; exact .inl (findLabel_has ha)
   · exact .inr (findLabel_has h)
 | .label l', rest, h => by
   unfold findLabel at h
   split at h
   · rename_i he
     have : l' = l := by simpa using he
     subst this
     exact Nat.beq_refl _
   · cases h
 | .skip, _, h | .region _ _ _, _, h | .cond _ _ _, _, h | .block _ _, _, h | .loop _, _, h | .scope _, _, h | .exit _, _, h | .goto _, _, h | .ret, _, h | .refuse _, _, h | .rangeFunc _ _ _ _, _, h => by simp [findLabel] at h
theorem has_findLabel {l : Nat} : ∀ {c : Code}, hasLab l c = true → ∃ rest, findLabel c l = some rest
 | .seq a b, h => by
   simp only [hasLab, Bool.or_eq_true] at h
   unfold findLabel
   cases ha : findLabel a l with
   | some ra => exact ⟨_, rfl⟩
   | none =>
     rcases h with h | h
     · obtain ⟨r, hr⟩ := has_findLabel h
       rw [ha] at hr; cases hr
     · exact has_findLabel h
 | .label l', h => by
   have : l' = l := (Nat.eq_of_beq_eq_true (show Nat.beq l' l = true from h))
   subst this
   exact ⟨.skip, by simp [findLabel]⟩
 | .skip, h | .region _ _ _, h | .cond _ _ _, h | .block _ _, h | .loop _, h | .scope _, h | .exit _, h | .goto _, h | .ret, h | .refuse _, h | .rangeFunc _ _ _ _, h => by cases h
theorem landQ_wp {P : Program} {n : Nat} {r : Option Nat} {l : Nat} : ∀ {c rest : Code} {Q : Exit → Act → World → Prop} {a : Act} {w : World}, findLabel c l = some rest → landQ P n r c l Q a w → rest.wpIn (wf r) n P Q a w
 | .seq c1 c2, rest, Q, a, w, h, hl => by
   obtain ⟨h1, h2⟩ := hl
   unfold findLabel at h
   split at h
   · rename_i ra ha
     simp only [Option.some.injEq] at h
     subst h
     exact wpIn_seq (landQ_wp ha (h1 (findLabel_has ha)))
   · exact landQ_wp h (h2 (findLabel_has h))
 | .label l', rest, Q, a, w, h, hl => by
   unfold findLabel at h
   split at h
   · simp only [Option.some.injEq] at h
     subst h
     exact wpIn_skip hl
   · cases h
 | .skip, _, _, _, _, h, _ | .region _ _ _, _, _, _, _, h, _ | .cond _ _ _, _, _, _, _, h, _ | .block _ _, _, _, _, _, h, _ | .loop _, _, _, _, _, h, _ | .scope _, _, _, _, _, h, _ | .exit _, _, _, _, _, h, _
 | .goto _, _, _, _, _, h, _ | .ret, _, _, _, _, h, _ | .refuse _, _, _, _, _, h, _ | .rangeFunc _ _ _ _, _, _, _, _, h, _ => by simp [findLabel] at h
def jumpQ (l : Nat) (J : Act → World → Prop) (Q : Exit → Act → World → Prop) : Exit → Act → World → Prop
 | .goto l', a, w => l' = l ∧ J a w
 | e, a, w => Q e a w
theorem wpIn_scope_jumpsG {F : Fence} {n : Nat} {P : Program} {Q : Exit → Act → World → Prop} {a : Act} {w : World} {c rest : Code} {S : Type} (l : Nat) (J : S → Act → World → Prop) (μ : S → World → Nat) (hf : findLabel c l = some rest)
   (first : c.wpIn F n P (jumpQ l (fun a w => ∃ s, J s a w) Q) a w)
   (pass : ∀ s a w, J s a w → rest.wpIn F n P (jumpQ l (fun a' w' => ∃ s', J s' a' w' ∧ μ s' w' < μ s w) Q) a w) : (Code.scope c).wpIn F n P Q a w := by
 intro b k cs hro hb hr
 have h0 : (lone (b.atR a (.code (.scope c) :: k)) cs w).fenced P F := fenced_calm hb hr rfl
 have hg : gotoIn l (.inScope c :: k) = some (.code rest :: .inScope c :: k) := by simp [gotoIn, hf]
 have hxe : ∀ id, exitTo id (.inScope c :: k) = exitTo id k := fun id => by simp [exitTo]
 have key : ∀ m s a w, μ s w = m → J s a w → ∃ e a' w', Q e a' w' ∧ ArrivesIn (Machine.fenced P F) P (lone (b.atR a (.code rest :: .inScope c :: k)) cs w) b k cs e a' w' := by
   intro m
   induction m using Nat.strongRecOn with
   | _ m ih =>
     intro s a w hn hJ
     obtain ⟨e, a₁, w₁, hq, harr⟩ := pass s a w hJ b (.inScope c :: k) cs hro hb hr
     cases e with
     | normal => exact ⟨.normal, a₁, w₁, hq, StepsIn.trans harr (.one (fenced_calm hb hr rfl) stepR_inScope')⟩
     | exit id => exact ⟨.exit id, a₁, w₁, hq, fun k' hk => harr.1 k' (by rw [hxe]; exact hk), fun hr' hk => harr.2 hr' (by rw [hxe]; exact hk)⟩
     | goto l' =>
       obtain ⟨rfl, s', hJ', hlt⟩ := hq
       obtain ⟨e₂, a₂, w₂, hq₂, harr₂⟩ := ih _ (hn ▸ hlt) s' a₁ w₁ rfl hJ'
       exact ⟨e₂, a₂, w₂, hq₂, .of_steps (harr.1 _ hg) harr₂⟩
     | ret => exact ⟨_, a₁, w₁, hq, harr⟩
     | panic ch => exact ⟨_, a₁, w₁, hq, harr⟩
     | outgrown => exact ⟨_, a₁, w₁, hq, harr⟩
 obtain ⟨e, a₁, w₁, hq, harr⟩ := first b (.inScope c :: k) cs hro hb hr
 cases e with
 | normal => exact ⟨.normal, a₁, w₁, hq, .head h0 stepR_scope' (StepsIn.trans harr (.one (fenced_calm hb hr rfl) stepR_inScope'))⟩
 | exit id =>
   exact ⟨_, a₁, w₁, hq, fun k' hk => .head h0 stepR_scope' (harr.1 k' (by rw [hxe]; exact hk)),
     fun hr' hk => let ⟨k₁, h1, h2⟩ := harr.2 hr' (by rw [hxe]; exact hk); ⟨k₁, h1, .head h0 stepR_scope' h2⟩⟩
 | goto l' =>
   obtain ⟨rfl, s', hJ'⟩ := hq
   obtain ⟨e₂, a₂, w₂, hq₂, harr₂⟩ := key _ s' a₁ w₁ rfl hJ'
   exact ⟨e₂, a₂, w₂, hq₂, .of_steps (.head h0 stepR_scope' (harr.1 _ hg)) harr₂⟩
 | ret => exact ⟨_, a₁, w₁, hq, .of_steps (.one h0 stepR_scope') harr⟩
 | panic ch => exact ⟨_, a₁, w₁, hq, .of_steps (.one h0 stepR_scope') harr⟩
 | outgrown => exact ⟨_, a₁, w₁, hq, .of_steps (.one h0 stepR_scope') harr⟩
def SoundC (P : Program) (dk : Bool) (an : An) : Prop := ∀ (kp : KP) (n : Nat) (r : Option Nat) (c : Code) (Q : Exit → Act → World → Prop) (e : Env) (a : Act) (w : World) (K : Ks), (dk = true → ∀ ch a d v w, d ∈ wrC c → Q (.panic ch) (a.put (some d) v) w → Q (.panic ch) a w) →
   (∀ e' a' ch w', Ag e' a' → Ext (wrC c) e e' → kpH (kp.at e') ch w' → Q (.panic ch) a' w') → Ag e a → cC P kp dk an c e K w → (K.rg = false → r = none) →
   (∀ e' a' w', Ag e' a' → Ext (wrC c) e e' → K.n e' w' → Q .normal a' w') → (∀ e' a' w', Ag e' a' → K.r e' w' → Q .ret a' w') →
   (∀ i e' a' w', Ag e' a' → Ext (wrC c) e e' → xget K.x i e' w' → Q (.exit i) a' w') →
   (∀ l e' a' w', Ag e' a' → Ext (wrC c) e e' → xget K.g l e' w' → Q (.goto l) a' w') →
   (∀ l e' a' w', hasLab l c = true → Ag e' a' → Ext (wrC c) e e' → xget K.g l e' w' → landQ P n r c l Q a' w') → c.wpIn (wf r) n P Q a w
def SoundL (P : Program) (dk : Bool) (an : An) : Prop := ∀ (kp : KP) (n : Nat) (r : Option Nat) (lb : Nat) (c : Code) (Q : Exit → Act → World → Prop) (e : Env) (a : Act) (w : World) (K : Ks), (dk = true → ∀ ch a d v w, d ∈ wrC c → Q (.panic ch) (a.put (some d) v) w → Q (.panic ch) a w) →
   (∀ e' a' ch w', Ag e' a' → Ext (wrC c) e e' → kpH (kp.at e') ch w' → Q (.panic ch) a' w') → Ag e a → cL P kp dk lb an c e K w → (K.rg = false → r = none) →
   (∀ e' a' w', Ag e' a' → Ext (wrC c) e e' → K.n e' w' → Q .normal a' w') → (∀ e' a' w', Ag e' a' → K.r e' w' → Q .ret a' w') →
   (∀ i e' a' w', Ag e' a' → Ext (wrC c) e e' → xget K.x i e' w' → Q (.exit i) a' w') →
   (∀ l e' a' w', Ag e' a' → Ext (wrC c) e e' → xget K.g l e' w' → Q (.goto l) a' w') →
   (∀ l e' a' w', l ≠ lb → hasLab l c = true → Ag e' a' → Ext (wrC c) e e' → xget K.g l e' w' → landQ P n r c l Q a' w') → landQ P n r c lb Q a w
theorem cL_z {dk : Bool} : SoundL P dk .z := by
 intro kp n r lb c Q e a w K hI hp he h hrg hn hr hx hgo hla
 cases c <;> simp only [cL] at h <;> try exact h.elim
 rcases tf_sound h with ⟨_, h⟩ | ⟨_, h⟩
 · exact hn _ _ _ he (Ext.refl _ _) h
 · exact h.elim
theorem cL_sq {dk : Bool} {x y : An} (ihx : SoundL P dk x) (ihy : SoundL P dk y) (icy : SoundC P dk y) : SoundL P dk (.sq x y) := by
 intro kp n r lb c Q e a w K hI hp he h hrg hn hr hx hgo hla
 cases c <;> simp only [cL] at h <;> try exact h.elim
 rename_i c1 c2
 rcases tf_sound h with ⟨h1, h⟩ | ⟨h1, h⟩
 · rcases tf_sound h with ⟨h2, h⟩ | ⟨h2, h⟩
   · exact h.elim
   · refine ⟨fun _ => ?_, fun h3 => by rw [h2] at h3; cases h3⟩
     refine ihx _ _ _ lb c1 _ e a w _ (fun hd ch a d v w hm h => hI hd ch a d v w (by simp [wrC, hm]) h) (fun e1 a1 ch w1 he1 hx1 h1 => hp _ _ _ _ he1 (hx1.mono (fun _ h => by simp [wrC, h])) h1) he h hrg ?_ hr ?_ ?_ ?_
     · intro e1 a1 w1 he1 hx1 h1
       refine icy _ _ _ c2 Q e1 a1 w1 K (fun hd ch a d v w hm h => hI hd ch a d v w (by simp [wrC, hm]) h) (fun e2 a2 ch w2 he2 hx2 h2 => hp _ _ _ _ he2 (hx1.trans hx2 (fun _ h => by simp [wrC, h]) (fun _ h => by simp [wrC, h])) h2) he1 h1 hrg ?_ hr ?_ ?_ ?_
       · intro e2 a2 w2 he2 hx2 h2
         exact hn _ _ _ he2 (hx1.trans hx2 (fun _ h => by simp [wrC, h]) (fun _ h => by simp [wrC, h])) h2
       · intro i e2 a2 w2 he2 hx2 h2
         exact hx _ _ _ _ he2 (hx1.trans hx2 (fun _ h => by simp [wrC, h]) (fun _ h => by simp [wrC, h])) h2
       · intro i e2 a2 w2 he2 hx2 h2
         exact hgo _ _ _ _ he2 (hx1.trans hx2 (fun _ h => by simp [wrC, h]) (fun _ h => by simp [wrC, h])) h2
       · intro l e2 a2 w2 hl he2 hx2 h2
         exact (hla l e2 a2 w2 (fun h3 => by rw [h3, ‹hasLab lb c2 = false›] at hl; cases hl) (by simp [hasLab, hl]) he2 (hx1.trans hx2 (fun _ h => by simp [wrC, h]) (fun _ h => by simp [wrC, h])) h2).2 hl
     · intro i e1 a1 w1 he1 hx1 h1
       exact hx _ _ _ _ he1 (hx1.mono (fun _ h => by simp [wrC, h])) h1
     · intro i e1 a1 w1 he1 hx1 h1
       exact hgo _ _ _ _ he1 (hx1.mono (fun _ h => by simp [wrC, h])) h1
     · intro l e1 a1 w1 hne hl he1 hx1 h1
       exact (hla l e1 a1 w1 hne (by simp [hasLab, hl]) he1 (hx1.mono (fun _ h => by simp [wrC, h])) h1).1 hl
 · refine ⟨fun h3 => absurd (h1.symm.trans h3) (by decide), fun _ => ?_⟩
   exact ihy _ _ _ lb c2 Q e a w K (fun hd ch a d v w hm h => hI hd ch a d v w (by simp [wrC, hm]) h) (fun e1 a1 ch w1 he1 hx1 h1 => hp _ _ _ _ he1 (hx1.mono (fun _ h => by simp [wrC, h])) h1) he h hrg
     (fun e1 a1 w1 he1 hx1 h1 => hn _ _ _ he1 (hx1.mono (fun _ h => by simp [wrC, h])) h1) hr (fun i e1 a1 w1 he1 hx1 h1 => hx _ _ _ _ he1 (hx1.mono (fun _ h => by simp [wrC, h])) h1)
     (fun i e1 a1 w1 he1 hx1 h1 => hgo _ _ _ _ he1 (hx1.mono (fun _ h => by simp [wrC, h])) h1)
     (fun l e1 a1 w1 hne hl he1 hx1 h1 => (hla l e1 a1 w1 hne (by simp [hasLab, hl]) he1 (hx1.mono (fun _ h => by simp [wrC, h])) h1).2 hl)
theorem cL_none {dk : Bool} {an : An} (h : ∀ P kp dk lb c e K, cL P kp dk lb an c e K = fls) : SoundL P dk an := by
 intro kp n r lb c Q e a w K _ _ _ h1
 rw [h] at h1
 exact h1.elim
theorem cC_sound0 {dk : Bool} : ∀ (an : An), SoundC P dk an ∧ SoundL P dk an := by
 intro an
 induction an with
 | z =>
   refine ⟨?_, cL_z⟩
   intro kp n r c Q e a w K hI hp he h hrg hn hr hx hgo hla
   cases c <;> simp only [cC] at h <;> try exact h.elim
   · exact wpIn_skip (hn _ _ _ he (Ext.refl _ _) h)
   · exact cReg_sound hrg hI rfl he h hn hp
   · exact wpIn_exit (hx _ _ _ _ he (Ext.refl _ _) h)
   · exact wpIn_label (hn _ _ _ he (Ext.refl _ _) h)
   · exact wpIn_goto (hgo _ _ _ _ he (Ext.refl _ _) h)
   · exact wpIn_ret (hr _ _ _ he h)
 | sq x y ihx ihy =>
   refine ⟨?_, cL_sq ihx.2 ihy.2 ihy.1⟩
   replace ihx := ihx.1
   replace ihy := ihy.1
   intro kp n r c Q e a w K hI hp he h hrg hn hr hx hgo hla
   cases c <;> simp only [cC] at h <;> try exact h.elim
   rename_i c1 c2
   refine wpIn_seq (ihx _ _ _ c1 _ e a w _ (fun hd ch a d v w hm h => hI hd ch a d v w (by simp [wrC, hm]) h) (fun e1 a1 ch w1 he1 hx1 h1 => hp _ _ _ _ he1 (hx1.mono (fun _ h => by simp [wrC, h])) h1) he h hrg ?_ hr ?_ ?_ ?_)
   · intro e1 a1 w1 he1 hx1 h1
     refine ihy _ _ _ c2 Q e1 a1 w1 K (fun hd ch a d v w hm h => hI hd ch a d v w (by simp [wrC, hm]) h) (fun e2 a2 ch w2 he2 hx2 h2 => hp _ _ _ _ he2 (hx1.trans hx2 (fun _ h => by simp [wrC, h]) (fun _ h => by simp [wrC, h])) h2) he1 h1 hrg ?_ hr ?_ ?_ ?_
     · intro e2 a2 w2 he2 hx2 h2
       exact hn _ _ _ he2 (hx1.trans hx2 (fun _ h => by simp [wrC, h]) (fun _ h => by simp [wrC, h])) h2
     · intro i e2 a2 w2 he2 hx2 h2
       exact hx _ _ _ _ he2 (hx1.trans hx2 (fun _ h => by simp [wrC, h]) (fun _ h => by simp [wrC, h])) h2
     · intro i e2 a2 w2 he2 hx2 h2
       exact hgo _ _ _ _ he2 (hx1.trans hx2 (fun _ h => by simp [wrC, h]) (fun _ h => by simp [wrC, h])) h2
     · intro l e2 a2 w2 hl he2 hx2 h2
       exact (hla l e2 a2 w2 (by simp [hasLab, hl]) he2 (hx1.trans hx2 (fun _ h => by simp [wrC, h]) (fun _ h => by simp [wrC, h])) h2).2 hl
   · intro i e1 a1 w1 he1 hx1 h1
     exact hx _ _ _ _ he1 (hx1.mono (fun _ h => by simp [wrC, h])) h1
   · intro i e1 a1 w1 he1 hx1 h1
     exact hgo _ _ _ _ he1 (hx1.mono (fun _ h => by simp [wrC, h])) h1
   · intro l e1 a1 w1 hl he1 hx1 h1
     exact (hla l e1 a1 w1 (by simp [hasLab, hl]) he1 (hx1.mono (fun _ h => by simp [wrC, h])) h1).1 hl
 | br x y ihx ihy =>
   refine ⟨?_, cL_none fun _ _ _ _ c _ _ => by cases c <;> rfl⟩
   replace ihx := ihx.1
   replace ihy := ihy.1
   intro kp n r c Q e a w K hI hp he h hrg hn hr hx hgo hla
   cases c <;> simp only [cC] at h <;> try exact h.elim
   rename_i o c1 c2
   rcases tf_sound h with ⟨hnl, h⟩ | ⟨_, h⟩
   rotate_left
   · exact h.elim
   rw [Bool.and_eq_true] at hnl
   obtain ⟨b, hb, h⟩ := cbr_sound h
   have hev := he.eval (x := o) hb
   rcases h with ⟨rfl, h⟩ | ⟨rfl, h⟩
   · refine wpIn_cond_true hev (ihx _ _ _ c1 Q e a w K (fun hd ch a d v w hm h => hI hd ch a d v w (by simp [wrC, hm]) h) (fun e1 a1 ch w1 he1 hx1 h1 => hp _ _ _ _ he1 (hx1.mono (fun _ h => by simp [wrC, h])) h1) he h hrg ?_ hr ?_ ?_ ?_)
     · exact fun e1 a1 w1 he1 hx1 h1 => hn _ _ _ he1 (hx1.mono (fun _ h => by simp [wrC, h])) h1
     · exact fun i e1 a1 w1 he1 hx1 h1 => hx _ _ _ _ he1 (hx1.mono (fun _ h => by simp [wrC, h])) h1
     · exact fun i e1 a1 w1 he1 hx1 h1 => hgo _ _ _ _ he1 (hx1.mono (fun _ h => by simp [wrC, h])) h1
     · exact fun l _ _ _ hl => by rw [noLab_has hnl.1] at hl; cases hl
   · refine wpIn_cond_false hev (ihy _ _ _ c2 Q e a w K (fun hd ch a d v w hm h => hI hd ch a d v w (by simp [wrC, hm]) h) (fun e1 a1 ch w1 he1 hx1 h1 => hp _ _ _ _ he1 (hx1.mono (fun _ h => by simp [wrC, h])) h1) he h hrg ?_ hr ?_ ?_ ?_)
     · exact fun e1 a1 w1 he1 hx1 h1 => hn _ _ _ he1 (hx1.mono (fun _ h => by simp [wrC, h])) h1
     · exact fun i e1 a1 w1 he1 hx1 h1 => hx _ _ _ _ he1 (hx1.mono (fun _ h => by simp [wrC, h])) h1
     · exact fun i e1 a1 w1 he1 hx1 h1 => hgo _ _ _ _ he1 (hx1.mono (fun _ h => by simp [wrC, h])) h1
     · exact fun l _ _ _ hl => by rw [noLab_has hnl.2] at hl; cases hl
 | bl x ihx =>
   refine ⟨?_, cL_none fun _ _ _ _ c _ _ => by cases c <;> rfl⟩
   replace ihx := ihx.1
   intro kp n r c Q e a w K hI hp he h hrg hn hr hx hgo hla
   cases c <;> simp only [cC] at h <;> try exact h.elim
   rename_i id c1
   rcases tf_sound h with ⟨hnl, h⟩ | ⟨_, h⟩
   rotate_left
   · exact h.elim
   refine wpIn_block (ihx _ _ _ c1 _ e a w _ (fun hd ch a d v w hm h => hI hd ch a d v w hm h) (fun e1 a1 ch w1 he1 hx1 h1 => hp _ _ _ _ he1 hx1 h1) he h hrg hn hr ?_ hgo (fun l _ _ _ hl => by rw [noLab_has hnl] at hl; cases hl))
   intro i e1 a1 w1 he1 hx1 h1
   simp only [xget] at h1
   by_cases hi : i = id
   · subst hi
     rw [Nat.beq_refl] at h1
     simp only [Exit.inBlock, if_true]
     exact hn _ _ _ he1 hx1 h1
   · have hb : Nat.beq i id = false := by
       cases hb : Nat.beq i id with
       | false => rfl
       | true => exact absurd (Nat.eq_of_beq_eq_true hb) hi
     rw [hb] at h1
     simp only [Exit.inBlock, hi, if_false]
     exact hx _ _ _ _ he1 hx1 h1
 | sc x ihx =>
   refine ⟨?_, cL_none fun _ _ _ _ c _ _ => by cases c <;> rfl⟩
   replace ihx := ihx.1
   intro kp n r c Q e a w K hI hp he h hrg hn hr hx hgo hla
   cases c <;> simp only [cC] at h <;> try exact h.elim
   rename_i c1
   exact wpIn_scope' (ihx _ _ _ c1 _ e a w _ (fun hd ch a d v w hm h => hI hd ch a d v w hm h) (fun e1 a1 ch w1 he1 hx1 h1 => hp _ _ _ _ he1 hx1 h1) he h hrg hn hr hx (fun _ _ _ _ _ _ h => h.elim) (fun _ _ _ _ _ _ _ h => h.elim))
 | lp l x ihx =>
   refine ⟨?_, cL_none fun _ _ _ _ c _ _ => by cases c <;> rfl⟩
   replace ihx := ihx.1
   intro kp n r c Q e a w K hI hp he h hrg hn hr hx hgo hla
   cases c <;> simp only [cC] at h <;> try exact h.elim
   rename_i c1
   have hI0 := hI
   rcases tf_sound h with ⟨hl, h⟩ | ⟨_, h⟩
   · rw [Bool.and_eq_true] at hl
     have hnl := hl.2
     obtain ⟨hlive, hmk, hdf⟩ := liveIn_spec hl.1
     obtain ⟨s, hs, I, μ, hI, hG⟩ := need_sound (e0 := Env.forget e (wrC c1)) he (he.forget (Ext.refl _ _) hmk hdf) h
     refine wpIn_loopG (fun s a w => Ag (upd (Env.forget e (wrC c1)) l s) a ∧ I s w) μ ⟨hs, hI⟩ ?_
     rintro s1 a1 w1 ⟨ha1, hI1⟩
     have hext : Ext (wrC c1) e (upd (Env.forget e (wrC c1)) l s1) := Ext.upd (Ext.forget _ _) hlive
     refine ihx _ _ _ c1 _ _ a1 w1 _ (fun hd ch a d v w hm h => hI0 hd ch a d v w hm h) (fun e2 a2 ch w2 he2 hx2 h2 => hp _ _ _ _ he2 (hext.trans hx2 (fun _ h => h) (fun _ h => h)) h2) ha1 (hG s1 w1 hI1) hrg ?_ hr ?_ ?_ (fun l _ _ _ hl => by rw [noLab_has hnl] at hl; cases hl)
     · intro e2 a2 w2 he2 hx2 h2
       obtain ⟨s2, hs2, h3, h4⟩ := need_sound (e0 := Env.forget e (wrC c1)) he2 (he2.forget (hext.trans hx2 (fun _ h => h) (fun _ h => h)) hmk hdf) h2
       exact ⟨s2, ⟨hs2, h3⟩, h4⟩
     · intro i e2 a2 w2 he2 hx2 h2
       exact hx _ _ _ _ he2 (hext.trans hx2 (fun _ h => h) (fun _ h => h)) h2
     · intro i e2 a2 w2 he2 hx2 h2
       exact hgo _ _ _ _ he2 (hext.trans hx2 (fun _ h => h) (fun _ h => h)) h2
   · exact h.elim
 | jn l x ihx =>
   refine ⟨?_, cL_none fun _ _ _ _ c _ _ => by cases c <;> rfl⟩
   replace ihx := ihx.1
   intro kp n r c Q e a w K hI hp he h hrg hn hr hx hgo hla
   have h' : tf (liveIn l (wrC c) && noLab c) (jn (fun R => cC P kp dk x c e { K with n := fun e' => need e' l R }) (fun s => K.n (upd (Env.forget e (wrC c)) l s))) fls w := by cases c <;> exact h
   rcases tf_sound h' with ⟨hl, h⟩ | ⟨_, h⟩
   · rw [Bool.and_eq_true] at hl
     have hnl := hl.2
     obtain ⟨hlive, hmk, hdf⟩ := liveIn_spec hl.1
     obtain ⟨R, h1, h2⟩ := h
     let Q' : Exit → Act → World → Prop := fun ex a' w' => match ex with
       | .normal => ∃ s, Ag (upd (Env.forget e (wrC c)) l s) a' ∧ R s w'
       | ex => Q ex a' w'
     refine wpIn_mono (ihx _ _ _ c Q' e a w _ (fun hd ch a d v w hm h => hI hd ch a d v w hm h) (fun e1 a1 ch w1 he1 hx1 h1 => hp _ _ _ _ he1 hx1 h1) he h1 hrg ?_ hr hx hgo (fun l _ _ _ hl => by rw [noLab_has hnl] at hl; cases hl)) ?_
     · intro e1 a1 w1 he1 hx1 h3
       exact need_sound (e0 := Env.forget e (wrC c)) he1 (he1.forget hx1 hmk hdf) h3
     · intro ex a' w' h3
       cases ex with
       | normal =>
         obtain ⟨s, hs, h4⟩ := h3
         exact hn _ _ _ hs (Ext.upd (Ext.forget _ _) hlive) (h2 _ _ h4)
       | _ => exact h3
   · exact h.elim

 | rf shs x y ihx ihy =>
   refine ⟨?_, cL_none fun _ _ _ _ c _ _ => by cases c <;> rfl⟩
   replace ihx := ihx.1
   replace ihy := ihy.1
   intro kp n r c Q e a w K hI hp he h hrg hn hr hx hgo hla
   cases c <;> simp only [cC] at h <;> try exact h.elim
   rename_i g ps assign body
   rcases tf_sound h with ⟨hb, h⟩ | ⟨_, h⟩
   rotate_left
   · exact h.elim
   simp only [Bool.and_eq_true, Bool.not_eq_true'] at hb
   have hr0 := hrg hb.1
   subst hr0
   have hps := Nat.eq_of_beq_eq_true hb.2
   obtain ⟨f, caps, hv, hcl, h⟩ := ndEv he h
   refine wpIn_rangeFunc ?_
   intro fn hfn
   obtain ⟨L, hL⟩ : ∃ L : LoopState → Option Code → Obj, L = fun st pe => .loop { state := st, pending := pe, fn, tmps := a.tmps, params := ps, assign, body, defers := w.heap.size } := ⟨_, rfl⟩
   have hcall := h L (fun s p => ⟨_, by rw [hL]⟩) ?_
   rotate_left
   · intro W args k hl hR
     have hl' : W.heap[w.heap.size + 1]? = some (.loop { state := .ready, pending := none, fn, tmps := a.tmps, params := ps, assign, body, defers := w.heap.size }) := by rw [hl, hL]
     refine ⟨_, _, _, _, run_yield hl' (by rw [← hps]; simp [valL_length]), roundIn_of_wpIn trivial ?_⟩
     have hag : Ag (setPs ps.toList (valL shs args) ⟨e.l, [], []⟩) { tmps := (ps.zip (valL shs args).toArray).foldl (fun t x => t.setIfInBounds x.1 x.2) a.tmps, defers := [] } := by
       have h0 : Ag ⟨e.l, [], []⟩ { tmps := a.tmps, defers := [] } := ⟨he.size, he.get, rfl⟩
       have h1 := setPs_ag ps.toList (valL shs args) _ _ h0
       rw [foldl_put] at h1
       have h2 : (ps.zip (valL shs args).toArray).foldl (fun t x => t.setIfInBounds x.1 x.2) a.tmps = (ps.toList.zip (valL shs args)).foldl (fun t x => t.setIfInBounds x.1 x.2) a.tmps := by
         rw [← Array.foldl_toList, Array.toList_zip]
       rw [h2]
       exact h1
     refine ihx none 0 (some (w.heap.size + 1)) assign _ _ _ W _ (fun _ c a d v w _ h => h) (fun _ _ _ _ _ _ h => False.elim h) hag hR (fun h => by cases h) ?_ (fun _ _ _ _ h => h.elim) (fun _ _ _ _ _ _ h => h.elim) (fun _ _ _ _ _ _ h => h.elim) (fun _ _ _ _ _ _ _ h => h.elim)
     rintro e1 a1 w1 he1 _ ⟨h1, h2⟩
     have h1' : w1.heap[w.heap.size + 1]? = some (.loop { state := .ready, pending := none, fn, tmps := a.tmps, params := ps, assign, body, defers := w.heap.size }) := by rw [h1, hL]
     have hbr := run_beginRound (P := P) h1' rfl
     refine ⟨_, hbr, ?_⟩
     have hLb : (Obj.loop { state := .busy, pending := none, fn, tmps := a.tmps, params := ps, assign, body, defers := w.heap.size }) = L .busy none := by rw [hL]
     rw [show ({ ({ state := .ready, pending := none, fn := fn, tmps := a.tmps, params := ps, assign := assign, body := body, defers := w.heap.size } : Loop) with state := .busy } : Loop) = { state := .busy, pending := none, fn, tmps := a.tmps, params := ps, assign, body, defers := w.heap.size } from rfl, hLb]
     have hend : ∀ (W3 : World) (jump : Option Code), W3.heap[w.heap.size + 1]? = some (L .busy none) →
         (Instr.endRound (w.heap.size + 1) jump).run P W3 = .ok (.bool jump.isNone) (W3.putObj (w.heap.size + 1) (L (if jump.isNone then .ready else .done) jump)) := by
       intro W3 jump h3
       have h3' : W3.heap[w.heap.size + 1]? = some (.loop { state := .busy, pending := none, fn, tmps := a.tmps, params := ps, assign, body, defers := w.heap.size }) := by rw [h3, hL]
       rw [run_endRound jump h3', hL]
     refine ihy none 0 (some (w.heap.size + 1)) body _ e1 a1 _ _ (fun _ c a d v w _ h => h) (fun _ _ _ _ _ _ h => False.elim h) he1 h2 (fun h => by cases h) ?_ ?_ ?_ (fun _ _ _ _ _ _ h => h.elim) (fun _ _ _ _ _ _ _ h => h.elim)
     · rintro e2 a2 w2 _ _ ⟨h3, h4⟩
       exact ⟨_, _, hend w2 none h3, true, rfl, h4⟩
     · rintro e2 a2 w2 _ ⟨h3, h4⟩
       exact ⟨_, _, hend w2 (some .ret) h3, false, rfl, h4⟩
     · intro i e2 a2 w2 _ _ h5
       obtain ⟨h3, h4⟩ := xget_xlv h5
       exact ⟨_, _, hend w2 (some (.exit i)) h3, false, rfl, h4⟩
   have hmk : Ag (Env.mark e w.heap.size) { a with defers := [{ target := .collected w.heap.size, args := #[] }] ++ a.defers } := ⟨he.size, he.get, by rw [he.defers]; rfl⟩
   have hxm : Ext [markN] e (Env.mark e w.heap.size) := ⟨rfl, fun _ _ => rfl, fun h => absurd (List.mem_singleton.2 rfl) h, fun _ => rfl⟩
   have hinv : ∀ {args : Array Value} {w : World}, (callFunc f args).run P w = .ok (.enter f args) w := run_callFunc hcl
   refine ⟨w.heap.size + 1, [{ target := .collected w.heap.size, args := #[] }], (w.alloc (.deferred (some []))).alloc (L .ready none), { target := .fn (.func f) caps, args := #[.func (.yield (w.heap.size + 1)) #[] #[]] }, (w.alloc (.deferred (some []))).alloc (L .ready none), f,
     #[.func (.yield (w.heap.size + 1)) #[] #[]] ++ caps, (w.alloc (.deferred (some []))).alloc (L .ready none), ?_, ?_, fun _ _ => trivial, ?_, ?_, ?_⟩
   · rw [hL]; exact run_enterLoop_outer _ _ _ _ _
   · simp only [resolve, hv]
     simp [go_sem]
   · simp [invoke, go_sem, hinv]
   · intro h; cases h
   · refine callsIn_wf.2 (Calls.mono hcall ?_)
     rintro e1 W1 ⟨⟨u, rfl⟩, h1⟩
     have hend : ∀ (st : LoopState) (pe : Option Code), st ≠ .busy → W1.heap[w.heap.size + 1]? = some (L st pe) → (Instr.endLoop (w.heap.size + 1)).run P W1 = .ok pe (W1.putObj (w.heap.size + 1) (L .exhausted pe)) := by
       intro st pe hst h3
       have h3' : W1.heap[w.heap.size + 1]? = some (.loop { state := st, pending := pe, fn, tmps := a.tmps, params := ps, assign, body, defers := w.heap.size }) := by rw [h3, hL]
       rw [run_endLoop h3' hst, hL]
     rcases h1 with ⟨h2, h3⟩ | ⟨j, h2, h3⟩
     · exact ⟨none, _, hend _ _ (by simp) h2, hn _ _ _ hmk hxm h3⟩
     · refine ⟨some (jcode j), _, hend _ _ (by simp) h2, ?_⟩
       cases j with
       | none =>
         rcases tf_sound (show tf (hasRet body) _ _ _ from h3) with ⟨_, h4⟩ | ⟨_, h4⟩
         · exact wpIn_ret (hr _ _ _ hmk h4)
         · exact h4.elim
       | some i => exact wpIn_exit (hx _ _ _ _ hmk hxm (xg_any h3))

 | jm l x ihx =>
   refine ⟨?_, cL_none fun _ _ _ _ c _ _ => by cases c <;> rfl⟩
   replace ihx := ihx.1
   intro kp n r c Q e a w K hI hp he h hrg hn hr hx hgo hla
   have h' : tf ((!(wrC c).contains dfrN && l.all fun z => (wrC c).contains z.1) && noLab c) (jn (fun R => cC P kp dk x c e { K with n := fun e' => need e' l fun s => R (e'.ds, s) }) (fun s => K.n (upd ⟨(Env.forget e (wrC c)).l, s.1, e.bs⟩ l s.2))) fls w := by cases c <;> exact h
   rcases tf_sound h' with ⟨hl, h⟩ | ⟨_, h⟩
   · rw [Bool.and_eq_true] at hl
     have hnl := hl.2
     replace hl := hl.1
     rw [Bool.and_eq_true] at hl
     have hdf : dfrN ∉ wrC c := by simpa using hl.1
     have hlive : ∀ z ∈ l, z.1 ∈ wrC c := fun z hz => by simpa using List.all_eq_true.1 hl.2 z hz
     obtain ⟨R, h1, h2⟩ := h
     let Q' : Exit → Act → World → Prop := fun ex a' w' => match ex with
       | .normal => ∃ s, Ag (upd ⟨(Env.forget e (wrC c)).l, s.1, e.bs⟩ l s.2) a' ∧ R s w' ∧ (markN ∉ wrC c → s.1 = e.ds)
       | ex => Q ex a' w'
     refine wpIn_mono (ihx _ _ _ c Q' e a w _ (fun hd ch a d v w hm h => hI hd ch a d v w hm h) (fun e1 a1 ch w1 he1 hx1 h1 => hp _ _ _ _ he1 hx1 h1) he h1 hrg ?_ hr hx hgo (fun l _ _ _ hl => by rw [noLab_has hnl] at hl; cases hl)) ?_
     · intro e1 a1 w1 he1 hx1 h3
       have hf : Ag ⟨(Env.forget e (wrC c)).l, e1.ds, e.bs⟩ a1 := by
         refine ⟨?_, fun t v hv => ?_, by rw [he1.defers, hx1.2.2.2 hdf]⟩
         · have h1 : (⟨(Env.forget e (wrC c)).l, e1.ds, e.bs⟩ : Env).length = (Env.forget e (wrC c)).length := rfl
           rw [h1, Env.length_forget, hx1.1]
           exact he1.size
         · have hv' : (Env.get (Env.forget e (wrC c)) t).v? = some v := hv
           rw [Env.get_forget] at hv'
           split at hv'
           · simp [EV.v?] at hv'
           · rename_i ht
             by_cases hlt : t < e.length
             · have htW : t ∉ wrC c := fun h => ht ⟨h, hlt⟩
               rw [← hx1.2.1 t htW] at hv'
               exact he1.get t v hv'
             · rw [Env.get_none_of_ge e t (by omega)] at hv'
               simp [EV.v?] at hv'
       obtain ⟨p, hp, h4⟩ := need_sound he1 hf h3
       exact ⟨(e1.ds, p), hp, h4, fun hm => hx1.2.2.1 hm⟩
     · intro ex a' w' h3
       cases ex with
       | normal =>
         obtain ⟨s, hs, h4, h5⟩ := h3
         refine hn _ _ _ hs (Ext.upd (e0 := ⟨(Env.forget e (wrC c)).l, s.1, e.bs⟩) ?_ hlive) (h2 _ _ h4)
         have h6 := Ext.forget e (wrC c)
         exact ⟨h6.1, h6.2.1, h5, fun _ => rfl⟩
       | _ => exact h3
   · exact h.elim
 | rj js =>
   refine ⟨?_, cL_none fun _ _ _ _ c _ _ => by cases c <;> rfl⟩
   intro kp n r c Q e a w K hI hp he h hrg hn hr hx hgo hla
   cases c <;> simp only [cC] at h <;> try exact h.elim
   rcases tf_sound h with ⟨hj, h⟩ | ⟨_, h⟩
   · exact cReg_sound hrg hI hj he h hn hp
   · exact h.elim
 | lb =>
   refine ⟨?_, cL_none fun _ _ _ _ c _ _ => by cases c <;> rfl⟩
   intro kp n r c Q e a w K hI hp he h hrg hn hr hx hgo hla
   cases c <;> simp only [cC] at h <;> try exact h.elim
   rename_i l
   exact wpIn_label (hla l e a w (by simp [hasLab]) he (Ext.refl _ _) h)
 | sj lb l x y ihx ihy =>
   refine ⟨?_, cL_none fun _ _ _ _ c _ _ => by cases c <;> rfl⟩
   replace ihx := ihx.1
   replace ihy := ihy.2
   intro kp n r c Q e a w K hI hp he h hrg hn hr hx hgo hla
   cases c <;> simp only [cC] at h <;> try exact h.elim
   rename_i c1
   have hI0 := hI
   rcases tf_sound h with ⟨hl, h⟩ | ⟨_, h⟩
   rotate_left
   · exact h.elim
   rw [Bool.and_eq_true] at hl
   obtain ⟨hlive, hmk, hdf⟩ := liveIn_spec hl.1
   obtain ⟨rest, hrest⟩ := has_findLabel hl.2
   obtain ⟨I, μ, hF, hG⟩ := h
   have hland : ∀ (J : Act → World → Prop) (l' : Nat) (e' : Env) (a' : Act) (w' : World) (k : Env → Pr), (k e' w' → J a' w') → xget [(lb, k)] l' e' w' → l' = lb ∧ J a' w' := by
     intro J l' e' a' w' k hk hx
     unfold xget at hx
     cases hb : Nat.beq l' lb with
     | true => rw [hb] at hx; exact ⟨Nat.eq_of_beq_eq_true hb, hk hx⟩
     | false => rw [hb] at hx; exact hx.elim
   have hlnd : ∀ s a w (J' : Act → World → Prop), Ag (upd (Env.forget e (wrC c1)) l s) a → I s w → (∀ s' a' w', Ag (upd (Env.forget e (wrC c1)) l s') a' → I s' w' → μ s' w' < μ s w → J' a' w') → landQ P n r c1 lb (jumpQ lb J' Q) a w := by
     intro s1 a1 w1 J' ha1 hI1 hJ'
     have hext : Ext (wrC c1) e (upd (Env.forget e (wrC c1)) l s1) := Ext.upd (Ext.forget _ _) hlive
     refine ihy _ _ _ lb c1 (jumpQ lb J' Q) _ a1 w1 _ (fun hd ch a d v w hm h => hI0 hd ch a d v w hm h) (fun e2 a2 ch w2 he2 hx2 h2 => hp _ _ _ _ he2 (hext.trans hx2 (fun _ h => h) (fun _ h => h)) h2) ha1 (hG s1 w1 hI1) hrg ?_ hr ?_ ?_ ?_
     · exact fun e2 a2 w2 he2 hx2 h2 => hn _ _ _ he2 (hext.trans hx2 (fun _ h => h) (fun _ h => h)) h2
     · exact fun i e2 a2 w2 he2 hx2 h2 => hx _ _ _ _ he2 (hext.trans hx2 (fun _ h => h) (fun _ h => h)) h2
     · intro l' e2 a2 w2 he2 hx2 h2
       refine hland J' l' e2 a2 w2 _ (fun h3 => ?_) h2
       obtain ⟨s2, hs2, h4, h5⟩ := need_sound (e0 := Env.forget e (wrC c1)) he2 (he2.forget (hext.trans hx2 (fun _ h => h) (fun _ h => h)) hmk hdf) h3
       exact hJ' s2 a2 w2 hs2 h4 h5
     · intro l' e2 a2 w2 hne _ he2 hx2 h2
       exact absurd (hland (fun _ _ => True) l' e2 a2 w2 _ (fun _ => trivial) h2).1 hne
   have hneed : ∀ {e2 : Env} {a2 : Act} {w2 : World}, Ag e2 a2 → Ext (wrC c1) e e2 → need e2 l I w2 → ∃ s, Ag (upd (Env.forget e (wrC c1)) l s) a2 ∧ I s w2 := fun he2 hx2 h => need_sound (e0 := Env.forget e (wrC c1)) he2 (he2.forget hx2 hmk hdf) h
   refine wpIn_scope_jumpsG lb (fun s a w => Ag (upd (Env.forget e (wrC c1)) l s) a ∧ I s w) μ hrest ?_ ?_
   · refine ihx _ _ _ c1 _ e a w _ (fun hd ch a d v w hm h => hI0 hd ch a d v w hm h) (fun e2 a2 ch w2 he2 hx2 h2 => hp _ _ _ _ he2 hx2 h2) he hF hrg (fun e2 a2 w2 he2 hx2 h2 => hn _ _ _ he2 hx2 h2) hr (fun i e2 a2 w2 he2 hx2 h2 => hx _ _ _ _ he2 hx2 h2) ?_ ?_
     · intro l' e2 a2 w2 he2 hx2 h2
       exact hland (fun a w => ∃ s, Ag (upd (Env.forget e (wrC c1)) l s) a ∧ I s w) l' e2 a2 w2 _ (fun h3 => hneed he2 hx2 h3) h2
     · intro l' e2 a2 w2 _ he2 hx2 h2
       obtain ⟨rfl, s2, hs2, h3⟩ := hland (fun a w => ∃ s, Ag (upd (Env.forget e (wrC c1)) l s) a ∧ I s w) l' e2 a2 w2 _ (fun h3 => hneed he2 hx2 h3) h2
       exact hlnd s2 a2 w2 _ hs2 h3 fun s' a' w' h4 h5 _ => ⟨s', h4, h5⟩
   · rintro s1 a1 w1 ⟨ha1, hI1⟩
     exact landQ_wp hrest (hlnd s1 a1 w1 _ ha1 hI1 fun s' a' w' h4 h5 h6 => ⟨s', ⟨h4, h5⟩, h6⟩)
theorem cC_sound {dk : Bool} (an : An) : SoundC P dk an := (cC_sound0 an).1
def rets (P : Program) : List ResultVar → Env → (List Value → Pr) → Pr
 | [], _, f => f []
 | .tmp t :: l, e, f => nd (Env.get e t) fun v => rets P l e fun vs => f (v :: vs)
 | .cell t ty :: l, e, f => nd (Env.get e t) fun p => asPtr p fun ad => ldT P ty ad fun v => rets P l e fun vs => f (v :: vs)
def getL : (l : List Sh) → List Value → (PayL l → Pr) → Pr
 | [], [], f => f ()
 | [s], [v], f => getP s v f
 | s :: t :: l, v :: vs, f => getP s v fun p => getL (t :: l) vs fun q => f (p, q)
 | _, _, _ => fls
theorem getL_sound {w : World} : ∀ {l : List Sh} {vs : List Value} {f : PayL l → Pr}, getL l vs f w → ∃ p, vs = valL l p ∧ f p w
 | [], [], _, h => ⟨(), rfl, h⟩
 | [], _ :: _, _, h => h.elim
 | [s], [v], _, h => let ⟨p, hp, hf⟩ := getP_sound h; ⟨p, by rw [hp]; rfl, hf⟩
 | [_], [], _, h => h.elim
 | [_], _ :: _ :: _, _, h => h.elim
 | s :: t :: l, v :: vs, _, h => by
   obtain ⟨p, hp, h⟩ := getP_sound h
   obtain ⟨q, hq, h⟩ := getL_sound h
   exact ⟨(p, q), by rw [hp, hq]; rfl, h⟩
 | _ :: _ :: _, [], _, h => h.elim
def env0 (args : List Value) (m : Nat) : Env := ⟨args.map EV.val ++ List.replicate (m - args.length) EV.no, [], []⟩
def callD (P : Program) (u : FrameMode) (f : FuncId) (args : List Value) (k : Pr) : Pr := fun w =>
 CallsDIn (wf none) 0 P f args.toArray u w (fun e u' w' => (∃ v, e = .returned v) ∧ settle u' = .returning ∧ k w')
def dTarget : Deferred → Option (FuncId × List Value)
 | ⟨.fn (.func f) cap, args⟩ => some (f, args.toList ++ cap.toList)
 | _ => none
def dOne (P : Program) (u : FrameMode) (d : Deferred) (k : Pr) : Pr := opt (dTarget d) fun x => tf (callable P x.1) (callD P u x.1 x.2 k) fls
def dcalls (P : Program) : List Deferred → Pr → Pr
 | [], k => k
 | d :: l, k => dOne P .returning d (dcalls P l k)
def fin (P : Program) (fn : Func) (shs : List Sh) (Q : PayL shs → Pr) (e : Env) : Pr := takes e.ds (dcalls P e.bs (rets P fn.results.toList e fun vs => getL shs vs Q))
def compileFn (P : Program) (fn : Func) (an : An) (args : List Value) (shs : List Sh) (Q : PayL shs → Pr) : Pr :=
 opt fn.body fun c => cC P none false an c (env0 args fn.ntmps) ⟨fin P fn shs Q, fin P fn shs Q, [], false, []⟩
def nilDs {α : Type} (l : List α) (k : Pr) : Pr :=
 match l with
 | [] => k
 | _ :: _ => fls
theorem nilDs_sound {α : Type} {l : List α} {k : Pr} {w : World} (h : nilDs l k w) : l = [] ∧ k w := by
 cases l with
 | nil => exact ⟨rfl, h⟩
 | cons _ _ => exact h.elim
def fin0 (P : Program) (fn : Func) (shs : List Sh) (Q : PayL shs → Pr) (e : Env) : Pr := nilDs e.ds (nilDs e.bs (rets P fn.results.toList e fun vs => getL shs vs Q))
def compileS (P : Program) (fn : Func) (an : An) (args : List Value) (shs : List Sh) (Q : PayL shs → Pr) : Pr :=
 opt fn.body fun c => cC P none false an c (env0 args fn.ntmps) ⟨fin0 P fn shs Q, fin0 P fn shs Q, [], false, []⟩
theorem env0_get : ∀ (args : List Value) (k : Nat) (t : Nat) (v : Value), (Env.getL (args.map EV.val ++ List.replicate k EV.no) t).v? = some v → (args ++ List.replicate k undef)[t]? = some v
 | [], 0, t, v, h => by simp [Env.getL, EV.v?] at h
 | [], k + 1, 0, v, h => by simp [List.replicate_succ, Env.getL, EV.v?] at h
 | [], k + 1, t + 1, v, h => by
   have := env0_get [] k t v (by simpa [List.replicate_succ, Env.getL] using h)
   simpa [List.replicate_succ] using this
 | x :: args, k, 0, v, h => by
   simp only [List.map_cons, List.cons_append, Env.getL, EV.v?, Option.some.injEq] at h
   rw [h]
   rfl
 | x :: args, k, t + 1, v, h => env0_get args k t v h
theorem env0_ag (args : List Value) (m : Nat) : Ag (env0 args m) { tmps := args.toArray ++ Array.replicate (m - args.toArray.size) undef, defers := [] } := by
 have hE : args.toArray ++ Array.replicate (m - args.toArray.size) undef = (args ++ List.replicate (m - args.length) undef).toArray := by simp
 refine ⟨by simp [env0, Env.length], fun t v h => ?_, by simp [env0, marks]⟩
 simp only [hE]
 simpa using env0_get args (m - args.length) t v h
theorem rets_sound {e : Env} {a : Act} {w : World} (he : Ag e a) : ∀ {l : List ResultVar} {f : List Value → Pr} {Q : List Value → World → Prop}, rets P l e f w → (∀ vs, f vs w → Q vs w) →
   RT P (l.mapM fun
     | .tmp t => Pure.pure (a.tmps.getD t undef)
     | .cell x t => do Go.loadVar t (← asAddr (a.tmps.getD x undef))) w (fun vs w' => w' = w ∧ Q vs w)
 | [], _, _, h, hq => by simp only [List.mapM_nil]; exact .pure ⟨rfl, hq _ h⟩
 | .tmp t :: l, f, Q, h, hq => by
   have h1 := ndEv he (x := .tmp t) h
   simp only [List.mapM_cons]
   refine .bind (.pure (.bind ((rets_sound he h1 (Q := fun vs w => Q (a.tmps.getD t undef :: vs) w) (fun vs h => hq _ h)).mono ?_)))
   rintro vs w' ⟨rfl, h⟩
   exact .pure ⟨rfl, h⟩
 | .cell t ty :: l, f, Q, h, hq => by
   have h1 := ndEv he (x := .tmp t) h
   obtain ⟨ad, hv, h2⟩ := asPtr_sound h1
   simp only [List.mapM_cons]
   have hv' : a.tmps.getD t undef = .pointer (some ad) := hv
   rw [hv']
   have h3 : ldT P ty ad (fun v w' => rets P l e (fun vs => f (v :: vs)) w' ∧ w' = w) w := ldT_mono (fun v h => ⟨h, rfl⟩) h2
   refine .bind (.bind (.pure ((RT.loadVar' h3).mono ?_)))
   rintro v w1 ⟨h4, rfl⟩
   refine .bind ((rets_sound he h4 (Q := fun vs w => Q (v :: vs) w) (fun vs h => hq _ h)).mono ?_)
   rintro vs w' ⟨rfl, h⟩
   exact .pure ⟨rfl, h⟩
theorem dOne_sound {fn : Func} {tmps : Array Value} {R : Ending → World → Prop} {d : Deferred} {ds : List Deferred} {u : FrameMode} {k : Pr} {w : World} (hu : u ≠ .run) (hk : ∀ w, k w → LeavesInM (wf none) 0 P fn tmps R ds .returning w) (h : dOne P u d k w) :
   LeavesInM (wf none) 0 P fn tmps R (d :: ds) u w := by
 obtain ⟨⟨f, args⟩, hd, h⟩ := opt_sound h
 rcases tf_sound h with ⟨hc, h⟩ | ⟨_, h⟩
 · obtain ⟨cap, ass, rfl, rfl⟩ : ∃ cap ass, d = ⟨.fn (.func f) cap, ass⟩ ∧ args = ass.toList ++ cap.toList := by
     obtain ⟨t, ass⟩ := d
     unfold dTarget at hd
     split at hd
     · rename_i heq
       simp only [Deferred.mk.injEq] at heq
       obtain ⟨rfl, rfl⟩ := heq
       simp only [Option.some.injEq, Prod.mk.injEq] at hd
       obtain ⟨rfl, rfl⟩ := hd
       exact ⟨_, _, rfl, rfl⟩
     · cases hd
   have hA : (ass.toList ++ cap.toList).toArray = ass ++ cap := by simp
   unfold callD at h
   dsimp only at h
   rw [hA] at h
   refine ⟨hu, .inr ⟨fun h => by simp [wf, Fence.wide] at h, _, cap, f, ass ++ cap, rfl, ?_, fun _ _ => trivial, ?_⟩⟩
   · simp only [invoke]
     exact run_callFunc hc
   · refine h.mono ?_
     rintro e u' w' ⟨⟨v, rfl⟩, h1, h2⟩
     show LeavesInM (wf none) 0 P fn tmps R ds (settle u') w'
     rw [h1]
     exact hk _ h2
 · exact h.elim
theorem dcalls_sound {fn : Func} {tmps : Array Value} {R : Ending → World → Prop} {k : Pr} (hk : ∀ w, k w → LeavesInM (wf none) 0 P fn tmps R [] .returning w) : ∀ {ds : List Deferred} {w : World}, dcalls P ds k w → LeavesInM (wf none) 0 P fn tmps R ds .returning w
 | [], w, h => hk w h
 | _ :: _, _, h => dOne_sound (by simp) (fun _ h => dcalls_sound hk h) h
theorem takes_sound {fn : Func} {tmps : Array Value} {R : Ending → World → Prop} {bs : List Deferred} {k : Pr} (hk : ∀ w, k w → LeavesInM (wf none) 0 P fn tmps R bs .returning w) : ∀ {ds : List Nat} {w : World}, takes ds k w → LeavesInM (wf none) 0 P fn tmps R (marks ds ++ bs) .returning w
 | [], w, h => hk w h
 | D :: ds, w, h => ⟨by simp, .inl ⟨D, _, rfl, run_takeDeferred h.1, takes_sound hk h.2⟩⟩
theorem rets_leave {fn : Func} {e : Env} {a : Act} {w : World} {shs : List Sh} {Q : PayL shs → Pr} {R : Ending → World → Prop} (hR : ∀ e w, RetT shs Q e w → R e w) (he : Ag e a)
   (h : rets P fn.results.toList e (fun vs => getL shs vs Q) w) : LeavesInM (wf none) 0 P fn a.tmps R [] .returning w := by
 obtain ⟨vs, w', h1, hw, p, hvs, hp⟩ := rets_sound he h (Q := fun vs w => ∃ p, vs = valL shs p ∧ Q p w) (fun vs h => getL_sound h)
 rw [hw] at h1
 show ∃ v, (results fn a.tmps).run P w = .ok v w ∧ R (.returned v) w
 refine ⟨valR shs p, ?_, hR _ _ ⟨p, rfl, hp⟩⟩
 unfold results
 rw [Sem.run_bind, show fn.results = fn.results.toList.toArray by simp, List.mapM_toArray, Sem.run_map]
 erw [h1]
 simp only [Result.andThen_ok, Sem.run_pure, Result.ok.injEq, and_true]
 unfold valR
 rw [← hvs]
 match vs with
 | [] => rfl
 | [v] => rfl
 | v :: u :: vs => simp
theorem bodyPost_of {fn : Func} {e : Env} {a : Act} {w : World} {shs : List Sh} {Q : PayL shs → Pr} {R : Ending → World → Prop} (hR : ∀ e w, RetT shs Q e w → R e w) (he : Ag e a) (h : fin P fn shs Q e w) :
   LeavesInM (wf none) 0 P fn a.tmps R a.defers .returning w := by
 rw [he.defers]
 exact takes_sound (fun w h => dcalls_sound (fun w h => rets_leave hR he h) h) h
theorem callsIn_of_compile {f : FuncId} {fn : Func} {an : An} {args : List Value} {shs : List Sh} {Q : PayL shs → Pr} {w : World} (hf : P.funcs[f]? = some fn) (h : compileFn P fn an args shs Q w) :
   Calls P f args.toArray w (RetT shs Q) := by
 obtain ⟨c, hc, h⟩ := opt_sound h
 refine (callsIn_wide (n := 0)).1 ?_
 refine callsIn_of_wp_marks (F := wf none) hf hc trivial ?_
 let Q' : Exit → Act → World → Prop := fun ex a w => match ex with
   | .normal => bodyPostM (wf none) 0 P fn (RetT shs Q) .normal a w
   | .ret => bodyPostM (wf none) 0 P fn (RetT shs Q) .ret a w
   | _ => False
 refine wpIn_mono (cC_sound (dk := false) an none 0 none c Q' _ _ w _ (fun h => by cases h) (fun _ _ _ _ _ _ h => False.elim h) (env0_ag args fn.ntmps) h (fun _ => rfl) ?_ ?_ ?_ (fun _ _ _ _ _ _ h => h.elim) (fun _ _ _ _ _ _ _ h => h.elim)) ?_
 · exact fun e' a' w' he' _ h => bodyPost_of (fun _ _ h => h) he' h
 · exact fun e' a' w' he' h => bodyPost_of (fun _ _ h => h) he' h
 · exact fun i e' a' w' _ _ h => h.elim
 · intro ex a w h
   cases ex <;> first | exact h | exact h.elim
theorem deferred_of_compile {f : FuncId} {fn : Func} {an : An} {args : List Value} {shs : List Sh} {Q : PayL shs → Pr} {u : FrameMode} {w : World} (hf : P.funcs[f]? = some fn) (h : compileS P fn an args shs Q w) :
   CallsDIn (wf none) 0 P f args.toArray u w (fun e u' w' => u' = u ∧ RetT shs Q e w') := by
 obtain ⟨c, hc, h⟩ := opt_sound h
 refine callsDIn_of_wp hf hc trivial ?_
 let Q' : Exit → Act → World → Prop := fun ex a w => match ex with
   | .normal => a.defers = [] ∧ ∃ v, (results fn a.tmps).run P w = .ok v w ∧ RetT shs Q (.returned v) w
   | .ret => a.defers = [] ∧ ∃ v, (results fn a.tmps).run P w = .ok v w ∧ RetT shs Q (.returned v) w
   | _ => False
 have key : ∀ e' a' w', Ag e' a' → fin0 P fn shs Q e' w' → a'.defers = [] ∧ ∃ v, (results fn a'.tmps).run P w' = .ok v w' ∧ RetT shs Q (.returned v) w' := by
   intro e' a' w' he' h
   obtain ⟨h1, h⟩ := nilDs_sound h
   obtain ⟨h2, h⟩ := nilDs_sound h
   exact ⟨by rw [he'.defers, h1, h2]; rfl, rets_leave (fun _ _ h => h) he' h⟩
 refine wpIn_mono (cC_sound (dk := false) an none 0 none c Q' _ _ w _ (fun h => by cases h) (fun _ _ _ _ _ _ h => False.elim h) (env0_ag args fn.ntmps) h (fun _ => rfl) ?_ ?_ ?_ (fun _ _ _ _ _ _ h => h.elim) (fun _ _ _ _ _ _ _ h => h.elim)) ?_
 · exact fun e' a' w' he' _ h => key _ _ _ he' h
 · exact fun e' a' w' he' h => key _ _ _ he' h
 · exact fun i e' a' w' _ _ h => h.elim
 · intro ex a w h
   cases ex <;> first | exact h | exact h.elim
end
end Go.Eng

namespace Go.Eng
@[simp] theorem add_zero' (a : Addr) : a.add 0 = a := by simp [Addr.add]
@[simp] theorem add_block (a : Addr) (n : Nat) : (a.add n).block = a.block := by unfold Addr.add; split <;> rfl
@[simp] theorem add_add (a : Addr) (m n : Nat) : (a.add m).add n = a.add (m + n) := by
 unfold Addr.add
 by_cases hm : m = 0
 · subst hm; simp
 · by_cases hn : n = 0
   · subst hn; simp [hm]
   · simp [hm, hn, Nat.add_assoc]
@[simp] theorem add_mk (b o n : Nat) : (⟨b, o, none⟩ : Addr).add n = ⟨b, o + n, none⟩ := by
 unfold Addr.add
 by_cases hn : n = 0
 · subst hn; simp
 · simp [hn]
section
variable {w : World}
@[simp] theorem deref_some (a : Addr) (f : Addr → Pr) : deref (some a) f w = f a w := by simp [deref]
@[simp] theorem nw_def (o : Obj) (f : Nat → Pr) : nw o f w = f w.heap.size (w.alloc o) := rfl
@[simp] theorem br_def (b : Bool) (x y : Pr) : br b x y w = if b = true then x w else y w := rfl
@[simp] theorem owe_def (p : Prop) (f : Pr) : owe p f w = (p ∧ f w) := rfl
@[simp] theorem drw_def (f : Pr) : drw f w = f w.drew := rfl
@[simp] theorem both_def (x y : Pr) : both x y w = (x w ∧ y w) := rfl
@[simp] theorem tru_def : tru w = True := rfl
@[simp] theorem fls_def : fls w = False := rfl
theorem ldC_of {s : CS} {a : Addr} {p : PayC s} {f : PayC s → Pr} (h : w.cell? a = some (valC s p)) (hf : f p w) : ldC s a f w := ⟨p, h, hf⟩
theorem ldA_of {l : List CS} {a : Addr} {p : PayA l} {f : PayA l → Pr} (h : readsAt w a 0 (valA l p)) (hf : f p w) : ldA l a f w := ⟨p, h, hf⟩
theorem st_of {a : Addr} {v u : Value} {f : Pr} (hv : NotAgg v) (h : w.cell? a = some u) (hz : w.frozen? a = false) (hf : f (w.setCell a v)) : st a v f w := ⟨hv, by rw [h]; rfl, hz, hf⟩
theorem br_of {b : Bool} {x y : Pr} (h1 : b = true → x w) (h2 : b = false → y w) : br b x y w := by
 cases b with
 | true => simpa using h1 rfl
 | false => simpa using h2 rfl
theorem br_t {b : Bool} {x y : Pr} (hb : b = true) (h : x w) : br b x y w := by rw [br_def, if_pos hb]; exact h
theorem br_f {b : Bool} {x y : Pr} (hb : b = false) (h : y w) : br b x y w := by rw [br_def, if_neg (by simp [hb])]; exact h
theorem jn_of {S : Type} {f : (S → Pr) → Pr} {k : S → Pr} (R : S → Pr) (h : f R w) (hk : ∀ s w', R s w' → k s w') : jn f k w := ⟨R, h, hk⟩
theorem loop_of {S : Type} {G : (S → Pr) → S → Pr} {s : S} (I : S → Pr) (μ : S → World → Nat) (h0 : I s w) (h : ∀ s w, I s w → G (fun s' w' => I s' w' ∧ μ s' w' < μ s w) s w) : loopE G s w := ⟨I, μ, h0, h⟩
theorem callF_of {P : Program} {f : FuncId} {args : List Value} {shs : List Sh} {k : PayL shs → Pr} {post : PayL shs → Pr} (h : Calls P f args.toArray w (RetT shs post)) (hk : ∀ r w', post r w' → k r w') : callF P f args shs k w :=
 h.mono fun _ _ ⟨p, he, hp⟩ => ⟨p, he, hk _ _ hp⟩
end
@[simp] theorem valC_int (k : IntKind) (n : Int) : valC (.int k) n = .int k n := rfl
@[simp] theorem valC_bool (b : Bool) : valC .bool b = .bool b := rfl
@[simp] theorem valC_ptr (p : Option Addr) : valC .ptr p = .pointer p := rfl
@[simp] theorem valC_slice (s : Sl) : valC .slice s = .slice s.a s.len s.cap := rfl
@[simp] theorem valC_map (r : Option Nat) : valC .map r = .map r := rfl
@[simp] theorem valC_any (v : Value) : valC .any v = v := rfl
@[simp] theorem valC_str (v : ByteArray) : valC .str v = .string v := rfl
@[simp] theorem NotAgg_int (k : IntKind) (n : Int) : NotAgg (.int k n) = True := rfl
@[simp] theorem NotAgg_bool (b : Bool) : NotAgg (.bool b) = True := rfl
@[simp] theorem NotAgg_ptr (p : Option Addr) : NotAgg (.pointer p) = True := rfl
@[simp] theorem NotAgg_slice (a : Option Addr) (l c : Nat) : NotAgg (.slice a l c) = True := rfl
@[simp] theorem NotAgg_map (r : Option Nat) : NotAgg (.map r) = True := rfl
@[simp] theorem NotAgg_func (f : Fn) (x y : Array Value) : NotAgg (.func f x y) = True := rfl
structure Mod (S : Nat → Prop) (w w' : World) : Prop where
 size : w.heap.size ≤ w'.heap.size
 same : ∀ b, b < w.heap.size → ¬ S b → w'.heap[b]? = w.heap[b]?
 rest : w'.os = w.os ∧ w'.tape = w.tape ∧ w'.output = w.output
abbrev Grow : World → World → Prop := Mod fun _ => False
section
variable {S T : Nat → Prop} {w w1 w2 : World}
theorem Mod.refl (S : Nat → Prop) (w : World) : Mod S w w := ⟨Nat.le_refl _, fun _ _ _ => rfl, rfl, rfl, rfl⟩
theorem Mod.trans (h : Mod S w w1) (h' : Mod T w1 w2) (hT : ∀ b, b < w.heap.size → T b → S b) : Mod S w w2 :=
 ⟨Nat.le_trans h.size h'.size, fun b hb hs => (h'.same b (Nat.lt_of_lt_of_le hb h.size) fun ht => hs (hT b hb ht)).trans (h.same b hb hs), h'.rest.1.trans h.rest.1, h'.rest.2.1.trans h.rest.2.1, h'.rest.2.2.trans h.rest.2.2⟩
theorem Mod.mono (h : Mod S w w1) (hT : ∀ b, b < w.heap.size → S b → T b) : Mod T w w1 := ⟨h.size, fun b hb hs => h.same b hb fun ht => hs (hT b hb ht), h.rest⟩
theorem Grow.trans (h : Grow w w1) (h' : Grow w1 w2) : Grow w w2 := Mod.trans h h' fun _ _ h => h
theorem Grow.mod (h : Grow w w1) : Mod S w w1 := h.mono fun _ _ h => h.elim
theorem Mod.alloc (h : Mod S w w1) (o : Obj) : Mod S w (w1.alloc o) :=
 ⟨by have := h.size; simp; omega, fun b hb hs => by
   rw [← h.same b hb hs]
   have : b < w1.heap.size := Nat.lt_of_lt_of_le hb h.size
   show (w1.heap.push o)[b]? = w1.heap[b]?
   rw [Array.getElem?_push, if_neg (Nat.ne_of_lt this)], h.rest⟩
theorem Mod.drew (h : Mod S w w1) : Mod S w w1.drew := ⟨h.size, h.same, h.rest⟩
theorem heap_setCell_ne (w : World) {a : Addr} {v : Value} {b : Nat} (hb : a.block ≠ b) : (w.setCell a v).heap[b]? = w.heap[b]? := by
 simp [World.setCell, Array.getElem?_modify, hb]
theorem Mod.setCell (h : Mod S w w1) {a : Addr} {v : Value} (ha : S a.block ∨ w.heap.size ≤ a.block) : Mod S w (w1.setCell a v) :=
 ⟨by have := h.size; simpa using this, fun b hb hs => by
   rw [← h.same b hb hs]
   refine heap_setCell_ne w1 ?_
   rintro rfl
   rcases ha with ha | ha
   · exact hs ha
   · omega, h.rest⟩
theorem Mod.putObj (h : Mod S w w1) {b : Nat} {o : Obj} (ha : S b ∨ w.heap.size ≤ b) : Mod S w { w1 with heap := w1.heap.setIfInBounds b o } :=
 ⟨by have := h.size; simpa using this, fun c hc hs => by
   rw [← h.same c hc hs]
   have hne : b ≠ c := by
     rintro rfl
     rcases ha with ha | ha
     · exact hs ha
     · omega
   simp [Array.getElem?_setIfInBounds_ne hne], h.rest⟩
theorem cell_of_heap {w w' : World} {a : Addr} (h : w'.heap[a.block]? = w.heap[a.block]?) : w'.cell? a = w.cell? a := by
 simp only [World.cell?, h]
theorem frozen_of_heap {w w' : World} {a : Addr} (h : w'.heap[a.block]? = w.heap[a.block]?) : w'.frozen? a = w.frozen? a := by
 simp only [World.frozen?, h]
end
theorem readsAt_iff {w : World} {a : Addr} : ∀ {vs : List Value} {i : Nat}, readsAt w a i vs ↔ ∀ j v, vs[j]? = some v → w.cell? (a.add (i + j)) = some v
 | [], i => by simp [readsAt]
 | x :: vs, i => by
   simp only [readsAt, readsAt_iff (vs := vs)]
   constructor
   · rintro ⟨h1, h2⟩ j v hj
     cases j with
     | zero => simp only [List.getElem?_cons_zero, Option.some.injEq] at hj; subst hj; exact h1
     | succ j => have := h2 j v (by simpa using hj); rwa [show i + 1 + j = i + (j + 1) by omega] at this
   · intro h
     refine ⟨by simpa using h 0 x rfl, fun j v hj => ?_⟩
     have := h (j + 1) v (by simpa using hj)
     rwa [show i + (j + 1) = i + 1 + j by omega] at this
def Row (w : World) (a : Addr) (vs : List Value) : Prop := ∀ j v, vs[j]? = some v → w.cell? (a.add j) = some v
theorem readsAt_row {w : World} {a : Addr} {vs : List Value} : readsAt w a 0 vs ↔ Row w a vs := by
 rw [readsAt_iff]; simp [Row]
theorem Row.get {w : World} {a : Addr} {vs : List Value} (h : Row w a vs) {j : Nat} {v : Value} (hj : vs[j]? = some v) : w.cell? (a.add j) = some v := h j v hj
theorem Row.nil (w : World) (a : Addr) : Row w a [] := fun j v h => by simp at h
theorem Row.append {w : World} {a : Addr} {vs us : List Value} : Row w a (vs ++ us) ↔ Row w a vs ∧ Row w (a.add vs.length) us := by
 constructor
 · intro h
   refine ⟨fun j v hj => h j v ?_, fun j v hj => ?_⟩
   · have hlt : j < vs.length := by
       rcases Nat.lt_or_ge j vs.length with h' | h'
       · exact h'
       · rw [List.getElem?_eq_none h'] at hj; cases hj
     rw [List.getElem?_append_left hlt]; exact hj
   · rw [add_add]
     refine h _ v ?_
     rw [List.getElem?_append_right (by omega)]
     simpa using hj
 · rintro ⟨h1, h2⟩ j v hj
   rcases Nat.lt_or_ge j vs.length with h' | h'
   · exact h1 j v (by rwa [List.getElem?_append_left h'] at hj)
   · rw [List.getElem?_append_right h'] at hj
     have := h2 _ v hj
     rwa [add_add, show vs.length + (j - vs.length) = j by omega] at this
theorem Row.take {w : World} {a : Addr} {vs : List Value} (h : Row w a vs) (n : Nat) : Row w a (vs.take n) := fun j v hj => by
 rw [List.getElem?_take] at hj
 split at hj
 · exact h j v hj
 · cases hj
theorem Row.drop {w : World} {a : Addr} {vs : List Value} (h : Row w a vs) (n : Nat) : Row w (a.add n) (vs.drop n) := fun j v hj => by
 rw [add_add]
 exact h _ v (by rwa [List.getElem?_drop] at hj)
theorem Row.of_heap {w w' : World} {a : Addr} {vs : List Value} (h : Row w a vs) (he : w'.heap[a.block]? = w.heap[a.block]?) : Row w' a vs := fun j v hj => by
 rw [cell_of_heap (w := w) (by simpa using he)]; exact h j v hj
theorem Row.block_lt {w : World} {a : Addr} {vs : List Value} (h : Row w a vs) (hne : vs ≠ []) : a.block < w.heap.size := by
 cases vs with
 | nil => exact absurd rfl hne
 | cons v vs => have := World.block_lt_of_cell? w _ (h 0 v rfl); simpa using this
theorem Row.mod {S : Nat → Prop} {w w' : World} {a : Addr} {vs : List Value} (h : Row w a vs) (hm : Mod S w w') (hs : ¬ S a.block) : Row w' a vs := by
 by_cases hv : vs = []
 · subst hv; exact Row.nil _ _
 · exact h.of_heap (hm.same _ (h.block_lt hv) hs)
theorem RowO.some {w : World} {a : Addr} {vs : List Value} : readsO w (some a) vs ↔ Row w a vs := readsAt_row
theorem exS {p : Sl → Prop} {a : Option Addr} {l c : Nat} : (∃ s : Sl, (a = s.a ∧ l = s.len ∧ c = s.cap) ∧ p s) ↔ p ⟨a, l, c⟩ := by
 constructor
 · rintro ⟨⟨a', l', c'⟩, ⟨rfl, rfl, rfl⟩, h⟩; exact h
 · intro h; exact ⟨⟨a, l, c⟩, ⟨rfl, rfl, rfl⟩, h⟩
@[simp] theorem Sl.eta (s : Sl) : (⟨s.a, s.len, s.cap⟩ : Sl) = s := rfl
@[simp] theorem setCell_new (w : World) (c : Array Value) (t : TypeId) (i : Nat) (v : Value) : (w.alloc (.cells c t)).setCell ⟨w.heap.size, i, none⟩ v = w.alloc (.cells (c.setIfInBounds i v) t) :=
 World.setCell_alloc_new (w := w) c t i v
@[simp] theorem heap_alloc_new (w : World) (o : Obj) : (w.alloc o).heap[w.heap.size]? = some o := by
 show (w.heap.push o)[w.heap.size]? = some o
 simp
theorem heap_alloc_lt {w : World} {o : Obj} {b : Nat} (h : b < w.heap.size) : (w.alloc o).heap[b]? = w.heap[b]? := by
 show (w.heap.push o)[b]? = w.heap[b]?
 rw [Array.getElem?_push, if_neg (Nat.ne_of_lt h)]
@[simp] theorem heap_drew (w : World) : w.drew.heap = w.heap := rfl
theorem wrap_i64 {n : Int} (h : -9223372036854775808 ≤ n ∧ n ≤ 9223372036854775807) : IntKind.wrap .i64 n = n := by
 simp only [IntKind.wrap, IntKind.signed, IntKind.bits]
 simp
 omega
theorem wrap_u8 {n : Int} (h : 0 ≤ n ∧ n ≤ 255) : IntKind.wrap .u8 n = n := by
 simp only [IntKind.wrap, IntKind.signed, IntKind.bits]
 simp
 omega
end Go.Eng

namespace Go.Eng
def ub (b : UInt8) : Value := .int .u8 (b.toNat : Int)
structure BS (w : World) (s : Sl) (l : List UInt8) : Prop where
 len : s.len = l.length
 row : readsO w s.a (l.map ub)
section
variable {w w' w1 : World} {s x : Sl} {l : List UInt8}
theorem readsO.row {ad : Addr} {vs : List Value} (h : readsO w (some ad) vs) : Row w ad vs := readsAt_row.1 h
theorem readsO.mod {S : Nat → Prop} {a : Option Addr} {vs : List Value} (h : readsO w a vs) (hm : Mod S w w') (hs : ∀ ad, a = some ad → vs ≠ [] → ¬ S ad.block) : readsO w' a vs := by
 cases a with
 | none => exact h
 | some ad =>
   by_cases hv : vs = []
   · subst hv; exact readsAt_row.2 (Row.nil _ _)
   · exact readsAt_row.2 ((readsAt_row.1 h).mod hm (hs ad rfl hv))
theorem readsO.grow {a : Option Addr} {vs : List Value} (h : readsO w a vs) (hm : Grow w w') : readsO w' a vs := h.mod hm fun _ _ _ h => h
theorem readsO.lt {ad : Addr} {vs : List Value} (h : readsO w (some ad) vs) (hv : vs ≠ []) : ad.block < w.heap.size := (readsAt_row.1 h).block_lt hv
theorem BS.grow (h : BS w s l) (hm : Grow w w') : BS w' s l := ⟨h.len, h.row.grow hm⟩
theorem BS.mod {S : Nat → Prop} (h : BS w s l) (hm : Mod S w w') (hs : ∀ ad, s.a = some ad → l ≠ [] → ¬ S ad.block) : BS w' s l :=
 ⟨h.len, h.row.mod hm fun ad ha hv => hs ad ha (by simpa using hv)⟩
theorem BS.nil (w : World) (c : Nat) : BS w ⟨none, 0, c⟩ [] := ⟨rfl, rfl⟩
theorem BS.get (h : BS w s l) {j : Nat} {b : UInt8} (hj : l[j]? = some b) : ∃ ad, s.a = some ad ∧ w.cell? (ad.add j) = some (ub b) := by
 obtain ⟨h1, h2⟩ := h
 cases ha : s.a with
 | none =>
   rw [ha] at h2
   have : l.map ub = [] := h2
   simp at this
   subst this
   simp at hj
 | some ad =>
   rw [ha] at h2
   exact ⟨ad, rfl, (readsAt_row.1 h2).get (by simp [hj])⟩
def Unf (w : World) (b : Nat) : Prop := ∀ o v, w.cell? ⟨b, o, none⟩ = some v → w.frozen? ⟨b, o, none⟩ = false
theorem cell_set_some {w : World} {a c : Addr} {v u : Value} (h : (w.setCell c v).cell? a = some u) : ∃ u', w.cell? a = some u' := by
 by_cases hac : c = a
 · subst hac
   cases hc : w.cell? c with
   | some u' => exact ⟨u', rfl⟩
   | none =>
     exfalso
     simp only [World.cell?, World.setCell, Array.getElem?_modify] at h hc
     cases hb : w.heap[c.block]? with
     | none => simp [hb] at h
     | some o =>
       cases o <;> simp [hb] at h hc
       rename_i cs el fz
       obtain ⟨b, o, sp⟩ := c
       cases sp <;> simp_all [Array.getElem?_setIfInBounds]
 · rw [World.cell?_setCell_other _ _ _ _ hac] at h
   exact ⟨u, h⟩
theorem Unf.add {b : Nat} (h : Unf w b) {a : Addr} (ha : a.block = b) (hs : a.spot = none) {n : Nat} {v : Value} (hv : w.cell? (a.add n) = some v) : w.frozen? (a.add n) = false := by
 obtain ⟨b', o, sp⟩ := a
 dsimp only at ha hs
 subst ha hs
 rw [add_mk] at hv ⊢
 exact h _ _ hv
theorem Unf.setCell {b : Nat} (h : Unf w b) {c : Addr} {v : Value} : Unf (w.setCell c v) b := fun o u hu => by
 obtain ⟨u', hu'⟩ := cell_set_some hu
 rw [World.frozen?_setCell]
 exact h o u' hu'
theorem add_inj {a : Addr} (hs : a.spot = none) {i j : Nat} (h : a.add i = a.add j) : i = j := by
 obtain ⟨b, o, sp⟩ := a
 dsimp only at hs
 subst hs
 rw [add_mk, add_mk] at h
 simp at h
 exact h
theorem Row.set {a : Addr} {vs : List Value} (h : Row w a vs) (hs : a.spot = none) {i : Nat} {v : Value} : Row (w.setCell (a.add i) v) a (vs.set i v) := fun j u hj => by
 rw [List.getElem?_set] at hj
 by_cases hij : i = j
 · subst hij
   simp only [if_true] at hj
   split at hj
   · rename_i hlt
     simp only [Option.some.injEq] at hj
     subst hj
     have h0 := h i vs[i] (by simp [hlt])
     exact World.cell?_setCell_same _ _ _ h0
   · cases hj
 · rw [if_neg hij] at hj
   rw [World.cell?_setCell_other]
   · exact h j u hj
   · exact fun he => hij (add_inj hs he)
theorem stL_shift {a : Addr} {m : Nat} {k : Pr} : ∀ {l : List Value} {i : Nat}, stL (a.add m) i l k = stL a (m + i) l k
 | [], _ => rfl
 | v :: l, i => by simp only [stL, add_add, stL_shift (l := l), Nat.add_assoc]
theorem stL_of {a : Addr} {k : Pr} (hs : a.spot = none) : ∀ {new : List Value} {i : Nat} {vs : List Value} {w : World}, Row w a vs → i + new.length ≤ vs.length → (∀ v ∈ new, NotAgg v) → Unf w a.block →
   (∀ w', Row w' a (vs.take i ++ new ++ vs.drop (i + new.length)) → Mod (· = a.block) w w' → w'.heap.size = w.heap.size → (∀ b, Unf w b → Unf w' b) → k w') → stL a i new k w
 | [], i, vs, w, hr, hl, hn, hu, hk => hk w (by simpa using hr) (Mod.refl _ _) rfl (fun _ h => h)
 | v :: new, i, vs, w, hr, hl, hn, hu, hk => by
   simp only [List.length_cons] at hl
   have hlt : i < vs.length := by omega
   refine st_of (u := vs[i]) (hn v (by simp)) (hr i _ (by simp [hlt])) (hu.add rfl hs (hr i vs[i] (by simp [hlt]))) ?_
   refine stL_of hs (vs := vs.set i v) (hr.set hs) (by simp; omega) (fun u hu => hn u (by simp [hu])) hu.setCell ?_
   intro w' h1 h2 h3 h4
   refine hk w' ?_ (((Mod.refl _ w).setCell (.inl (by simp))).trans h2 fun _ _ h => h) (by simpa using h3) (fun b hb => h4 b hb.setCell)
   have e1 : (vs.set i v).take (i + 1) = vs.take i ++ [v] := by
     rw [List.take_add_one]
     simp [List.take_set_of_le, hlt]
   have e2 : (vs.set i v).drop (i + 1 + new.length) = vs.drop (i + (new.length + 1)) := by
     rw [List.drop_set_of_lt (by omega)]
     congr 1; omega
   rw [e1, e2] at h1
   simpa using h1
structure OwnS (w : World) (n0 n : Nat) (s : Sl) (vs : List Value) : Prop where
 len : vs.length = s.len * n
 le : s.len ≤ s.cap
 row : (s.a = none ∧ s.len = 0 ∧ s.cap = 0) ∨ ∃ b off spare, s.a = some ⟨b, off, none⟩ ∧ n0 ≤ b ∧ b < w.heap.size ∧ Unf w b ∧ Row w ⟨b, off, none⟩ (vs ++ spare) ∧ (vs ++ spare).length = s.cap * n
theorem OwnS.nil (w : World) (n0 n : Nat) : OwnS w n0 n ⟨none, 0, 0⟩ [] := ⟨by simp, by simp, .inl ⟨rfl, rfl, rfl⟩⟩
theorem OwnS.reads {n0 n : Nat} {vs : List Value} (h : OwnS w n0 n s vs) : readsO w s.a vs := by
 rcases h.row with ⟨h1, h2, h3⟩ | ⟨b, off, spare, h1, _, _, _, h2, _⟩
 · rw [h1]
   have := h.len
   rw [h2] at this
   simp at this
   exact this
 · rw [h1]; exact readsAt_row.2 (Row.append.1 h2).1
theorem Unf.of_heap {b : Nat} (h : Unf w b) (he : w'.heap[b]? = w.heap[b]?) : Unf w' b := fun o v hv => by
 rw [frozen_of_heap (w := w) he]
 refine h o v ?_
 have : (⟨b, o, none⟩ : Addr).block = b := rfl
 simp only [World.cell?, this, he] at hv ⊢
 exact hv
theorem OwnS.mod {S : Nat → Prop} {n0 n : Nat} {vs : List Value} (h : OwnS w n0 n s vs) (hm : Mod S w w') (hs : ∀ ad, s.a = some ad → ¬ S ad.block) : OwnS w' n0 n s vs := by
 refine ⟨h.len, h.le, ?_⟩
 rcases h.row with h1 | ⟨b, off, spare, h1, h2, h3, h4, h5, h6⟩
 · exact .inl h1
 · have hsb : ¬ S b := hs _ h1
   exact .inr ⟨b, off, spare, h1, h2, Nat.lt_of_lt_of_le h3 hm.size, h4.of_heap (hm.same b h3 hsb), h5.of_heap (hm.same b h3 hsb), h6⟩
theorem OwnS.grow {n0 n : Nat} {vs : List Value} (h : OwnS w n0 n s vs) (hm : Grow w w') : OwnS w' n0 n s vs := h.mod hm fun _ _ h => h
theorem OwnS.le_block {n0 n : Nat} {vs : List Value} (h : OwnS w n0 n s vs) {ad : Addr} (ha : s.a = some ad) : n0 ≤ ad.block ∧ ad.block < w.heap.size ∧ ad.spot = none ∧ Unf w ad.block := by
 rcases h.row with ⟨h1, _⟩ | ⟨b, off, spare, h1, h2, h3, h4, _⟩
 · rw [h1] at ha; cases ha
 · rw [h1] at ha; simp only [Option.some.injEq] at ha; subst ha; exact ⟨h2, h3, rfl, h4⟩
theorem OwnS.weaken {n0 n1 n : Nat} {vs : List Value} (h : OwnS w n0 n s vs) (hn : n1 ≤ n0) : OwnS w n1 n s vs := by
 refine ⟨h.len, h.le, ?_⟩
 rcases h.row with h1 | ⟨b, off, spare, h1, h2, rest⟩
 · exact .inl h1
 · exact .inr ⟨b, off, spare, h1, Nat.le_trans hn h2, rest⟩
def Sl.blk (s : Sl) (b : Nat) : Prop := ∃ ad, s.a = some ad ∧ ad.block = b
theorem growBy_le (n : Nat) : ∀ (r c m : Nat), c ≤ m → n ≤ m → Builtin.growBy n r c ≤ m + (m + 768) / 4
 | 0, c, m, hc, _ => by simp only [Builtin.growBy]; omega
 | r + 1, c, m, hc, hn => by
   simp only [Builtin.growBy]
   split
   · omega
   · rename_i hlt
     by_cases h2 : c + (c + 768) / 4 ≤ m
     · exact growBy_le n r _ m h2 hn
     ·
       cases r with
       | zero => simp only [Builtin.growBy]; omega
       | succ r =>
         simp only [Builtin.growBy]
         rw [if_pos (by omega)]
         omega
theorem nextslicecap_le {n c : Nat} (h : c < n) : Builtin.nextslicecap n c ≤ 2 * n + 192 := by
 unfold Builtin.nextslicecap
 split
 · omega
 · split
   · omega
   · have := growBy_le n 4 c n (by omega) (Nat.le_refl _)
     omega
theorem zc_length (z : List Value) (n : Nat) : (zc z n).length = n * z.length := by simp [zc]
theorem app_core {E n b n0 m : Nat} {z : List Value} {vs new : List Value} {k : Sl → Pr} (h : OwnS w n0 n s vs) (hn0 : n0 ≤ w.heap.size) (hnl : new.length = m * n)
   (hna : ∀ v ∈ new, NotAgg v) (hz : z.length = n) (hb : b ≠ 0) (hbd : (2 * (s.len + m) + 192) * b ≤ 2 ^ 48)
   (hk : ∀ r w', OwnS w' n0 n r (vs ++ new) → r.len = s.len + m → (s.a.isSome = true ∨ 0 < m → r.a.isSome = true) → (s.a = none → m = 0 → r.a = none) → Mod s.blk w w' → (∀ b, r.blk b → s.blk b ∨ w.heap.size ≤ b) → k r w') : (s.len + m ≤ s.cap → stO s.a (s.len * n) new (k ⟨s.a, s.len + m, s.cap⟩) w) ∧
   (s.cap < s.len + m → ∃ old : List Value, (s.a.isSome = true → old.length = s.len * n) ∧ readsO w s.a old ∧ (b ≠ 0) ∧
     (Builtin.nextslicecap (s.len + m) s.cap * b ≤ 2 ^ 48) ∧ (s.len + m < 2 ^ 63) ∧
     ∀ cap, s.len + m ≤ cap → cap < 2 ^ 63 →
       k ⟨some ⟨w.heap.size, 0, none⟩, s.len + m, cap⟩ (w.drew.alloc (.cells (old ++ new ++ zc z (cap - (s.len + m))).toArray E))) := by
 refine ⟨?_, ?_⟩
 · intro hroom
   rcases h.row with ⟨h1, h2, h3⟩ | ⟨bb, off, spare, h1, h2, h3, h4, h5, h6⟩
   · rw [h1]
     have hx00 : m = 0 := by omega
     have hnew : new = [] := by
       apply List.eq_nil_of_length_eq_zero
       rw [hnl, hx00]; simp
     refine hk _ _ ?_ rfl ?_ ?_ (Mod.refl _ _) ?_
     · rw [hnew, List.append_nil]
       exact ⟨by simp [h.len, hx00], by simp; omega, .inl ⟨by simp, by simp; omega, h3⟩⟩
     · rintro (h | h)
       · simp [h1] at h
       · omega
     · intro _ _; rfl
     · rintro b ⟨ad, hh, _⟩; cases hh
   · rw [h1]
     have hlen := h.len
     have hspl : (vs ++ spare).length = vs.length + spare.length := List.length_append
     have hle : s.len * n + new.length ≤ (vs ++ spare).length := by
       rw [hnl, h6, ← Nat.add_mul]
       exact Nat.mul_le_mul_right n hroom
     show stL _ 0 new _ w
     rw [stL_shift, Nat.add_zero, ← hlen]
     refine stL_of rfl h5 (by rw [hlen]; exact hle) hna h4 ?_
     intro w' g1 g2 g3 g4
     have e1 : (vs ++ spare).take vs.length = vs := by simp
     have e2 : (vs ++ spare).drop (vs.length + new.length) = spare.drop new.length := by
       rw [List.drop_append, List.drop_eq_nil_of_le (by omega), List.nil_append]
       congr 1; omega
     rw [e1, e2] at g1
     refine hk _ _ ⟨?_, hroom, .inr ⟨bb, off, spare.drop new.length, rfl, h2, by rw [g3]; exact h3, g4 _ h4, g1, ?_⟩⟩ rfl ?_ ?_ ?_ ?_
     · rw [List.length_append, hlen, hnl, Nat.add_mul]
     · simp only [List.length_append, List.length_drop] at *
       omega
     · intro _; rfl
     · intro h; rw [h1] at h; cases h
     · exact g2.mono fun c _ hc => ⟨_, h1, hc.symm⟩
     · rintro c ⟨ad, hh, hc⟩
       simp only [Option.some.injEq] at hh
       exact .inl ⟨_, h1, by rw [← hc, ← hh]⟩
 · intro hgrow
   have hold := h.reads
   refine ⟨vs, fun _ => h.len, hold, hb, ?_, ?_, ?_⟩
   · exact Nat.le_trans (Nat.mul_le_mul_right b (nextslicecap_le hgrow)) hbd
   · have : (2 * (s.len + m) + 192) * 1 ≤ (2 * (s.len + m) + 192) * b := Nat.mul_le_mul_left _ (by omega)
     omega
   · intro cap hc1 hc2
     have hl : (vs ++ new ++ zc z (cap - (s.len + m))).length = cap * n := by
       simp only [List.length_append, zc_length, h.len, hnl, hz]
       rw [← Nat.add_mul, ← Nat.add_mul]
       congr 1; omega
     refine hk _ _ ⟨?_, hc1, .inr ⟨w.heap.size, 0, zc z (cap - (s.len + m)), rfl, hn0, ?_, ?_, ?_, hl⟩⟩ rfl (fun _ => rfl) ?_ ((Mod.refl _ w).drew.alloc _) ?_
     · simp only [List.length_append, h.len, hnl, Nat.add_mul]
     · simp
     · intro o _ _
       exact World.frozen?_alloc_new w.drew _ E o
     · intro j v hj
       rw [add_mk, Nat.zero_add]
       have := World.cell?_alloc_new w.drew (vs ++ new ++ zc z (cap - (s.len + m))).toArray E j
       rw [World.size_drew] at this
       rw [this]
       simpa using hj
     · intro hsa hx0'
       exfalso
       rcases h.row with ⟨_, g2, g3⟩ | ⟨bb, _, _, g1, _⟩
       · omega
       · rw [g1] at hsa; cases hsa
     · rintro c ⟨ad, hh, hc⟩
       simp only [Option.some.injEq] at hh
       refine .inr ?_
       rw [← hc, ← hh]
       exact Nat.le_refl _
theorem app_own2 {E n b n0 : Nat} {z : List Value} {vs new : List Value} {k : Sl → Pr} (h : OwnS w n0 n s vs) (hn0 : n0 ≤ w.heap.size) (hxl : x.a.isSome = true → new.length = x.len * n) (hx0 : x.a = none → x.len = 0) (hx : readsO w x.a new)
   (hna : ∀ v ∈ new, NotAgg v) (hz : z.length = n) (hb : b ≠ 0) (hbd : (2 * (s.len + x.len) + 192) * b ≤ 2 ^ 48)
   (hk : ∀ r w', OwnS w' n0 n r (vs ++ new) → r.len = s.len + x.len → (s.a.isSome = true ∨ 0 < x.len → r.a.isSome = true) → (s.a = none → x.len = 0 → r.a = none) → Mod s.blk w w' → (∀ b, r.blk b → s.blk b ∨ w.heap.size ≤ b) → k r w') : app E n b z s x k w := by
 have hnl : new.length = x.len * n := by
   cases hxa : x.a with
   | some _ => exact hxl (by simp [hxa])
   | none =>
     rw [hxa] at hx
     have : new = [] := hx
     rw [this, hx0 hxa]; simp
 exact ⟨new, fun _ => hnl, hx, app_core h hn0 hnl hna hz hb hbd hk⟩
theorem app_own {E n b n0 : Nat} {z : List Value} {vs new : List Value} {k : Sl → Pr} (h : OwnS w n0 n s vs) (hn0 : n0 ≤ w.heap.size) (hxl : x.a.isSome = true → new.length = x.len * n) (hx0 : x.a = none → x.len = 0) (hx : readsO w x.a new)
   (hna : ∀ v ∈ new, NotAgg v) (hz : z.length = n) (hb : b ≠ 0) (hbd : (2 * (s.len + x.len) + 192) * b ≤ 2 ^ 48)
   (hk : ∀ r w', OwnS w' n0 n r (vs ++ new) → r.len = s.len + x.len → (s.a.isSome = true ∨ 0 < x.len → r.a.isSome = true) → (s.a = none → x.len = 0 → r.a = none) → Mod s.blk w w' → k r w') : app E n b z s x k w :=
 app_own2 h hn0 hxl hx0 hx hna hz hb hbd fun r w' h1 h2 h3 h4 h5 _ => hk r w' h1 h2 h3 h4 h5
end
end Go.Eng

namespace Go.Eng
theorem flatMap_row {α : Type} {f : α → List Value} {n : Nat} (hf : ∀ r, (f r).length = n) : ∀ {rs : List α} {w : World} {a : Addr}, Row w a (rs.flatMap f) ↔ ∀ i r, rs[i]? = some r → Row w (a.add (i * n)) (f r)
 | [], w, a => by simp [Row.nil]
 | x :: rs, w, a => by
   rw [List.flatMap_cons, Row.append, flatMap_row hf (rs := rs), hf]
   constructor
   · rintro ⟨h1, h2⟩ i r hi
     cases i with
     | zero => simp only [List.getElem?_cons_zero, Option.some.injEq] at hi; subst hi; simpa using h1
     | succ i =>
       have := h2 i r (by simpa using hi)
       rwa [add_add, show n + i * n = (i + 1) * n by rw [Nat.add_mul]; omega] at this
   · intro h
     refine ⟨by simpa using h 0 x rfl, fun i r hi => ?_⟩
     have := h (i + 1) r (by simpa using hi)
     rwa [show (i + 1) * n = n + i * n by rw [Nat.add_mul]; omega, ← add_add] at this
theorem flatMap_len {α : Type} {f : α → List Value} {n : Nat} (hf : ∀ r, (f r).length = n) (rs : List α) : (rs.flatMap f).length = rs.length * n := by
 induction rs with
 | nil => simp
 | cons x rs ih => rw [List.flatMap_cons, List.length_append, ih, hf, List.length_cons, Nat.add_mul]; omega
structure SS {α : Type} (f : α → List Value) (w : World) (s : Sl) (rs : List α) : Prop where
 len : s.len = rs.length
 row : readsO w s.a (rs.flatMap f)
section
variable {α : Type} {f : α → List Value} {n : Nat} {w w' : World} {s : Sl} {rs : List α}
theorem SS.get (hf : ∀ r, (f r).length = n) (h : SS f w s rs) {i : Nat} {r : α} (hi : rs[i]? = some r) (hn : n ≠ 0) : ∃ ad, s.a = some ad ∧ Row w (ad.add (i * n)) (f r) := by
 obtain ⟨h1, h2⟩ := h
 cases ha : s.a with
 | none =>
   rw [ha] at h2
   have h3 : rs.flatMap f = [] := h2
   have h4 := flatMap_len hf rs
   rw [h3] at h4
   simp only [List.length_nil] at h4
   have : rs.length = 0 := (Nat.mul_eq_zero.1 h4.symm).resolve_right hn
   have : rs = [] := List.eq_nil_of_length_eq_zero this
   subst this
   simp at hi
 | some ad =>
   rw [ha] at h2
   exact ⟨ad, rfl, (flatMap_row hf).1 (readsAt_row.1 h2) i r hi⟩
theorem SS.grow (h : SS f w s rs) (hm : Grow w w') : SS f w' s rs := ⟨h.len, h.row.grow hm⟩
theorem SS.mod {S : Nat → Prop} (h : SS f w s rs) (hm : Mod S w w') (hs : ∀ ad, s.a = some ad → ¬ S ad.block) : SS f w' s rs := ⟨h.len, h.row.mod hm fun ad ha _ => hs ad ha⟩
theorem SS.nil (w : World) (c : Nat) : SS f w ⟨none, 0, c⟩ [] := ⟨rfl, rfl⟩
theorem SS.none_len (hf : ∀ r, (f r).length = n) (hn : n ≠ 0) (h : SS f w s rs) (ha : s.a = none) : s.len = 0 := by
 rw [h.len]
 have h2 := h.row
 rw [ha] at h2
 have h3 : rs.flatMap f = [] := h2
 have h4 := flatMap_len hf rs
 rw [h3] at h4
 simp only [List.length_nil] at h4
 exact (Nat.mul_eq_zero.1 h4.symm).resolve_right hn
end
theorem BS.none_len {w : World} {s : Sl} {l : List UInt8} (h : BS w s l) (ha : s.a = none) : s.len = 0 := by
 have h2 := h.row
 rw [ha] at h2
 have : l.map ub = [] := h2
 simp at this
 rw [h.len, this]; rfl
def bytesOf (l : List UInt8) : ByteArray := ⟨l.toArray⟩
@[simp] theorem bytesOf_toList (l : List UInt8) : (bytesOf l).toList = l := by
 rw [ByteArray.toList_eq]; rfl
theorem b2s_of {w : World} {s : Sl} {l : List UInt8} {k : ByteArray → Pr} (h : BS w s l) (hk : k (bytesOf l) w) : b2s s k w := by
 refine ⟨l.map fun b => (b.toNat : Int), fun _ => by simp [h.len], ?_, ?_⟩
 · rw [List.map_map]
   exact h.row
 · have : (l.map fun b => (b.toNat : Int)).map (fun n => UInt8.ofNat n.toNat) = l := by
     rw [List.map_map]
     conv => rhs; rw [← List.map_id l]
     apply List.map_congr_left
     intro b _
     simp
   rw [this]
   exact hk
theorem OwnS.bs {w : World} {n0 : Nat} {s : Sl} {l : List UInt8} (h : OwnS w n0 1 s (l.map ub)) : BS w s l :=
 ⟨by have := h.len; simp at this; exact this.symm, h.reads⟩
theorem OwnS.ss {α : Type} {f : α → List Value} {n : Nat} (hf : ∀ r, (f r).length = n) (hn : n ≠ 0) {w : World} {n0 : Nat} {s : Sl} {rs : List α} (h : OwnS w n0 n s (rs.flatMap f)) : SS f w s rs :=
 ⟨by have := h.len; rw [flatMap_len hf] at this; exact (Nat.eq_of_mul_eq_mul_right (Nat.pos_of_ne_zero hn) this).symm, h.reads⟩
theorem NotAgg_ub {l : List UInt8} : ∀ v ∈ l.map ub, NotAgg v := by
 intro v hv
 obtain ⟨b, _, rfl⟩ := List.mem_map.1 hv
 trivial
theorem OwnS.put {w : World} {n0 n : Nat} {s : Sl} {vs : List Value} (h : OwnS w n0 n s vs) {i : Nat} {v : Value} {k : Pr} (hi : i < vs.length) (hv : NotAgg v)
   (hk : ∀ w', OwnS w' n0 n s (vs.set i v) → Mod s.blk w w' → w'.heap.size = w.heap.size → k w') : ∃ ad, s.a = some ad ∧ st (ad.add i) v k w := by
 rcases h.row with ⟨_, h2, _⟩ | ⟨b, off, spare, h1, h2, h3, h4, h5, h6⟩
 · have := h.len; rw [h2] at this; simp at this; subst this; simp at hi
 · refine ⟨_, h1, st_of (u := vs[i]) hv ?_ (h4.add rfl rfl (h5 i vs[i] (by rw [List.getElem?_append_left hi]; simp [hi]))) ?_⟩
   · exact h5 i _ (by rw [List.getElem?_append_left hi]; simp [hi])
   · refine hk _ ⟨by simpa using h.len, h.le, .inr ⟨b, off, spare, h1, h2, by simpa using h3, h4.setCell, ?_, by simpa using h6⟩⟩ ?_ (by simp)
     · have := h5.set rfl (i := i) (v := v)
       rwa [List.set_append_left _ _ hi] at this
     · exact (Mod.refl _ w).setCell (.inl ⟨_, h1, by simp⟩)
theorem stO_nil {a : Option Addr} {off : Nat} {k : Pr} : stO a off [] k = k := by cases a <;> rfl
theorem cpy_own {w : World} {n0 n : Nat} {t s' src : Sl} {vs new : List Value} {k : Pr} {o : Nat} (h : OwnS w n0 n t vs) (ho : o ≤ t.len) (ha : s'.a = t.a.map (·.add (o * n)) ∨ s'.len = 0) (hl : s'.len = t.len - o)
   (hr : readsO w src.a new) (hn : src.a.isSome = true → new.length = src.len * n) (hn0 : src.a = none → src.len = 0) (hle : src.len ≤ s'.len) (hna : ∀ v ∈ new, NotAgg v)
   (hk : ∀ w', OwnS w' n0 n t (vs.take (o * n) ++ new ++ vs.drop (o * n + new.length)) → Mod t.blk w w' → w'.heap.size = w.heap.size → k w') : cpy n s' src k w := by
 have hnl : new.length = src.len * n := by
   cases hsa : src.a with
   | some _ => exact hn (by simp [hsa])
   | none =>
     rw [hsa] at hr
     have : new = [] := hr
     rw [this, hn0 hsa]; simp
 refine ⟨new, fun _ => by rw [hnl, show Nat.min src.len s'.len = src.len from Nat.min_eq_left hle], hr, ?_⟩
 by_cases hz : new = []
 · subst hz
   rw [stO_nil]
   refine hk w ?_ (Mod.refl _ _) rfl
   simpa using h
 · have hpos : src.len ≠ 0 := by
     intro h0
     rw [h0] at hnl
     simp at hnl
     exact hz hnl
   have ha' : s'.a = t.a.map (·.add (o * n)) := ha.resolve_right (by omega)
   rcases h.row with ⟨h1, h2, h3⟩ | ⟨b, off, spare, h1, h2, h3, h4, h5, h6⟩
   · omega
   · rw [ha', h1]
     show stL ((Addr.add ⟨b, off, none⟩ (o * n)).add 0) 0 new k w
     rw [add_zero', stL_shift, Nat.add_zero]
     have hlen := h.len
     have hb : o * n + new.length ≤ vs.length := by
       rw [hnl, hlen, ← Nat.add_mul]
       exact Nat.mul_le_mul_right n (by omega)
     refine stL_of rfl h5 (by rw [List.length_append]; omega) hna h4 ?_
     intro w' g1 g2 g3 g4
     refine hk w' ⟨?_, h.le, .inr ⟨b, off, spare, h1, h2, by rw [g3]; exact h3, g4 _ h4, ?_, ?_⟩⟩ (g2.mono fun c _ hc => ⟨_, h1, hc.symm⟩) g3
     · simp only [List.length_append, List.length_take, List.length_drop]
       omega
     · rw [List.take_append_of_le_length (by omega), List.drop_append_of_le_length (by omega)] at g1
       simpa [List.append_assoc] using g1
     · simp only [List.length_append, List.length_take, List.length_drop] at *
       omega
theorem slc_lo {w : World} {n : Nat} {s : Sl} {o : Int} {k : Sl → Pr} (h0 : 0 ≤ o) (h1 : o ≤ (s.len : Int))
   (hk : k ⟨if s.cap = o.toNat then s.a else s.a.map (·.add (o.toNat * n)), s.len - o.toNat, s.cap - o.toNat⟩ w) : slc n s (some o) none none k w := by
 refine ⟨by simp, by simp, by simp, fun l hl => ?_, by simpa using hk⟩
 simp only [Option.some.injEq] at hl
 subst hl
 simpa using ⟨h0, h1⟩
theorem slc_hi {w : World} {n : Nat} {s : Sl} {o : Int} {k : Sl → Pr} (h0 : 0 ≤ o) (h1 : o ≤ (s.cap : Int))
   (hk : k ⟨if s.cap = 0 then s.a else s.a.map (·.add 0), o.toNat, s.cap⟩ w) : slc n s none (some o) none k w := by
 refine ⟨by simp, by simp, fun l hl => ?_, by simp, by simpa using hk⟩
 simp only [Option.some.injEq] at hl
 subst hl
 simpa using ⟨h0, h1⟩
theorem map_add_zero (a : Option Addr) : a.map (·.add 0) = a := by cases a <;> simp
end Go.Eng

namespace Go.Eng
section
variable {w w' : World} {s : Sl} {l : List UInt8}
theorem at_of {i : Int} {b : UInt8} {k : Int → Pr} (h : BS w s l) (h0 : 0 ≤ i) (hb : l[i.toNat]? = some b) (hk : k (b.toNat : Int) w) :
   (owe ((0 : Int) ≤ i ∧ i < (s.len : Int)) <| deref s.a fun a => deref (some (a.add (Int.toNat i * 1))) fun a1 => ldC (.int .u8) a1 k) w := by
 obtain ⟨ad, h1, h2⟩ := h.get hb
 have hl := h.len
 have hlt : i.toNat < l.length := by
   rcases Nat.lt_or_ge i.toNat l.length with h' | h'
   · exact h'
   · rw [List.getElem?_eq_none h'] at hb; cases hb
 refine ⟨⟨h0, by omega⟩, ?_⟩
 rw [h1]
 simp only [deref_some, Nat.mul_one]
 exact ldC_of (s := .int .u8) (p := (b.toNat : Int)) h2 hk
theorem slc_bs {i e : Int} {k : Sl → Pr} (h : BS w s l) (hle : s.len ≤ s.cap) (h0 : 0 ≤ i) (h1 : i ≤ e) (h2 : e ≤ (s.len : Int)) (hk : ∀ r, BS w r ((l.take e.toNat).drop i.toNat) → r.len = e.toNat - i.toNat → k r w) : slc 1 s (some i) (some e) none k w := by
 have hl := h.len
 refine ⟨by simp, by simp, fun x hx => ?_, fun x hx => ?_, ?_⟩
 · simp only [Option.some.injEq] at hx; subst hx; simp; omega
 · simp only [Option.some.injEq] at hx; subst hx; simp; omega
 · simp only [Option.map_none, Option.map_some, Option.getD_none, Option.getD_some]
   refine hk _ ⟨?_, ?_⟩ rfl
   · simp; omega
   · have hrow := h.row
     have hr : ∀ ad, s.a = some ad → Row w (ad.add (i.toNat * 1)) (((l.take e.toNat).drop i.toNat).map ub) := by
       intro ad had
       rw [had] at hrow
       have := ((readsAt_row.1 hrow).take e.toNat).drop i.toNat
       simpa [List.map_take, List.map_drop] using this
     split
     · have : (l.take e.toNat).drop i.toNat = [] := by apply List.eq_nil_of_length_eq_zero; simp; omega
       rw [this]
       cases s.a with
       | none => rfl
       | some ad => exact readsAt_row.2 (Row.nil _ _)
     · cases ha : s.a with
       | none =>
         have h0 := h.none_len ha
         have : (l.take e.toNat).drop i.toNat = [] := by apply List.eq_nil_of_length_eq_zero; simp; omega
         rw [this]; rfl
       | some ad => exact readsAt_row.2 (hr ad ha)
theorem toNat_beq (a b : UInt8) : (((a.toNat : Int)) == ((b.toNat : Int))) = decide (a = b) := by
 rw [Bool.eq_iff_iff]
 simp only [beq_iff_eq, decide_eq_true_eq]
 constructor
 · intro h; exact UInt8.toNat_inj.1 (by omega)
 · rintro rfl; rfl
end
end Go.Eng
namespace Go.Eng
theorem clone_app {w : World} {s : Sl} {l : List UInt8} {k : Sl → Pr} (h : BS w s l) (hl : s.len ≤ 100000000000000)
   (hk : ∀ r w', OwnS w' w.heap.size 1 r (l.map ub) → Grow w w' → k r w') : app 5 1 1 [.int .u8 0] ⟨none, 0, 0⟩ s k w := by
 have hn := h.len
 refine app_own (n0 := w.heap.size) (vs := []) (new := l.map ub) (OwnS.nil _ _ _) (Nat.le_refl _) (fun _ => by simp; omega) h.none_len h.row NotAgg_ub rfl (by decide) (by simp; omega) ?_
 intro r w' h1 _ _ _ h5
 refine hk r w' (by simpa using h1) (h5.mono fun b _ hb => ?_)
 obtain ⟨ad, had, _⟩ := hb
 cases had
end Go.Eng
namespace Go.Eng
structure Box (w : World) (b : Nat) (vs : List Value) : Prop where
 lt : b < w.heap.size
 unf : Unf w b
 row : Row w ⟨b, 0, none⟩ vs
section
variable {w w' : World} {b : Nat} {vs : List Value}
theorem Box.mod {S : Nat → Prop} (h : Box w b vs) (hm : Mod S w w') (hs : ¬ S b) : Box w' b vs :=
 ⟨Nat.lt_of_lt_of_le h.lt hm.size, h.unf.of_heap (hm.same b h.lt hs), h.row.mod hm hs⟩
theorem Box.grow (h : Box w b vs) (hm : Grow w w') : Box w' b vs := h.mod hm fun h => h
theorem nw_of {cs : Array Value} {T : TypeId} {f : Nat → Pr} (h : ∀ b w2, Grow w w2 → b = w.heap.size → w2.heap.size = w.heap.size + 1 → Box w2 b cs.toList → f b w2) : nw (.cells cs T) f w := by
 rw [nw_def]
 refine h _ _ ((Mod.refl _ w).alloc _) rfl (by simp) ⟨by simp, fun o _ _ => World.frozen?_alloc_new _ _ _ _, fun j v hj => ?_⟩
 rw [add_mk, Nat.zero_add, World.cell?_alloc_new]
 simpa using hj
theorem Box.ld (h : Box w b vs) {s : CS} {p : PayC s} {k : PayC s → Pr} {i : Nat} (hi : vs[i]? = some (valC s p)) (hk : k p w) : ldC s (Addr.add ⟨b, 0, none⟩ i) k w := ldC_of (h.row.get hi) hk
theorem Box.ldA {l : List CS} {p : PayA l} {k : PayA l → Pr} (h : Box w b (valA l p)) (hk : k p w) : ldA l ⟨b, 0, none⟩ k w := ldA_of (readsAt_row.2 h.row) hk
theorem Box.st (h : Box w b vs) {i : Nat} {v : Value} {k : Pr} (hi : i < vs.length) (hv : NotAgg v) (hk : ∀ w', Box w' b (vs.set i v) → Mod (· = b) w w' → w'.heap.size = w.heap.size → k w') : st (Addr.add ⟨b, 0, none⟩ i) v k w := by
 refine st_of (u := vs[i]) hv (h.row.get (by simp [hi])) (h.unf.add (v := vs[i]) rfl rfl (h.row.get (by simp [hi]))) ?_
 refine hk _ ⟨by simpa using h.lt, h.unf.setCell, h.row.set rfl⟩ ((Mod.refl _ w).setCell (.inl (by simp))) (by simp)
end
end Go.Eng
namespace Go.Eng
theorem deref_some' (a : Addr) (f : Addr → Pr) : deref (some a) f = f a := by funext w; exact deref_some a f
end Go.Eng
namespace Go.Eng
theorem callV_mono {P : Program} {v : Value} {args : List Value} {shs : List Sh} {k k' : PayL shs → Pr} {w : World} (h : ∀ p w', k p w' → k' p w') (hh : callV P v args shs k w) : callV P v args shs k' w := by
 rcases hh with ⟨f, first, caps, h1, h2, h3⟩ | ⟨l, caps, h1, h2⟩
 · exact .inl ⟨f, first, caps, h1, h2, h3.mono fun e w' ⟨p, he, hp⟩ => ⟨p, he, h p w' hp⟩⟩
 · exact .inr ⟨l, caps, h1, h2.mono fun e w' ⟨p, he, hp⟩ => ⟨p, he, h p w' hp⟩⟩
end Go.Eng

namespace Go.Eng
structure HA where
 is : World → (Nat → Prop) → Prop
 lt : ∀ {w : World} {F : Nat → Prop} {b : Nat}, is w F → F b → b < w.heap.size
 mod : ∀ {w w' : World} {F S : Nat → Prop}, is w F → Mod S w w' → (∀ b, F b → ¬ S b) → is w' F
def Has : List HA → World → (Nat → Prop) → Prop
 | [], _, F => ∀ b, ¬ F b
 | A :: l, w, F => ∃ G H, A.is w G ∧ Has l w H ∧ (∀ b, G b → ¬ H b) ∧ ∀ b, F b ↔ G b ∨ H b
theorem fext {F G : Nat → Prop} (h : ∀ b, F b ↔ G b) : F = G := funext fun b => propext (h b)
theorem Has.lt : ∀ {l : List HA} {w : World} {F : Nat → Prop} {b : Nat}, Has l w F → F b → b < w.heap.size
 | [], _, _, b, h, hb => (h b hb).elim
 | A :: l, _, _, b, ⟨G, H, h1, h2, _, h4⟩, hb => ((h4 b).1 hb).elim (fun h => A.lt h1 h) fun h => Has.lt h2 h
theorem Has.mod : ∀ {l : List HA} {w w' : World} {F S : Nat → Prop}, Has l w F → Mod S w w' → (∀ b, F b → ¬ S b) → Has l w' F
 | [], _, _, _, _, h, _, _ => h
 | A :: l, _, _, _, _, ⟨G, H, h1, h2, h3, h4⟩, hm, hs =>
   ⟨G, H, A.mod h1 hm fun b hb => hs b ((h4 b).2 (.inl hb)), Has.mod h2 hm fun b hb => hs b ((h4 b).2 (.inr hb)), h3, h4⟩
theorem Has.append : ∀ {l m : List HA} {w : World} {F : Nat → Prop}, Has (l ++ m) w F ↔ ∃ G H, Has l w G ∧ Has m w H ∧ (∀ b, G b → ¬ H b) ∧ ∀ b, F b ↔ G b ∨ H b
 | [], m, w, F => by
   constructor
   · intro h
     exact ⟨fun _ => False, F, fun _ h => h, h, fun _ h => h.elim, fun b => by simp⟩
   · rintro ⟨G, H, h1, h2, _, h4⟩
     have : F = H := fext fun b => by rw [h4 b]; exact ⟨fun h => h.elim (fun h => (h1 b h).elim) id, .inr⟩
     rw [this]; exact h2
 | A :: l, m, w, F => by
   constructor
   · rintro ⟨G, H, h1, h2, h3, h4⟩
     obtain ⟨G', H', h5, h6, h7, h8⟩ := Has.append.1 h2
     refine ⟨fun b => G b ∨ G' b, H', ⟨G, G', h1, h5, fun b hb hb' => h3 b hb ((h8 b).2 (.inl hb')), fun b => Iff.rfl⟩, h6, ?_, ?_⟩
     · rintro b (hb | hb) hb'
       · exact h3 b hb ((h8 b).2 (.inr hb'))
       · exact h7 b hb hb'
     · intro b
       rw [h4 b, h8 b, or_assoc]
   · rintro ⟨G, H, ⟨G1, G2, h1, h2, h3, h4⟩, h5, h6, h7⟩
     refine ⟨G1, fun b => G2 b ∨ H b, h1, Has.append.2 ⟨G2, H, h2, h5, fun b hb => h6 b ((h4 b).2 (.inr hb)), fun b => Iff.rfl⟩, ?_, ?_⟩
     · rintro b hb (hb' | hb')
       · exact h3 b hb hb'
       · exact h6 b ((h4 b).2 (.inl hb)) hb'
     · intro b
       rw [h7 b, h4 b, or_assoc]
theorem Has.perm {l m : List HA} (h : l.Perm m) : ∀ {w : World} {F : Nat → Prop}, Has l w F → Has m w F := by
 induction h with
 | nil => exact fun h => h
 | cons A _ ih => rintro w F ⟨G, H, h1, h2, h3, h4⟩; exact ⟨G, H, h1, ih h2, h3, h4⟩
 | swap A B l =>
   rintro w F ⟨G, H, h1, ⟨G', H', h5, h6, h7, h8⟩, h3, h4⟩
   refine ⟨G', fun b => G b ∨ H' b, h5, ⟨G, H', h1, h6, fun b hb hb' => h3 b hb ((h8 b).2 (.inr hb')), fun b => Iff.rfl⟩, ?_, ?_⟩
   · rintro b hb (hb' | hb')
     · exact h3 b hb' ((h8 b).2 (.inl hb))
     · exact h7 b hb hb'
   · intro b
     rw [h4 b, h8 b]
     constructor
     · rintro (h | h | h)
       · exact .inr (.inl h)
       · exact .inl h
       · exact .inr (.inr h)
     · rintro (h | h | h)
       · exact .inr (.inl h)
       · exact .inl h
       · exact .inr (.inr h)
 | trans _ _ ih1 ih2 => exact fun h => ih2 (ih1 h)
def bring : Nat → List HA → List HA
 | _, [] => []
 | 0, A :: l => A :: l
 | n + 1, A :: l =>
   match bring n l with
   | [] => [A]
   | B :: m => B :: A :: m
theorem bring_perm : ∀ (n : Nat) (l : List HA), l.Perm (bring n l)
 | 0, [] => .refl _
 | _ + 1, [] => .refl _
 | 0, A :: l => .refl _
 | n + 1, A :: l => by
   have h := bring_perm n l
   unfold bring
   split
   · rename_i h2
     rw [h2] at h
     rw [h.eq_nil]
   · rename_i B m h2
     rw [h2] at h
     exact (h.cons A).trans (.swap B A m)
def St (F0 : Nat → Prop) (w0 w : World) (l : List HA) : Prop := Mod F0 w0 w ∧ ∃ F, Has l w F ∧ ∀ b, F b → F0 b ∨ w0.heap.size ≤ b
abbrev noF : Nat → Prop := fun _ => False
section
variable {F0 : Nat → Prop} {w0 w w' : World} {l m : List HA} {A B : HA}
theorem St.init {F : Nat → Prop} (h : Has l w F) : St F w w l := ⟨Mod.refl _ _, F, h, fun _ h => .inl h⟩
theorem St.init0 (w : World) : St noF w w [] := ⟨Mod.refl _ _, noF, fun _ h => h, fun _ h => h.elim⟩
theorem St.gro (h : St noF w0 w l) : Grow w0 w := h.1
theorem St.perm (h : St F0 w0 w l) (hp : l.Perm m) : St F0 w0 w m := let ⟨h1, F, h2, h3⟩ := h; ⟨h1, F, h2.perm hp, h3⟩
theorem St.bring (n : Nat) (h : St F0 w0 w l) : St F0 w0 w (Eng.bring n l) := h.perm (bring_perm n l)
theorem St.drop (h : St F0 w0 w (A :: l)) : St F0 w0 w l := by
 obtain ⟨h1, F, ⟨G, H, _, h5, _, h7⟩, h3⟩ := h
 exact ⟨h1, H, h5, fun b hb => h3 b ((h7 b).2 (.inr hb))⟩
theorem St.dropL (h : St F0 w0 w (l ++ m)) : St F0 w0 w m := by
 obtain ⟨h1, F, h2, h3⟩ := h
 obtain ⟨G, H, _, h5, _, h7⟩ := Has.append.1 h2
 exact ⟨h1, H, h5, fun b hb => h3 b ((h7 b).2 (.inr hb))⟩
theorem St.dropR (h : St F0 w0 w (l ++ m)) : St F0 w0 w l := by
 obtain ⟨h1, F, h2, h3⟩ := h
 obtain ⟨G, H, h4, _, _, h7⟩ := Has.append.1 h2
 exact ⟨h1, G, h4, fun b hb => h3 b ((h7 b).2 (.inl hb))⟩
theorem St.call (As : List HA) (h : St F0 w0 w (As ++ l)) : ∃ F H, Has As w F ∧ Has l w H ∧ (∀ b, F b → ¬ H b) ∧ (∀ b, F b → F0 b ∨ w0.heap.size ≤ b) ∧ ∀ w' l', St F w w' l' → St F0 w0 w' (l' ++ l) := by
 obtain ⟨h1, F, h2, h3⟩ := h
 obtain ⟨G, H, h4, h5, h6, h7⟩ := Has.append.1 h2
 refine ⟨G, H, h4, h5, h6, fun b hb => h3 b ((h7 b).2 (.inl hb)), ?_⟩
 rintro w' l' ⟨k1, F', k2, k3⟩
 have hsz := h1.size
 refine ⟨h1.trans k1 ?_, fun b => F' b ∨ H b, Has.append.2 ⟨F', H, k2, h5.mod k1 fun b hb hg => h6 b hg hb, ?_, fun b => Iff.rfl⟩, ?_⟩
 · intro b hb hg
   rcases h3 b ((h7 b).2 (.inl hg)) with h | h
   · exact h
   · omega
 · intro b hb hb'
   rcases k3 b hb with h | h
   · exact h6 b h hb'
   · have := h5.lt hb'; omega
 · rintro b (hb | hb)
   · rcases k3 b hb with h | h
     · exact h3 b ((h7 b).2 (.inl h))
     · exact .inr (Nat.le_trans hsz h)
   · exact h3 b ((h7 b).2 (.inr hb))
theorem St.call1 (h : St F0 w0 w (A :: l)) : ∃ F H, A.is w F ∧ Has [A] w F ∧ Has l w H ∧ (∀ b, F b → ¬ H b) ∧ (∀ b, F b → F0 b ∨ w0.heap.size ≤ b) ∧ ∀ w' l', St F w w' l' → St F0 w0 w' (l' ++ l) := by
 obtain ⟨F, H, h1, h2, h3, h4, h5⟩ := St.call [A] h
 have h1' := h1
 obtain ⟨G, K, k1, k2, _, k4⟩ := h1'
 have : F = G := fext fun b => by rw [k4 b]; exact ⟨fun h => h.elim id fun h => (k2 b h).elim, .inl⟩
 subst this
 exact ⟨F, H, k1, h1, h2, h3, h4, h5⟩
theorem Has.one {F : Nat → Prop} (h : Has [A] w F) : A.is w F := by
 obtain ⟨G, K, k1, k2, _, k4⟩ := h
 have : F = G := fext fun b => by rw [k4 b]; exact ⟨fun h => h.elim id fun h => (k2 b h).elim, .inl⟩
 subst this
 exact k1
theorem Has.mk1 {F : Nat → Prop} (h : A.is w F) : Has [A] w F := ⟨F, noF, h, fun _ h => h, fun _ _ h => h, fun b => by simp⟩
theorem St.call0 (h : St F0 w0 w l) (k : St noF w w' m) : St F0 w0 w' (m ++ l) := by
 obtain ⟨F, H, h1, h2, h3, h4, h5⟩ := St.call [] (l := l) h
 have : F = noF := fext fun b => ⟨fun hb => h1 b hb, fun h => h.elim⟩
 subst this
 exact h5 w' m k
theorem St.grow (h : St F0 w0 w l) (k : Grow w w') : St F0 w0 w' l := St.call0 (m := []) h ⟨k, noF, fun _ h => h, fun _ h => h.elim⟩
theorem St.drew (h : St F0 w0 w l) : St F0 w0 w.drew l := h.grow (Mod.refl _ w).drew
theorem St.upd (h : St F0 w0 w (A :: l)) : ∃ G H, A.is w G ∧ Has l w H ∧ (∀ b, G b → ¬ H b) ∧ (∀ b, G b → F0 b ∨ w0.heap.size ≤ b) ∧ ∀ w' (B : HA) G', B.is w' G' → Mod G w w' → (∀ b, G' b → G b ∨ w.heap.size ≤ b) → St F0 w0 w' (B :: l) := by
 obtain ⟨F, H, h1, _, h2, h3, h4, h5⟩ := St.call1 h
 exact ⟨F, H, h1, h2, h3, h4, fun w' B G' k1 k2 k3 => h5 w' [B] ⟨k2, G', Has.mk1 k1, k3⟩⟩
theorem St.conv (h : St F0 w0 w (A :: l)) (hk : ∀ F, A.is w F → Has m w F) : St F0 w0 w (m ++ l) := by
 obtain ⟨F, H, h1, _, h2, h3, h4, h5⟩ := St.call1 h
 exact h5 w m ⟨Mod.refl _ _, F, hk F h1, fun _ h => .inl h⟩
theorem St.conv1 (As : List HA) (h : St F0 w0 w (As ++ l)) (hk : ∀ F, Has As w F → B.is w F) : St F0 w0 w (B :: l) := by
 obtain ⟨F, H, h1, h2, h3, h4, h5⟩ := St.call As h
 exact h5 w [B] ⟨Mod.refl _ _, F, Has.mk1 (hk F h1), fun _ h => .inl h⟩
end
def BoxA (b : Nat) (vs : List Value) : HA where
 is w F := Box w b vs ∧ ∀ c, F c ↔ c = b
 lt := fun h hb => by rw [(h.2 _).1 hb]; exact h.1.lt
 mod := fun h hm hs => ⟨h.1.mod hm (hs _ ((h.2 _).2 rfl)), h.2⟩
def ObjA (b : Nat) (o : Obj) : HA where
 is w F := w.heap[b]? = some o ∧ ∀ c, F c ↔ c = b
 lt := fun {w F c} h hb => by
   rw [(h.2 _).1 hb]
   rcases Nat.lt_or_ge b w.heap.size with h' | h'
   · exact h'
   · have := h.1; rw [Array.getElem?_eq_none h'] at this; cases this
 mod := fun {w w' F S} h hm hs => by
   have hlt : b < w.heap.size := by
     rcases Nat.lt_or_ge b w.heap.size with h' | h'
     · exact h'
     · have := h.1; rw [Array.getElem?_eq_none h'] at this; cases this
   exact ⟨(hm.same b hlt (hs _ ((h.2 _).2 rfl))).trans h.1, h.2⟩
def SlA (n : Nat) (s : Sl) (vs : List Value) : HA where
 is w F := OwnS w 0 n s vs ∧ ∀ c, F c ↔ s.blk c
 lt := fun h hb => by
   obtain ⟨ad, h1, rfl⟩ := (h.2 _).1 hb
   exact (h.1.le_block h1).2.1
 mod := fun h hm hs => ⟨h.1.mod hm fun ad ha hS => hs _ ((h.2 _).2 ⟨ad, ha, rfl⟩) hS, h.2⟩
def exA {ι : Type} (f : ι → List HA) : HA where
 is w F := ∃ i, Has (f i) w F
 lt := fun ⟨_, h⟩ hb => h.lt hb
 mod := fun ⟨i, h⟩ hm hs => ⟨i, h.mod hm hs⟩
def bigA (xs : List HA) : HA where
 is w F := Has xs w F
 lt := fun h hb => Has.lt h hb
 mod := fun h hm hs => Has.mod h hm hs
def pA (p : Prop) : HA where
 is _ F := p ∧ ∀ b, ¬ F b
 lt := fun h hb => (h.2 _ hb).elim
 mod := fun h _ _ => h
section
variable {F0 : Nat → Prop} {w0 w w' : World} {l : List HA}
theorem St.ex {ι : Type} {f : ι → List HA} (h : St F0 w0 w (exA f :: l)) : ∃ i, St F0 w0 w (f i ++ l) := by
 obtain ⟨F, H, ⟨i, h1⟩, _, h2, h3, h4, h5⟩ := St.call1 h
 exact ⟨i, h5 w (f i) ⟨Mod.refl _ _, F, h1, fun _ h => .inl h⟩⟩
theorem St.mkex {ι : Type} {f : ι → List HA} (i : ι) (h : St F0 w0 w (f i ++ l)) : St F0 w0 w (exA f :: l) := h.conv1 (f i) fun _ h => ⟨i, h⟩
theorem St.big {xs : List HA} (h : St F0 w0 w (bigA xs :: l)) : St F0 w0 w (xs ++ l) := h.conv fun _ h => h
theorem St.mkbig {xs : List HA} (h : St F0 w0 w (xs ++ l)) : St F0 w0 w (bigA xs :: l) := h.conv1 xs fun _ h => h
theorem St.p {p : Prop} (h : St F0 w0 w (pA p :: l)) : p ∧ St F0 w0 w l := ⟨by obtain ⟨F, H, h1, _⟩ := St.call1 h; exact h1.1, h.drop⟩
theorem St.mkp {p : Prop} (h : St F0 w0 w l) (hp : p) : St F0 w0 w (pA p :: l) := St.conv1 [] h fun _ h => ⟨hp, h⟩
theorem split_at {α : Type} {xs : List α} {i : Nat} {x : α} (h : xs[i]? = some x) : xs = xs.take i ++ x :: xs.drop (i + 1) ∧ i < xs.length := by
 have hi : i < xs.length := by
   rcases Nat.lt_or_ge i xs.length with h' | h'
   · exact h'
   · rw [List.getElem?_eq_none h'] at h; cases h
 refine ⟨?_, hi⟩
 rw [List.getElem?_eq_getElem hi, Option.some.injEq] at h
 rw [← h, ← List.drop_eq_getElem_cons hi, List.take_append_drop]
theorem St.pick {xs : List HA} {i : Nat} {A : HA} (h : St F0 w0 w (bigA xs :: l)) (hi : xs[i]? = some A) : St F0 w0 w (A :: bigA (xs.eraseIdx i) :: l) := by
 have h1 := split_at hi
 have h2 := h.big
 have hp : (xs ++ l).Perm (A :: (xs.eraseIdx i ++ l)) := by
   rw [List.eraseIdx_eq_take_drop_succ]
   conv => lhs; rw [h1.1]
   simp only [List.append_assoc, List.cons_append]
   exact List.perm_middle
 have h3 : St F0 w0 w (xs.eraseIdx i ++ (l ++ [A])) := by
   rw [← List.append_assoc]
   exact (h2.perm hp).perm (List.perm_append_comm (l₁ := [A]) (l₂ := xs.eraseIdx i ++ l))
 have h4 := St.mkbig h3
 exact h4.perm (((List.perm_append_comm (l₁ := l) (l₂ := [A])).cons _).trans (.swap _ _ _))
theorem St.unpick {xs : List HA} {i : Nat} {A : HA} (h : St F0 w0 w (A :: bigA (xs.eraseIdx i) :: l)) (hi : i < xs.length) : St F0 w0 w (bigA (xs.set i A) :: l) := by
 have h1 := h.perm (.swap _ _ _)
 have h2 := h1.big
 refine St.mkbig (h2.perm ?_)
 rw [List.eraseIdx_eq_take_drop_succ, List.set_eq_take_append_cons_drop, if_pos hi]
 simp only [List.append_assoc, List.cons_append]
 refine (List.perm_append_left_iff _).2 ?_
 exact List.perm_middle
theorem St.push {xs : List HA} {A : HA} (h : St F0 w0 w (A :: bigA xs :: l)) : St F0 w0 w (bigA (xs ++ [A]) :: l) := by
 have h1 := (h.perm (.swap _ _ _)).big
 refine St.mkbig (h1.perm ?_)
 rw [List.append_assoc]
 exact .refl _
theorem St.nobig (h : St F0 w0 w l) : St F0 w0 w (bigA [] :: l) := St.mkbig (xs := []) h
theorem St.box {b : Nat} {vs : List Value} (h : St F0 w0 w (BoxA b vs :: l)) : Box w b vs := by
 obtain ⟨F, H, h1, _⟩ := St.call1 h
 exact h1.1
theorem St.mkbox {b : Nat} {vs : List Value} (h : St F0 w0 w l) (hg : Grow w w') (hb : Box w' b vs) (hn : w.heap.size ≤ b) : St F0 w0 w' (BoxA b vs :: l) :=
 St.call0 (m := [BoxA b vs]) h ⟨hg, (· = b), Has.mk1 ⟨hb, fun _ => Iff.rfl⟩, fun c hc => .inr (by rw [hc]; exact hn)⟩
theorem St.nw {cs : Array Value} {T : TypeId} {f : Nat → Pr} (h : St F0 w0 w l) (hk : ∀ b w2, St F0 w0 w2 (BoxA b cs.toList :: l) → Grow w w2 → b = w.heap.size → f b w2) : nw (.cells cs T) f w :=
 nw_of fun b w2 g e _ bx => hk b w2 (h.mkbox g bx (by omega)) g e
theorem St.ld {b : Nat} {vs : List Value} (h : St F0 w0 w (BoxA b vs :: l)) {s : CS} {p : PayC s} {k : PayC s → Pr} {i : Nat} (hi : vs[i]? = some (valC s p)) (hk : k p w) : ldC s (Addr.add ⟨b, 0, none⟩ i) k w := h.box.ld hi hk
theorem St.ld0 {b : Nat} {v : Value} {vs : List Value} (h : St F0 w0 w (BoxA b (v :: vs) :: l)) {s : CS} {p : PayC s} {k : PayC s → Pr} (hi : v = valC s p) (hk : k p w) : ldC s ⟨b, 0, none⟩ k w := by
 have := h.box.ld (i := 0) (s := s) (p := p) (k := k) (by rw [hi]; rfl) hk
 rwa [add_zero'] at this
theorem St.st {b : Nat} {vs : List Value} (h : St F0 w0 w (BoxA b vs :: l)) {i : Nat} {v : Value} {k : Pr} (hi : i < vs.length) (hv : NotAgg v) (hk : ∀ w', St F0 w0 w' (BoxA b (vs.set i v) :: l) → k w') : Eng.st (Addr.add ⟨b, 0, none⟩ i) v k w := by
 obtain ⟨G, H, ⟨h1, h2⟩, h3, h4, h5, h6⟩ := St.upd h
 refine h1.st hi hv fun w' k1 k2 k3 => hk w' ?_
 refine h6 w' (BoxA b (vs.set i v)) G ⟨k1, h2⟩ (k2.mono fun c _ hc => (h2 c).2 hc) fun _ h => .inl h
theorem St.st0 {b : Nat} {u : Value} {vs : List Value} (h : St F0 w0 w (BoxA b (u :: vs) :: l)) {v : Value} {k : Pr} (hv : NotAgg v) (hk : ∀ w', St F0 w0 w' (BoxA b (v :: vs) :: l) → k w') : Eng.st ⟨b, 0, none⟩ v k w := by
 have := h.st (i := 0) (v := v) (k := k) (by simp) hv fun w' h' => hk w' h'
 rwa [add_zero'] at this
theorem St.obj {b : Nat} {o : Obj} (h : St F0 w0 w (ObjA b o :: l)) : w.heap[b]? = some o := by
 obtain ⟨F, H, h1, _⟩ := St.call1 h
 exact h1.1
theorem St.mkobj (h : St F0 w0 w l) (o : Obj) : St F0 w0 (w.alloc o) (ObjA w.heap.size o :: l) :=
 St.call0 (m := [ObjA w.heap.size o]) h ⟨(Mod.refl _ w).alloc o, (· = w.heap.size), Has.mk1 ⟨heap_alloc_new w o, fun _ => Iff.rfl⟩, fun c hc => .inr (by rw [hc]; exact Nat.le_refl _)⟩
theorem St.putObj {b : Nat} {o : Obj} (h : St F0 w0 w (ObjA b o :: l)) (o' : Obj) : St F0 w0 (w.putObj b o') (ObjA b o' :: l) := by
 obtain ⟨G, H, ⟨h1, h2⟩, h3, h4, h5, h6⟩ := St.upd h
 have hlt : b < w.heap.size := by
   rcases Nat.lt_or_ge b w.heap.size with h' | h'
   · exact h'
   · rw [Array.getElem?_eq_none h'] at h1; cases h1
 exact h6 _ (ObjA b o') G ⟨World.putObj_heap_same hlt, h2⟩ ((Mod.refl _ w).putObj (.inl ((h2 b).2 rfl))) fun _ h => .inl h
theorem OwnS.to0 {n0 n : Nat} {s : Sl} {vs : List Value} (h : OwnS w n0 n s vs) : OwnS w 0 n s vs := h.weaken (Nat.zero_le _)
theorem St.sl {n : Nat} {s : Sl} {vs : List Value} (h : St F0 w0 w (SlA n s vs :: l)) : OwnS w 0 n s vs := by
 obtain ⟨F, H, h1, _⟩ := St.call1 h
 exact h1.1
theorem St.mksl {n : Nat} {s : Sl} {vs : List Value} (h : St F0 w0 w l) (hg : Grow w w') (ho : OwnS w' w.heap.size n s vs) : St F0 w0 w' (SlA n s vs :: l) :=
 St.call0 (m := [SlA n s vs]) h ⟨hg, s.blk, Has.mk1 ⟨ho.to0, fun _ => Iff.rfl⟩, fun c hc => .inr (by obtain ⟨ad, h1, rfl⟩ := hc; exact (ho.le_block h1).1)⟩
theorem St.nosl (h : St F0 w0 w l) (n : Nat) : St F0 w0 w (SlA n ⟨none, 0, 0⟩ [] :: l) := h.mksl (Mod.refl _ _) (OwnS.nil _ _ _)
theorem St.slm {n : Nat} {s r : Sl} {vs us : List Value} (h : St F0 w0 w (SlA n s vs :: l)) (hm : Mod s.blk w w') (ho : OwnS w' 0 n r us) (hb : ∀ b, r.blk b → s.blk b ∨ w.heap.size ≤ b) : St F0 w0 w' (SlA n r us :: l) := by
 obtain ⟨G, H, ⟨h1, h2⟩, h3, h4, h5, h6⟩ := St.upd h
 exact h6 _ (SlA n r us) r.blk ⟨ho, fun _ => Iff.rfl⟩ (hm.mono fun c _ hc => (h2 c).2 hc) fun b hb' => (hb b hb').imp (fun h => (h2 b).2 h) id
theorem St.app {E n b : Nat} {s x : Sl} {z : List Value} {vs new : List Value} {k : Sl → Pr} (h : St F0 w0 w (SlA n s vs :: l)) (hxl : x.a.isSome = true → new.length = x.len * n) (hx0 : x.a = none → x.len = 0) (hx : readsO w x.a new)
   (hna : ∀ v ∈ new, NotAgg v) (hz : z.length = n) (hb : b ≠ 0) (hbd : (2 * (s.len + x.len) + 192) * b ≤ 2 ^ 48)
   (hk : ∀ r w', St F0 w0 w' (SlA n r (vs ++ new) :: l) → r.len = s.len + x.len → k r w') : app E n b z s x k w :=
 app_own2 h.sl (Nat.zero_le _) hxl hx0 hx hna hz hb hbd fun r w' h1 h2 _ _ h5 h6 => hk r w' (h.slm h5 h1 h6) h2
theorem St.put {n : Nat} {s : Sl} {vs : List Value} {i : Nat} {v : Value} {k : Pr} (h : St F0 w0 w (SlA n s vs :: l)) (hi : i < vs.length) (hv : NotAgg v)
   (hk : ∀ w', St F0 w0 w' (SlA n s (vs.set i v) :: l) → k w') : ∃ ad, s.a = some ad ∧ Eng.st (ad.add i) v k w :=
 h.sl.put hi hv fun w' h1 h2 _ => hk w' (h.slm h2 h1 fun _ h => .inl h)
theorem St.get {n : Nat} {s : Sl} {vs : List Value} {i : Nat} {c : CS} {p : PayC c} {k : PayC c → Pr} (h : St F0 w0 w (SlA n s vs :: l)) (hi : vs[i]? = some (valC c p)) (hk : k p w) : ∃ ad, s.a = some ad ∧ ldC c (ad.add i) k w := by
 have h1 := h.sl
 rcases h1.row with ⟨_, h2, _⟩ | ⟨b, off, spare, h2, _, _, _, h5, _⟩
 · have := h1.len; rw [h2] at this; simp at this; subst this; simp at hi
 · refine ⟨_, h2, ldC_of (h5 i _ ?_) hk⟩
   rw [List.getElem?_append_left (split_at hi).2]
   exact hi
end
structure Rd (w : World) (F : Nat → Prop) (s : Sl) (l : List UInt8) : Prop where
 bs : BS w s l
 no : ∀ b, l ≠ [] → s.blk b → ¬ F b
section
variable {F0 F : Nat → Prop} {w0 w : World} {L : List HA} {s : Sl} {l : List UInt8}
theorem Rd.at (h : Rd w0 F0 s l) (hs : St F0 w0 w L) : BS w s l := h.bs.mod hs.1 fun ad ha hl hF => h.no _ hl ⟨ad, ha, rfl⟩ hF
theorem Rd.lt (h : Rd w F s l) {b : Nat} (hl : l ≠ []) (hb : s.blk b) : b < w.heap.size := by
 obtain ⟨ad, ha, rfl⟩ := hb
 have h1 := h.bs.row
 rw [ha] at h1
 exact readsO.lt h1 (by simpa using hl)
theorem Rd.go (h : Rd w0 F0 s l) (hs : St F0 w0 w L) (hF : ∀ b, F b → F0 b ∨ w0.heap.size ≤ b) : Rd w F s l := ⟨h.at hs, fun b hl hb hFb => by
 rcases hF b hFb with h1 | h1
 · exact h.no b hl hb h1
 · have := h.lt hl hb; omega⟩
theorem Rd.noF (h : BS w s l) : Rd w noF s l := ⟨h, fun _ _ _ h => h⟩
theorem Rd.own {H : Nat → Prop} (h : Has (SlA 1 s (l.map ub) :: L) w H) (hd : ∀ b, F b → ¬ H b) : Rd w F s l := by
 obtain ⟨G, H', ⟨h1, h2⟩, h3, h4, h5⟩ := h
 exact ⟨h1.bs, fun b _ hb hF => hd b hF ((h5 b).2 (.inl ((h2 b).2 hb)))⟩
end
end Go.Eng
namespace Go.Eng
section
variable {w0 w : World} {L : List HA}
theorem St.own {n : Nat} {s : Sl} {vs : List Value} (h : St noF w0 w (SlA n s vs :: L)) : OwnS w w0.heap.size n s vs := by
 obtain ⟨G, H, ⟨h1, h2⟩, _, _, h5, _⟩ := h.upd
 refine ⟨h1.len, h1.le, ?_⟩
 rcases h1.row with h | ⟨b, off, spare, k1, _, k3⟩
 · exact .inl h
 · refine .inr ⟨b, off, spare, k1, ?_, k3⟩
   rcases h5 b ((h2 b).2 ⟨_, k1, rfl⟩) with h | h
   · exact h.elim
   · exact h
theorem takes_of {F0 : Nat → Prop} {D : Nat} {k : Pr} (h : St F0 w0 w (ObjA D (.deferred (some [])) :: L)) (hk : ∀ w', St F0 w0 w' (ObjA D (.deferred none) :: L) → k w') : takes [D] k w :=
 ⟨h.obj, hk _ (h.putObj _)⟩
theorem Box.cell0 {b : Nat} {v : Value} {vs : List Value} (h : Box w b (v :: vs)) : w.cell? ⟨b, 0, none⟩ = some v := by
 have := h.row.get (j := 0) (v := v) rfl
 rwa [add_zero'] at this
end
end Go.Eng
namespace Go.Eng
theorem St.del {F0 : Nat → Prop} {w0 w : World} : ∀ (n : Nat) {l : List HA}, St F0 w0 w l → St F0 w0 w (l.eraseIdx n) := by
 intro n l h
 rw [List.eraseIdx_eq_take_drop_succ]
 rcases Nat.lt_or_ge n l.length with hn | hn
 · have h1 : St F0 w0 w (l.take n ++ l[n] :: l.drop (n + 1)) := by rw [← List.drop_eq_getElem_cons hn, List.take_append_drop]; exact h
   exact (h1.perm List.perm_middle).drop
 · rw [List.take_of_length_le hn, List.drop_eq_nil_of_le (by omega), List.append_nil]; exact h
end Go.Eng
namespace Go.Eng
theorem OwnS.get {w : World} {n0 n : Nat} {s : Sl} {vs : List Value} {i : Nat} {c : CS} {p : PayC c} {k : PayC c → Pr} (h1 : OwnS w n0 n s vs) (hi : vs[i]? = some (valC c p)) (hk : k p w) : ∃ ad, s.a = some ad ∧ ldC c (ad.add i) k w := by
 rcases h1.row with ⟨_, h2, _⟩ | ⟨b, off, spare, h2, _, _, _, h5, _⟩
 · have := h1.len; rw [h2] at this; simp at this; subst this; simp at hi
 · refine ⟨_, h2, ldC_of (h5 i _ ?_) hk⟩
   rw [List.getElem?_append_left (split_at hi).2]
   exact hi
end Go.Eng
namespace Go.Eng
theorem at_own {w : World} {n0 : Nat} {s : Sl} {vs : List Value} {i : Nat} {c : CS} {p : PayC c} {k : PayC c → Pr} (h1 : OwnS w n0 1 s vs) (hi : vs[i]? = some (valC c p)) (hk : k p w) : (deref s.a fun a => ldC c (a.add (i * 1)) k) w := by
 obtain ⟨ad, ha, hld⟩ := h1.get hi hk
 rw [ha, deref_some', Nat.mul_one]
 exact hld
end Go.Eng
namespace Go.Eng
def nthA : List HA → Nat → Option HA
 | [], _ => none
 | A :: _, 0 => some A
 | _ :: l, n + 1 => nthA l n
def selA (l : List HA) : List Nat → List HA
 | [] => []
 | i :: ix =>
   match nthA l i with
   | some A => A :: selA l ix
   | none => selA l ix
theorem Has.fn : ∀ {l : List HA} {w : World} {F : Nat → Prop}, Has l w F → ∃ f : Nat → Nat → Prop, (∀ i A, nthA l i = some A → A.is w (f i)) ∧ (∀ i j b, i ≠ j → f i b → ¬ f j b) ∧ ∀ i b, f i b → F b
 | [], _, _, _ => ⟨fun _ _ => False, fun _ _ h => by simp [nthA] at h, fun _ _ _ _ h => h.elim, fun _ _ h => h.elim⟩
 | A :: l, w, F, ⟨G, H, h1, h2, h3, h4⟩ => by
   obtain ⟨f, f1, f2, f3⟩ := Has.fn h2
   refine ⟨fun i => match i with | 0 => G | i + 1 => f i, ?_, ?_, ?_⟩
   · intro i B hB
     cases i with
     | zero => simp only [nthA, Option.some.injEq] at hB; subst hB; exact h1
     | succ i => exact f1 i B hB
   · intro i j b hij hi hj
     cases i with
     | zero =>
       cases j with
       | zero => exact hij rfl
       | succ j => exact h3 b hi (f3 j b hj)
     | succ i =>
       cases j with
       | zero => exact h3 b hj (f3 i b hi)
       | succ j => exact f2 i j b (by omega) hi hj
   · intro i b hb
     cases i with
     | zero => exact (h4 b).2 (.inl hb)
     | succ i => exact (h4 b).2 (.inr (f3 i b hb))
theorem Has.selA {l : List HA} {w : World} {f : Nat → Nat → Prop} (f1 : ∀ i A, nthA l i = some A → A.is w (f i)) (f2 : ∀ i j b, i ≠ j → f i b → ¬ f j b) :
   ∀ {ix : List Nat}, ix.Nodup → Has (Eng.selA l ix) w fun b => ∃ i ∈ ix, (nthA l i).isSome = true ∧ f i b
 | [], _ => fun b ⟨i, h, _⟩ => by cases h
 | i :: ix, hn => by
   rw [List.nodup_cons] at hn
   have ih := Has.selA f1 f2 (ix := ix) hn.2
   unfold Eng.selA
   split
   · rename_i A hA
     refine ⟨f i, _, f1 i A hA, ih, ?_, ?_⟩
     · rintro b hb ⟨j, hj, _, hjb⟩
       exact f2 i j b (fun h => hn.1 (h ▸ hj)) hb hjb
     · intro b
       constructor
       · rintro ⟨j, hj, h1, h2⟩
         rcases List.mem_cons.1 hj with rfl | hj
         · exact .inl h2
         · exact .inr ⟨j, hj, h1, h2⟩
       · rintro (h | ⟨j, hj, h1, h2⟩)
         · exact ⟨i, by simp, by rw [hA]; rfl, h⟩
         · exact ⟨j, by simp [hj], h1, h2⟩
   · rename_i hA
     have : (fun b => ∃ j ∈ i :: ix, (nthA l j).isSome = true ∧ f j b) = fun b => ∃ j ∈ ix, (nthA l j).isSome = true ∧ f j b := fext fun b => by
       constructor
       · rintro ⟨j, hj, h1, h2⟩
         rcases List.mem_cons.1 hj with rfl | hj
         · rw [hA] at h1; cases h1
         · exact ⟨j, hj, h1, h2⟩
       · rintro ⟨j, hj, h1, h2⟩
         exact ⟨j, by simp [hj], h1, h2⟩
     rw [this]
     exact ih
theorem St.sel {F0 : Nat → Prop} {w0 w : World} {l : List HA} (ix : List Nat) (n : Nat) (h : St F0 w0 w l) (hn : ix.Nodup := by decide) : St F0 w0 w (selA (l.take n) ix ++ l.drop n) := by
 obtain ⟨h1, F, h2, h3⟩ := h
 rw [← List.take_append_drop n l] at h2
 obtain ⟨G, H, h4, h5, h6, h7⟩ := Has.append.1 h2
 obtain ⟨f, f1, f2, f3⟩ := h4.fn
 refine ⟨h1, _, Has.append.2 ⟨_, H, Has.selA f1 f2 hn, h5, ?_, fun b => Iff.rfl⟩, ?_⟩
 · rintro b ⟨i, _, _, hb⟩ hb'
   exact h6 b (f3 i b hb) hb'
 · rintro b (⟨i, _, _, hb⟩ | hb)
   · exact h3 b ((h7 b).2 (.inl (f3 i b hb)))
   · exact h3 b ((h7 b).2 (.inr hb))
end Go.Eng
namespace Go.Eng
theorem zc_one (v : Value) (n : Nat) : zc [v] n = List.replicate n v := by
 unfold zc
 induction n with
 | zero => rfl
 | succ n ih => rw [List.replicate_succ, List.flatten_cons, ih, List.replicate_succ]; rfl
theorem St.mkS {F0 : Nat → Prop} {w0 w : World} {l : List HA} {E b k : Nat} {z : List Value} {n : Nat} {f : Sl → Pr} (h : St F0 w0 w l) (hz : z.length = k) (hb : b * n ≤ 2 ^ 48) (hn : n ≤ 2 ^ 48)
   (hk : ∀ r w', St F0 w0 w' (SlA k r (zc z n) :: l) → r.len = n → f r w') : Eng.mkS E b z (n : Int) (n : Int) f w := by
 refine ⟨by omega, by omega, by exact_mod_cast hb, by omega, ?_⟩
 simp only [Int.toNat_natCast]
 refine hk _ _ (h.mksl ((Mod.refl _ w).alloc _) ⟨by rw [zc_length, hz], by simp, .inr ⟨w.heap.size, 0, [], rfl, Nat.le_refl _, by simp, fun o _ _ => World.frozen?_alloc_new w _ _ o, ?_, by rw [List.append_nil, zc_length, hz]⟩⟩) rfl
 intro j v hj
 rw [add_mk, Nat.zero_add, World.cell?_alloc_new]
 simpa using hj
theorem put_own {F0 : Nat → Prop} {w0 w : World} {l : List HA} {s : Sl} {vs : List Value} {i : Nat} {v : Value} {k : Pr} (h : St F0 w0 w (SlA 1 s vs :: l)) (hi : i < vs.length) (hv : NotAgg v)
   (hk : ∀ w', St F0 w0 w' (SlA 1 s (vs.set i v) :: l) → k w') : (deref s.a fun a => Eng.st (a.add (i * 1)) v k) w := by
 obtain ⟨ad, ha, hst⟩ := h.put hi hv hk
 rw [ha, deref_some', Nat.mul_one]
 exact hst
end Go.Eng
namespace Go.Eng
theorem St.mkSi {F0 : Nat → Prop} {w0 w : World} {l : List HA} {E b k : Nat} {z : List Value} {N : Int} {f : Sl → Pr} (n : Nat) (h : St F0 w0 w l) (hN : N = (n : Int)) (hz : z.length = k) (hb : b * n ≤ 2 ^ 48) (hn : n ≤ 2 ^ 48)
   (hk : ∀ r w', St F0 w0 w' (SlA k r (zc z n) :: l) → r.len = n → f r w') : Eng.mkS E b z N N f w := by
 subst hN
 exact h.mkS hz hb hn hk
end Go.Eng

namespace Go.Eng
structure KT (K : Type) [DecidableEq K] where
 kd : TypeDesc
 enc : K → Value
 same : ∀ a b, Instr.sameNow kd (enc a) (enc b) = some (decide (a = b))
 bits : ∀ a, Instr.sameBits 10000 (enc a) (enc a) = true
def intKT : KT Int where
 kd := .int .i64
 enc := .int .i64
 same a b := by
   simp only [Instr.sameNow, if_true, Option.some.injEq]
   rw [Bool.eq_iff_iff]; simp
 bits a := by simp [Instr.sameBits]
section
variable {K : Type} [DecidableEq K] (T : KT K)
structure Ents (es : Array MapEntry) (clock : Nat) (kv : List (K × Value)) : Prop where
 born : ∀ e ∈ es.toList, e.born < clock
 nod : (es.toList.map (·.born)).Nodup
 kvs : es.toList.map (fun e => (e.key, e.val)) = kv.map fun x => (T.enc x.1, x.2)
def MapA (m : Nat) (kv : List (K × Value)) : HA := exA fun i : Array MapEntry × Nat => [pA (Ents T i.1 i.2 kv), ObjA m (.map i.1 i.2)]
def lkp (k : K) : List (K × Value) → Option Value
 | [] => none
 | x :: l => if k = x.1 then some x.2 else lkp k l
variable {T}
theorem find_kv (k : K) : ∀ (es : List MapEntry) (kv : List (K × Value)) (i : Nat), es.map (fun e => (e.key, e.val)) = kv.map (fun x => (T.enc x.1, x.2)) →
   (k ∉ kv.map (·.1) ∧ lkp k kv = none ∧ Instr.findNow T.kd (T.enc k) es i = some none) ∨
   ∃ j v, kv[j]? = some (k, v) ∧ (∀ l x, l < j → kv[l]? = some x → x.1 ≠ k) ∧ lkp k kv = some v ∧ Instr.findNow T.kd (T.enc k) es i = some (some (i + j, v))
 | [], kv, i, h => by
   have : kv = [] := by
     have := congrArg List.length h
     simp at this
     exact List.eq_nil_of_length_eq_zero this.symm
   subst this
   exact .inl ⟨by simp, rfl, rfl⟩
 | e :: es, [], i, h => by simp at h
 | e :: es, x :: kv, i, h => by
   simp only [List.map_cons, List.cons.injEq, Prod.mk.injEq] at h
   unfold Instr.findNow
   rw [h.1.1, T.same]
   by_cases hk : k = x.1
   · subst hk
     refine .inr ⟨0, x.2, rfl, fun l _ hl => by omega, by simp [lkp], ?_⟩
     simp only [decide_true, Nat.add_zero]
     rw [h.1.2]
   · rw [decide_eq_false hk]
     rcases find_kv k es kv (i + 1) h.2 with ⟨h1, h2, h3⟩ | ⟨j, v, h1, h2, h3, h4⟩
     · exact .inl ⟨by simp [hk]; simpa using h1, by simp [lkp, hk, h2], h3⟩
     · refine .inr ⟨j + 1, v, by simpa using h1, fun l y hl hy => ?_, by simp [lkp, hk, h3], by dsimp only; rw [h4]; congr 3; omega⟩
       cases l with
       | zero => simp only [List.getElem?_cons_zero, Option.some.injEq] at hy; subst hy; exact fun h => hk h.symm
       | succ l => exact h2 l y (by omega) (by simpa using hy)
variable {F0 : Nat → Prop} {w0 w : World} {L : List HA} {m : Nat} {kv : List (K × Value)}
theorem St.mapOpen (h : St F0 w0 w (MapA T m kv :: L)) : ∃ es clock, Ents T es clock kv ∧ St F0 w0 w (ObjA m (.map es clock) :: L) := by
 obtain ⟨i, h⟩ := h.ex
 obtain ⟨h1, h⟩ := h.p
 exact ⟨i.1, i.2, h1, h⟩
theorem St.mapClose {es : Array MapEntry} {clock : Nat} (h : St F0 w0 w (ObjA m (.map es clock) :: L)) (he : Ents T es clock kv) : St F0 w0 w (MapA T m kv :: L) :=
 St.mkex (es, clock) (h.mkp he)
theorem St.newMap {f : Nat → Pr} (h : St F0 w0 w L) (hk : ∀ m w', St F0 w0 w' (MapA T m [] :: L) → f m w') : Eng.nw (.map #[] 0) f w := by
 rw [nw_def]
 exact hk _ _ ((h.mkobj (Obj.map #[] 0)).mapClose ⟨by simp, by simp, rfl⟩)
theorem mapAt_of {es : Array MapEntry} {clock : Nat} (he : Ents T es clock kv) (hm : w.heap[m]? = some (.map es clock)) {k : K} {sh : CS} {zero : Value} {f : PayC sh → Bool → Pr}
   (h1 : ∀ v, lkp k kv = some v → ∃ p, v = valC sh p ∧ f p true w) (h2 : lkp k kv = none → ∃ p, zero = valC sh p ∧ f p false w) : mapAt T.kd (some m) (T.enc k) sh zero f w := by
 rcases find_kv k es.toList kv 0 he.kvs with ⟨_, g2, g3⟩ | ⟨j, v, _, _, g3, g4⟩
 · obtain ⟨p, hp, hf⟩ := h2 g2
   exact ⟨es, none, p, ⟨clock, hm⟩, g3, hp, hf⟩
 · obtain ⟨p, hp, hf⟩ := h1 v g3
   exact ⟨es, some (0 + j, v), p, ⟨clock, hm⟩, g4, hp, hf⟩
theorem St.mapAt (h : St F0 w0 w (MapA T m kv :: L)) {k : K} {sh : CS} {zero : Value} {f : PayC sh → Bool → Pr}
   (h1 : ∀ v, lkp k kv = some v → ∃ p, v = valC sh p ∧ f p true w) (h2 : lkp k kv = none → ∃ p, zero = valC sh p ∧ f p false w) : Eng.mapAt T.kd (some m) (T.enc k) sh zero f w := by
 obtain ⟨es, clock, he, h⟩ := h.mapOpen
 exact mapAt_of he h.obj h1 h2
theorem Ents.len {es : Array MapEntry} {clock : Nat} (he : Ents T es clock kv) : es.size = kv.length := by
 have := congrArg List.length he.kvs
 simpa using this
theorem St.mapLen (h : St F0 w0 w (MapA T m kv :: L)) {f : Int → Pr} (h1 : f kv.length w) : Eng.mapLen (some m) f w := by
 obtain ⟨es, clock, he, h⟩ := h.mapOpen
 exact ⟨es, ⟨clock, h.obj⟩, by rw [he.len]; exact h1⟩
theorem eraseIdx_map {α β : Type} (f : α → β) (l : List α) (j : Nat) : (l.eraseIdx j).map f = (l.map f).eraseIdx j := by
 rw [List.eraseIdx_eq_take_drop_succ, List.eraseIdx_eq_take_drop_succ, List.map_append, List.map_take, List.map_drop]
theorem St.mapDel (h : St F0 w0 w (MapA T m kv :: L)) {k : K} {f : Pr} (h1 : ∀ j v w', kv[j]? = some (k, v) → (∀ l x, l < j → kv[l]? = some x → x.1 ≠ k) → St F0 w0 w' (MapA T m (kv.eraseIdx j) :: L) → f w')
   (h2 : k ∉ kv.map (·.1) → ∀ w', St F0 w0 w' (MapA T m kv :: L) → f w') : Eng.mapDel T.kd (some m) (T.enc k) f w := by
 obtain ⟨es, clock, he, h⟩ := h.mapOpen
 rcases find_kv k es.toList kv 0 he.kvs with ⟨g1, _, g3⟩ | ⟨j, v, g1, g2, _, g4⟩
 · exact ⟨m, es, clock, none, rfl, h.obj, g3, h2 g1 _ ((h.putObj (.map es clock)).mapClose he)⟩
 · refine ⟨m, es, clock, some (0 + j, v), rfl, h.obj, g4, h1 j v _ g1 g2 ((h.putObj (.map (es.eraseIdxIfInBounds (0 + j)) clock)).mapClose ?_)⟩
   have hl : (es.eraseIdxIfInBounds (0 + j)).toList = es.toList.eraseIdx j := by rw [Nat.zero_add, Array.toList_eraseIdxIfInBounds]
   refine ⟨fun e he' => ?_, ?_, ?_⟩
   · rw [hl] at he'
     exact he.born e (List.mem_of_mem_eraseIdx he')
   · rw [hl, eraseIdx_map]
     exact he.nod.sublist (List.eraseIdx_sublist _ _)
   · rw [hl, eraseIdx_map, he.kvs, eraseIdx_map]
theorem St.mapPut (h : St F0 w0 w (MapA T m kv :: L)) {k : K} {v : Value} {f : Pr} (h1 : ∀ j u w', kv[j]? = some (k, u) → (∀ l x, l < j → kv[l]? = some x → x.1 ≠ k) → St F0 w0 w' (MapA T m (kv.set j (k, v)) :: L) → f w')
   (h2 : k ∉ kv.map (·.1) → ∀ w', St F0 w0 w' (MapA T m (kv ++ [(k, v)]) :: L) → f w') : Eng.mapPut T.kd (some m) (T.enc k) v f w := by
 obtain ⟨es, clock, he, h⟩ := h.mapOpen
 rcases find_kv k es.toList kv 0 he.kvs with ⟨g1, _, g3⟩ | ⟨j, u, g1, g2, _, g4⟩
 · refine ⟨m, es, clock, none, rfl, h.obj, g3, h2 g1 _ ((h.putObj (.map (es.push { key := T.enc k, val := v, born := clock }) (clock + 1))).mapClose ⟨?_, ?_, ?_⟩)⟩
   · intro e he'
     rw [Array.toList_push] at he'
     rcases List.mem_append.1 he' with h' | h'
     · have := he.born e h'; omega
     · rw [List.mem_singleton] at h'; subst h'; exact Nat.lt_succ_self _
   · rw [Array.toList_push, List.map_append, List.nodup_append]
     refine ⟨he.nod, by simp, fun a ha b hb => ?_⟩
     obtain ⟨e, he', rfl⟩ := List.mem_map.1 ha
     have := he.born e he'
     simp at hb
     omega
   · rw [Array.toList_push, List.map_append, he.kvs, List.map_append]; rfl
 · have hjl : j < es.toList.length := by
     have h1 := congrArg List.length he.kvs
     have h2 := (split_at g1).2
     simp at h1 h2 ⊢; omega
   have hej : es[0 + j]? = some es.toList[j] := by rw [Nat.zero_add]; simp at hjl ⊢
   have hkj : es.toList[j].key = T.enc k := by
     have h3 := congrArg (·[j]?) he.kvs
     simp only [List.getElem?_map, g1, Option.map_some, List.getElem?_eq_getElem hjl, Option.some.injEq, Prod.mk.injEq] at h3
     exact h3.1
   refine ⟨m, es, clock, some (0 + j, u), rfl, h.obj, g4, ?_, h1 j u _ g1 g2 ((h.putObj (.map (es.modify (0 + j) fun e => { e with key := T.enc k, val := v }) clock)).mapClose ?_)⟩
   · rw [hej]
     simp only [Option.map_some, Option.getD_some, hkj]
     exact T.bits k
   · have hl : ∀ {β : Type} (f : MapEntry → β) (b : β), f { es.toList[j] with key := T.enc k, val := v } = b → (es.modify (0 + j) fun e => { e with key := T.enc k, val := v }).toList.map f = (es.toList.map f).set j b := by
       intro β f b hb
       refine List.ext_getElem? fun i => ?_
       rw [Nat.zero_add, List.getElem?_set, List.getElem?_map, Array.getElem?_toList, Array.getElem?_modify]
       by_cases hij : j = i
       · subst hij
         rw [if_pos rfl, if_pos rfl, if_pos (by simpa using hjl)]
         have : es[j]? = some es.toList[j] := by simp
         rw [this]
         simp only [Option.map_some, Option.some.injEq]
         exact hb
       · rw [if_neg hij, if_neg hij, List.getElem?_map, Array.getElem?_toList]
     refine ⟨fun e he' => ?_, ?_, ?_⟩
     · have h4 : e.born ∈ ((es.modify (0 + j) fun e => { e with key := T.enc k, val := v }).toList.map (·.born)) := List.mem_map.2 ⟨e, he', rfl⟩
       rw [hl (·.born) es.toList[j].born rfl] at h4
       rcases List.mem_or_eq_of_mem_set h4 with h5 | h5
       · obtain ⟨e2, h6, h7⟩ := List.mem_map.1 h5
         have := he.born e2 h6; omega
       · have := he.born _ (List.getElem_mem hjl); omega
     · rw [hl (·.born) es.toList[j].born rfl]
       have : (es.toList.map (·.born)).set j es.toList[j].born = es.toList.map (·.born) := by
         refine List.ext_getElem? fun i => ?_
         rw [List.getElem?_set]
         by_cases hij : j = i
         · subst hij
           rw [if_pos rfl, if_pos (by simpa using hjl), List.getElem?_map, List.getElem?_eq_getElem hjl]; rfl
         · rw [if_neg hij]
       rw [this]
       exact he.nod
     · rw [hl (fun e => (e.key, e.val)) (T.enc k, v) rfl, he.kvs, List.map_set]
def seenOf (es : Array MapEntry) (done : List Nat) : List Nat := done.map fun j => ((es[j]?).map (·.born)).getD 0
variable (T) in
def MapItA (m it : Nat) (kv : List (K × Value)) (done : List Nat) : HA :=
 exA fun i : Array MapEntry × Nat × Array Nat => [pA (Ents T i.1 i.2.1 kv ∧ i.2.2.toList = seenOf i.1 done ∧ (∀ j ∈ done, j < kv.length) ∧ done.Nodup), ObjA m (.map i.1 i.2.1), ObjA it (.mapIter (some m) i.2.1 i.2.2 i.2.1)]
def itSeen (it : Nat) (w : World) : Nat :=
 match w.heap[it]? with
 | some (.mapIter _ _ seen _) => seen.size
 | _ => 0
theorem St.itOpen {it : Nat} {done : List Nat} (h : St F0 w0 w (MapItA T m it kv done :: L)) :
   ∃ es clock seen, Ents T es clock kv ∧ seen.toList = seenOf es done ∧ (∀ j ∈ done, j < kv.length) ∧ done.Nodup ∧ St F0 w0 w (ObjA m (.map es clock) :: ObjA it (.mapIter (some m) clock seen clock) :: L) := by
 obtain ⟨i, h⟩ := h.ex
 obtain ⟨⟨h1, h2, h3, h4⟩, h⟩ := h.p
 exact ⟨_, _, _, h1, h2, h3, h4, h⟩
theorem St.itSeen {it : Nat} {done : List Nat} (h : St F0 w0 w (MapItA T m it kv done :: L)) : Eng.itSeen it w = done.length := by
 obtain ⟨es, clock, seen, _, h2, _, _, h⟩ := h.itOpen
 unfold Eng.itSeen
 rw [(h.bring 1).obj]
 have := congrArg List.length h2
 simpa [seenOf] using this
theorem St.itMap {it : Nat} {done : List Nat} (h : St F0 w0 w (MapItA T m it kv done :: L)) : St F0 w0 w (MapA T m kv :: L) := by
 obtain ⟨es, clock, seen, h1, h2, _, _, h⟩ := h.itOpen
 exact (h.del 1).mapClose h1
theorem St.mrange (h : St F0 w0 w (MapA T m kv :: L)) {k : Nat → Pr} (hk : ∀ it w', St F0 w0 w' (MapItA T m it kv [] :: L) → k it w') : Eng.mrange (some m) k w := by
 obtain ⟨es, clock, he, h⟩ := h.mapOpen
 refine ⟨es, clock, h.obj, hk _ _ ?_⟩
 have h2 := h.mkobj (.mapIter (some m) clock #[] clock)
 exact St.mkex (f := fun i : Array MapEntry × Nat × Array Nat => [pA (Ents T i.1 i.2.1 kv ∧ i.2.2.toList = seenOf i.1 [] ∧ (∀ j ∈ ([] : List Nat), j < kv.length) ∧ ([] : List Nat).Nodup), ObjA m (.map i.1 i.2.1), ObjA _ (.mapIter (some m) i.2.1 i.2.2 i.2.1)]) (es, clock, #[]) ((h2.bring 1).mkp ⟨he, rfl, by simp, by simp⟩)
theorem seen_mem {es : Array MapEntry} {clock : Nat} (he : Ents T es clock kv) {done : List Nat} (hd : ∀ j ∈ done, j < kv.length) {i : Nat} (hi : i < kv.length) {e : MapEntry} (hie : es.toList[i]? = some e) : e.born ∈ seenOf es done ↔ i ∈ done := by
 have hsz := he.len
 unfold seenOf
 rw [List.mem_map]
 constructor
 · rintro ⟨j, hj, hb⟩
   have hjl := hd j hj
   have hjl3 : j < es.size := by omega
   have hj2 : es[j]? = some es[j] := by simp
   rw [hj2] at hb
   simp only [Option.map_some, Option.getD_some] at hb
   have h1 : (es.toList.map (·.born))[j]? = some e.born := by rw [List.getElem?_map, Array.getElem?_toList, hj2]; simp [hb]
   have h2 : (es.toList.map (·.born))[i]? = some e.born := by rw [List.getElem?_map, hie]; rfl
   have := (List.getElem?_inj (by simpa using (show j < es.size by omega)) he.nod).1 (h1.trans h2.symm)
   subst this
   exact hj
 · intro h
   refine ⟨i, h, ?_⟩
   have : es[i]? = some e := by rw [← Array.getElem?_toList]; exact hie
   rw [this]; rfl
theorem nodup_full : ∀ {n : Nat} {l : List Nat}, l.Nodup → (∀ j ∈ l, j < n) → (∀ j, j < n → j ∈ l) → l.Perm (List.range n) := by
 intro n l h1 h2 h3
 refine (List.perm_ext_iff_of_nodup h1 List.nodup_range).2 fun j => ?_
 rw [List.mem_range]
 exact ⟨h2 j, h3 j⟩
theorem St.mnext {it : Nat} {done : List Nat} {k0 : Pr} {k1 : MapEntry → Pr} (h : St F0 w0 w (MapItA T m it kv done :: L)) (h0 : done.Perm (List.range kv.length) → ∀ w', St F0 w0 w' (MapItA T m it kv done :: L) → k0 w')
   (h1 : ∀ i en w', i < kv.length → i ∉ done → St F0 w0 w' (MapItA T m it kv (done ++ [i]) :: L) → k1 en w') : Eng.mnext ⟨it, 0, none⟩ k0 k1 w := by
 obtain ⟨es, clock, seen, he, hs, hd, hn, st⟩ := h.itOpen
 have hsz := he.len
 refine ⟨rfl, .inr ⟨m, clock, seen, clock, es, clock, (st.bring 1).obj, st.obj, ?_, fun w1 hw1 => ?_⟩⟩
 · cases hes : es.toList with
   | nil =>
     have : es = #[] := by apply Array.ext'; simpa using hes
     simp [this]
   | cons e l =>
     have h1 := he.born e (by rw [hes]; simp)
     have : es.all (fun x => decide (x.born ≥ clock)) = false := by
       rw [← Array.all_toList, hes, List.all_cons, decide_eq_false (by omega), Bool.false_and]
     rw [this, Bool.and_false]
 have st1 : St F0 w0 w1 (ObjA m (.map es clock) :: ObjA it (.mapIter (some m) clock seen clock) :: L) := by rcases hw1 with rfl | rfl; exact st; exact st.drew
 refine ⟨fun hall => h0 ?_ w1 ?_, fun e hes hns => ?_⟩
 · refine nodup_full hn hd fun j hj => ?_
   have hjl3 : j < es.toList.length := by rw [Array.length_toList]; omega
   have hj2 : es.toList[j]? = some es.toList[j] := by simp
   refine (seen_mem he hd hj hj2).1 ?_
   have := hall es.toList[j] (by simp) (he.born _ (by simp))
   rw [← hs, Array.mem_toList_iff, ← Array.contains_iff_mem]
   exact this
 · exact St.mkex (es, clock, seen) (st1.mkp ⟨he, hs, hd, hn⟩)
 · obtain ⟨i, hi, hie⟩ := List.getElem_of_mem hes
   have hie2 : es.toList[i]? = some e := by rw [List.getElem?_eq_getElem hi, hie]
   have hil : i < kv.length := by simpa [hsz] using hi
   have hnd : i ∉ done := fun hc => by
     have h3 := (seen_mem he hd hil hie2).2 hc
     rw [← hs, Array.mem_toList_iff, ← Array.contains_iff_mem, hns] at h3
     cases h3
   refine h1 i e _ hil hnd ?_
   have st2 := ((st1.bring 1).putObj (.mapIter (some m) clock (seen.push e.born) clock)).bring 1
   refine St.mkex (es, clock, seen.push e.born) (st2.mkp ⟨he, ?_, ?_, ?_⟩)
   · rw [Array.toList_push, hs]
     unfold seenOf
     rw [List.map_append]
     have : es[i]? = some e := by rw [← Array.getElem?_toList]; exact hie2
     simp [this]
   · intro j hj
     rcases List.mem_append.1 hj with h4 | h4
     · exact hd j h4
     · rw [List.mem_singleton] at h4; subst h4; exact hil
   · rw [List.nodup_append]
     refine ⟨hn, by simp, fun a ha b hb => ?_⟩
     rw [List.mem_singleton] at hb
     subst hb
     exact fun h => hnd (h ▸ ha)
theorem St.mentry {it : Nat} {done : List Nat} {i : Nat} {k : MapEntry → Pr} (h : St F0 w0 w (MapItA T m it kv (done ++ [i]) :: L)) (hk : ∀ en x, kv[i]? = some x → en.key = T.enc x.1 → en.val = x.2 → k en w) : Eng.mentry ⟨it, 0, none⟩ k w := by
 obtain ⟨es, clock, seen, he, hs, hd, hn, st⟩ := h.itOpen
 have hsz := he.len
 have hil : i < kv.length := hd i (by simp)
 have hil2 : i < es.toList.length := by rw [Array.length_toList]; omega
 have hie : es.toList[i]? = some es.toList[i] := by simp
 have hee : es[i]? = some es.toList[i] := by rw [← Array.getElem?_toList]; exact hie
 have hkv : kv[i]? = some kv[i] := by simp
 have hkve := congrArg (·[i]?) he.kvs
 simp only [List.getElem?_map, hkv, hie, Option.map_some, Option.some.injEq, Prod.mk.injEq] at hkve
 refine ⟨rfl, m, clock, seen, clock, es, clock, es.toList[i].born, es.toList[i], (st.bring 1).obj, ?_, st.obj, rfl, ?_, hk _ _ hkv hkve.1 hkve.2⟩
 · have : seen.back? = seen.toList.getLast? := by simp
   rw [this, hs]
   unfold seenOf
   rw [List.map_append]
   simp [hee]
 · rw [← Array.find?_toList]
   refine find_uniq (List.getElem_mem _) (by simp) fun x hx hb => ?_
   obtain ⟨j, hj, hjx⟩ := List.getElem_of_mem hx
   have h1 : (es.toList.map (·.born))[j]? = some es.toList[i].born := by
     rw [List.getElem?_map, List.getElem?_eq_getElem hj, hjx]
     simp at hb
     simp [hb]
   have h2 : (es.toList.map (·.born))[i]? = some es.toList[i].born := by rw [List.getElem?_map, hie]; rfl
   have := (List.getElem?_inj (by simpa using hj) he.nod).1 (h1.trans h2.symm)
   subst this
   rw [← hjx]
where
 find_uniq {α : Type} {p : α → Bool} {e : α} : ∀ {l : List α}, e ∈ l → p e = true → (∀ x ∈ l, p x = true → x = e) → l.find? p = some e
   | [], h, _, _ => by cases h
   | x :: l, h, hp, hu => by
     rw [List.find?_cons]
     cases hx : p x with
     | true => simp [hu x (by simp) hx]
     | false =>
       rcases List.mem_cons.1 h with rfl | h
       · rw [hp] at hx; cases hx
       · exact find_uniq h hp fun y hy => hu y (by simp [hy])
end
end Go.Eng

namespace Go.Eng
theorem wrap_u8m (n : Int) : IntKind.wrap .u8 n = n % 256 := by
 unfold IntKind.wrap
 simp only [IntKind.signed, IntKind.bits]
 rfl
theorem wrap_u32m (n : Int) : IntKind.wrap .u32 n = n % 4294967296 := by
 unfold IntKind.wrap
 simp only [IntKind.signed, IntKind.bits]
 rfl
theorem wrap_u64m (n : Int) : IntKind.wrap .u64 n = n % 18446744073709551616 := by
 unfold IntKind.wrap
 simp only [IntKind.signed, IntKind.bits]
 rfl
theorem bShr_nat (k : IntKind) (x y : Nat) : bShr k (x : Int) (y : Int) = ((x / 2 ^ (min y k.bits) : Nat) : Int) := by
 unfold bShr
 rw [Int.toNat_natCast, show ((2 : Int) ^ min y k.bits) = ((2 ^ min y k.bits : Nat) : Int) by simp, Int.ofNat_fdiv]
theorem ofInt_toNat (b : Nat) (x : Nat) : (BitVec.ofInt b (x : Int)).toNat = x % 2 ^ b := by
 rw [BitVec.ofInt_natCast, BitVec.toNat_ofNat]
theorem bOr_u64 {x y : Nat} (hx : x < 2 ^ 64) (hy : y < 2 ^ 64) : bOr .u64 (x : Int) (y : Int) = ((x ||| y : Nat) : Int) := by
 unfold bOr
 rw [wrap_u64m, BitVec.toNat_or]
 simp only [IntKind.bits, ofInt_toNat]
 rw [Nat.mod_eq_of_lt hx, Nat.mod_eq_of_lt hy]
 have := Nat.or_lt_two_pow hx hy
 omega
theorem bXor_u32 {x y : Nat} (hx : x < 2 ^ 32) (hy : y < 2 ^ 32) : bXor .u32 (x : Int) (y : Int) = ((x ^^^ y : Nat) : Int) := by
 unfold bXor
 rw [wrap_u32m, BitVec.toNat_xor]
 simp only [IntKind.bits, ofInt_toNat]
 rw [Nat.mod_eq_of_lt hx, Nat.mod_eq_of_lt hy]
 have := Nat.xor_lt_two_pow hx hy
 omega
theorem bAnd_u32 {x y : Nat} (hx : x < 2 ^ 32) (hy : y < 2 ^ 32) : bAnd .u32 (x : Int) (y : Int) = ((x &&& y : Nat) : Int) := by
 unfold bAnd
 rw [wrap_u32m, BitVec.toNat_and]
 simp only [IntKind.bits, ofInt_toNat]
 rw [Nat.mod_eq_of_lt hx, Nat.mod_eq_of_lt hy]
 have : x &&& y ≤ x := Nat.and_le_left
 omega
theorem bShl_u64 {x y : Nat} (hy : y ≤ 64) (h : x * 2 ^ y < 2 ^ 64) : bShl .u64 (x : Int) (y : Int) = ((x * 2 ^ y : Nat) : Int) := by
 unfold bShl
 rw [Int.toNat_natCast, wrap_u64m]
 simp only [IntKind.bits]
 rw [Nat.min_eq_left hy]
 have : ((x : Int) * 2 ^ y) = ((x * 2 ^ y : Nat) : Int) := by simp
 rw [this]
 omega
theorem or_add {x y i : Nat} (h : x < 2 ^ i) : x ||| (y * 2 ^ i) = x + y * 2 ^ i := by
 have := Nat.two_pow_add_eq_or_of_lt h y
 rw [Nat.or_comm, Nat.mul_comm, ← this, Nat.add_comm]
theorem ub_ofNat (n : Nat) : ub (UInt8.ofNat n) = .int .u8 ((n % 256 : Nat) : Int) := by
 unfold ub
 simp
theorem and_1 (n : Nat) : n &&& 1 = n % 2 := Nat.and_two_pow_sub_one_eq_mod n 1
end Go.Eng


namespace Go.Eng
abbrev bA (r i : Nat) : Addr := Addr.add ⟨r, 0, none⟩ i
abbrev slV (s : Sl) : Value := .slice s.a s.len s.cap
abbrev ldI (a : Addr) (f : Int → Pr) : Pr := ldC (.int .i64) a f
abbrev ldU (a : Addr) (f : Int → Pr) : Pr := ldC (.int .u8) a f
abbrev ldS (a : Addr) (f : Sl → Pr) : Pr := ldC .slice a f
abbrev ldB (a : Addr) (f : Bool → Pr) : Pr := ldC .bool a f
abbrev ldP (a : Addr) (f : Option Addr → Pr) : Pr := ldC .ptr a f
abbrev ldM (a : Addr) (f : Option Nat → Pr) : Pr := ldC .map a f
abbrev I64 : CS := .int .i64
abbrev iv (n : Int) : Value := .int .i64 n
abbrev uv (n : Int) : Value := .int .u8 n
def w64 (n : Int) : Int := IntKind.wrap .i64 n
def wU64 (n : Int) : Int := IntKind.wrap .u64 n
def wU8 (n : Int) : Int := IntKind.wrap .u8 n
def stB (r : Nat) : Nat → List Value → Pr → Pr
 | _, [], k => k
 | i, v :: l, k => st (bA r i) v <| stB r (i + 1) l k
def nvs (T : TypeId) (z vs : List Value) (k : Nat → Pr) : Pr := nw (.cells z.toArray T) fun r => stB r 0 vs (k r)
def el (s : Sl) (i : Int) (n : Nat) (k : Addr → Pr) : Pr := owe ((0 : Int) ≤ i ∧ i < (s.len : Int)) <| deref s.a fun a => k (a.add (Int.toNat i * n))
section
variable {P : Program} {f : FuncId} {fn : Func} {an : An} {args : List Value} {shs : List Sh} {w : World}
theorem cF {Q : PayL shs → Pr} {F : Pr} (hf : P.funcs[f]? = some fn) (e : compileFn P fn an args shs Q = F) (h : F w) : Calls P f args.toArray w (RetT shs Q) := callsIn_of_compile hf (by rw [e]; exact h)
end
end Go.Eng

namespace Go.Eng
structure MS {α : Type} (g : α → Value) (w : World) (s : Sl) (l : List α) : Prop where
 len : s.len = l.length
 row : readsO w s.a (l.map g)
section
variable {α : Type} {g : α → Value} {w w' : World} {s : Sl} {l : List α}
theorem MS.grow (h : MS g w s l) (hm : Grow w w') : MS g w' s l := ⟨h.len, h.row.grow hm⟩
theorem MS.mod {S : Nat → Prop} (h : MS g w s l) (hm : Mod S w w') (hs : ∀ ad, s.a = some ad → l ≠ [] → ¬ S ad.block) : MS g w' s l :=
 ⟨h.len, h.row.mod hm fun ad ha hl => hs ad ha fun h0 => by subst h0; simp at hl⟩
theorem MS.nil (g : α → Value) (w : World) (c : Nat) : MS g w ⟨none, 0, c⟩ [] := ⟨rfl, rfl⟩
theorem MS.none_len (h : MS g w s l) (ha : s.a = none) : s.len = 0 := by
 have h2 := h.row
 rw [ha] at h2
 have : l.map g = [] := h2
 simp at this
 rw [h.len, this]; rfl
theorem MS.at {c : CS} {p : PayC c} (h : MS g w s l) {i : Nat} {k : PayC c → Pr} {x : α} (hi : l[i]? = some x) (hx : g x = valC c p) (hk : k p w) : (deref s.a fun a => ldC c (a.add (i * 1)) k) w := by
 have h1 := h.row
 cases ha : s.a with
 | none => rw [ha] at h1; have : l.map g = [] := h1; simp at this; subst this; simp at hi
 | some ad =>
   rw [ha] at h1
   rw [deref_some', Nat.mul_one]
   exact ldC_of ((readsAt_row.1 h1).get (by simp [hi, hx])) hk
theorem OwnS.ms {n0 : Nat} (h : OwnS w n0 1 s (l.map g)) : MS g w s l := ⟨by have := h.len; simp at this; exact this.symm, h.reads⟩
theorem BS.ms {l : List UInt8} (h : BS w s l) : MS ub w s l := ⟨h.len, h.row⟩
theorem MS.bs {l : List UInt8} (h : MS ub w s l) : BS w s l := ⟨h.len, h.row⟩
theorem MS.sub (h : MS g w s l) {o n : Nat} (ho : o + n ≤ l.length) {a : Option Addr} {c : Nat} (ha : a = s.a.map (·.add (o * 1)) ∨ n = 0) (hz : n = 0 → a = none ∨ a.isSome) : MS g w ⟨a, n, c⟩ ((l.drop o).take n) := by
 refine ⟨by simp; omega, ?_⟩
 rcases Nat.eq_zero_or_pos n with h0 | h0
 · subst h0
   simp only [List.take_zero, List.map_nil]
   cases a with
   | none => rfl
   | some _ => trivial
 · have ha := ha.resolve_right (by omega)
   have h1 := h.row
   cases hs : s.a with
   | none => rw [hs] at h1; have : l.map g = [] := h1; simp at this; subst this; simp at ho; omega
   | some ad =>
     rw [hs] at h1 ha
     rw [ha]
     refine readsAt_row.2 fun j v hj => ?_
     have h2 := readsAt_row.1 h1 (o + j) v ?_
     · rw [Nat.mul_one]; rw [add_add]; exact h2
     · rw [List.getElem?_map] at hj ⊢
       rw [List.getElem?_take, List.getElem?_drop] at hj
       split at hj
       · exact hj
       · simp at hj
end
theorem slA_len1 {w : World} {n0 : Nat} {s : Sl} {vs : List Value} (h : OwnS w n0 1 s vs) : s.len = vs.length := by have := h.len; omega
structure VS (n : Nat) (w : World) (s : Sl) (vs : List Value) : Prop where
 len : vs.length = s.len * n
 row : readsO w s.a vs
theorem VS.grow {n : Nat} {w w' : World} {s : Sl} {vs : List Value} (h : VS n w s vs) (hm : Grow w w') : VS n w' s vs := ⟨h.len, h.row.grow hm⟩
theorem MS.vs {α : Type} {g : α → Value} {w : World} {s : Sl} {l : List α} (h : MS g w s l) : VS 1 w s (l.map g) := ⟨by simp [h.len], h.row⟩
theorem OwnS.vs {w : World} {n0 n : Nat} {s : Sl} {vs : List Value} (h : OwnS w n0 n s vs) : VS n w s vs := ⟨h.len, h.reads⟩
theorem SS.vs {α : Type} {f : α → List Value} {n : Nat} (hf : ∀ r, (f r).length = n) {w : World} {s : Sl} {rs : List α} (h : SS f w s rs) : VS n w s (rs.flatMap f) := ⟨by rw [flatMap_len hf, h.len], h.row⟩
end Go.Eng

set_option maxRecDepth 100000
namespace Go.Proofs
open Go.Eng
def an126 : An := (.sq .z (.sq (.sq .z (.br (.sq .z .z) .z)) (.sq .z (.sq (.sq (.jn [(25, .c .bool)] .z) (.br (.sq .z .z) .z)) (.sq .z .z)))))
def F126 (p0 : Sl) (p1 : Int) (Q : (Int × Int × Int × Sl × Int) × Int → Pr) : Pr :=
 nw (.cells #[(iv 0), (iv 0), (iv 0), (.slice none 0 0), (iv 0)] 109) fun r =>
 callF Tryz.prog 178 [(iv p1)] [.c .bool] fun (t10 : Bool) =>
 br (!t10) (
 stB r 0 [(iv 0), (iv 0), (iv 0), (.slice none 0 0), (iv 0)] <|
 ldA [I64, I64, I64, .slice, I64] (bA r 0) fun (res : Int × Int × Int × Sl × Int) =>
 Q (res, 1)) (
 callF Tryz.prog 179 [(slV p0)] [.agg [I64, I64, I64, .slice, I64], .c I64, .c I64] fun (t15 : (Int × Int × Int × Sl × Int) × Int × Int) =>
 nvs 109 [(iv 0), (iv 0), (iv 0), (.slice none 0 0), (iv 0)] [(iv t15.1.1), (iv t15.1.2.1), (iv t15.1.2.2.1), (slV t15.1.2.2.2.1), (iv t15.1.2.2.2.2)] fun r_1 =>
 jn (S:=Bool) (fun R =>
 br (t15.2.2 == 0) (
 R ((t15.2.1 != p1))) (
 R false)) fun s =>
 br s (
 stB r 0 [(iv 0), (iv 0), (iv 0), (.slice none 0 0), (iv 0)] <|
 ldA [I64, I64, I64, .slice, I64] (bA r 0) fun (res_1 : Int × Int × Int × Sl × Int) =>
 Q (res_1, 61)) (
 ldA [I64, I64, I64, .slice, I64] (bA r_1 0) fun (t27 : Int × Int × Int × Sl × Int) =>
 stB r 0 [(iv t27.1), (iv t27.2.1), (iv t27.2.2.1), (slV t27.2.2.2.1), (iv t27.2.2.2.2)] <|
 ldA [I64, I64, I64, .slice, I64] (bA r 0) fun (res_2 : Int × Int × Int × Sl × Int) =>
 Q (res_2, t15.2.2)))
theorem F126_calls (p0 : Sl) (p1 : Int) (Q : (Int × Int × Int × Sl × Int) × Int → Pr) (w : World) (h : F126 p0 p1 Q w) : Calls Tryz.prog 126 #[(slV p0), (iv p1)] w (RetT [.agg [I64, I64, I64, .slice, I64], .c I64] Q) := cF (an := an126) Tryz.func126 (by kernel_rfl) h
def an178 : An := (.sq .z (.sq .z .z))
def F178 (p0 : Int) (Q : Bool → Pr) : Pr :=
 br (decide (p0 ≥ 0)) (
 Q ((decide (p0 ≤ 2305843009213693952)))) (
 Q false)
theorem F178_calls (p0 : Int) (Q : Bool → Pr) (w : World) (h : F178 p0 Q w) : Calls Tryz.prog 178 #[(iv p0)] w (RetT [.c .bool] Q) := cF (an := an178) Tryz.func178 (by kernel_rfl) h
def an179 : An := (.sq .z (.sq (.sq (.jn [(18, .c .bool)] .z) (.br (.sq .z .z) .z)) (.sq (.jn [(5, .c .ptr), (6, .c (.int .i64))] (.rj [⟨false, [2, 6, 10, 11], [2, 3, 6, 7, 8, 10, 11], [(5, .c .ptr), (28, .agg [(.int .i64), (.int .i64), (.int .i64), .slice, (.int .i64)]), (30, .c (.int .i64))]⟩])) (.sq (.jn [] (.sq .z (.sq .z (.bl (.sq .z (.br .z .z)))))) (.sq (.sq .z (.sq (.jn [(68, .c .bool)] .z) (.br (.sq .z .z) .z))) (.sq .z .z))))))
def F179 (p0 : Sl) (Q : (Int × Int × Int × Sl × Int) × Int × Int → Pr) : Pr :=
 nw (.cells #[(iv 0), (iv 0), (iv 0), (.slice none 0 0), (iv 0)] 109) fun r =>
 jn (S:=Bool) (fun R =>
 br ((p0.len : Int) != 64) (
 R true) (
 el p0 1 1 fun a =>
 ldU a fun t16 =>
 R ((decide (t16 > 44))))) fun s =>
 br s (
 stB r 0 [(iv 0), (iv 0), (iv 0), (.slice none 0 0), (iv 0)] <|
 ldA [I64, I64, I64, .slice, I64] (bA r 0) fun (res : Int × Int × Int × Sl × Int) =>
 Q (res, 0, 61)) (
 jn (S:=(Option Addr) × Int) (fun R_1 =>
 drw <|
 el p0 0 1 fun a_4 =>
 el p0 14 1 fun a_5 =>
 jn (S:=(Option Addr) × (Int × Int × Int × Sl × Int) × Int) (fun R_2 =>
 both (
 ldU a_4 fun t22 =>
 both (
 ldU a_5 fun t26 =>
 both (
 callF Tryz.prog 210 [(slV p0), (iv 2), (iv 8)] [.c I64] fun (t30 : Int) =>
 nw (.cells #[(iv 0), (iv 0), (iv 0), (.slice none 0 0), (iv 0)] 109) fun r_1 =>
 R_2 ((some ⟨r_1, 0, none⟩), ((w64 t22), 0, (w64 t26), ⟨none, 0, 0⟩, 0), t30)) (
 nw (.cells #[(iv 0), (iv 0), (iv 0), (.slice none 0 0), (iv 0)] 109) fun r_2 =>
 callF Tryz.prog 210 [(slV p0), (iv 2), (iv 8)] [.c I64] fun (t30_1 : Int) =>
 R_2 ((some ⟨r_2, 0, none⟩), ((w64 t22), 0, (w64 t26), ⟨none, 0, 0⟩, 0), t30_1))) (
 both (
 callF Tryz.prog 210 [(slV p0), (iv 2), (iv 8)] [.c I64] fun (t30_2 : Int) =>
 ldU a_5 fun t26_1 =>
 nw (.cells #[(iv 0), (iv 0), (iv 0), (.slice none 0 0), (iv 0)] 109) fun r_3 =>
 R_2 ((some ⟨r_3, 0, none⟩), ((w64 t22), 0, (w64 t26_1), ⟨none, 0, 0⟩, 0), t30_2)) (
 nw (.cells #[(iv 0), (iv 0), (iv 0), (.slice none 0 0), (iv 0)] 109) fun r_4 =>
 both (
 ldU a_5 fun t26_2 =>
 callF Tryz.prog 210 [(slV p0), (iv 2), (iv 8)] [.c I64] fun (t30_3 : Int) =>
 R_2 ((some ⟨r_4, 0, none⟩), ((w64 t22), 0, (w64 t26_2), ⟨none, 0, 0⟩, 0), t30_3)) (
 callF Tryz.prog 210 [(slV p0), (iv 2), (iv 8)] [.c I64] fun (t30_4 : Int) =>
 ldU a_5 fun t26_3 =>
 R_2 ((some ⟨r_4, 0, none⟩), ((w64 t22), 0, (w64 t26_3), ⟨none, 0, 0⟩, 0), t30_4))))) (
 both (
 ldU a_5 fun t26_4 =>
 both (
 ldU a_4 fun t22_1 =>
 both (
 callF Tryz.prog 210 [(slV p0), (iv 2), (iv 8)] [.c I64] fun (t30_5 : Int) =>
 nw (.cells #[(iv 0), (iv 0), (iv 0), (.slice none 0 0), (iv 0)] 109) fun r_5 =>
 R_2 ((some ⟨r_5, 0, none⟩), ((w64 t22_1), 0, (w64 t26_4), ⟨none, 0, 0⟩, 0), t30_5)) (
 nw (.cells #[(iv 0), (iv 0), (iv 0), (.slice none 0 0), (iv 0)] 109) fun r_6 =>
 callF Tryz.prog 210 [(slV p0), (iv 2), (iv 8)] [.c I64] fun (t30_6 : Int) =>
 R_2 ((some ⟨r_6, 0, none⟩), ((w64 t22_1), 0, (w64 t26_4), ⟨none, 0, 0⟩, 0), t30_6))) (
 both (
 callF Tryz.prog 210 [(slV p0), (iv 2), (iv 8)] [.c I64] fun (t30_7 : Int) =>
 ldU a_4 fun t22_2 =>
 nw (.cells #[(iv 0), (iv 0), (iv 0), (.slice none 0 0), (iv 0)] 109) fun r_7 =>
 R_2 ((some ⟨r_7, 0, none⟩), ((w64 t22_2), 0, (w64 t26_4), ⟨none, 0, 0⟩, 0), t30_7)) (
 nw (.cells #[(iv 0), (iv 0), (iv 0), (.slice none 0 0), (iv 0)] 109) fun r_8 =>
 both (
 ldU a_4 fun t22_3 =>
 callF Tryz.prog 210 [(slV p0), (iv 2), (iv 8)] [.c I64] fun (t30_8 : Int) =>
 R_2 ((some ⟨r_8, 0, none⟩), ((w64 t22_3), 0, (w64 t26_4), ⟨none, 0, 0⟩, 0), t30_8)) (
 callF Tryz.prog 210 [(slV p0), (iv 2), (iv 8)] [.c I64] fun (t30_9 : Int) =>
 ldU a_4 fun t22_4 =>
 R_2 ((some ⟨r_8, 0, none⟩), ((w64 t22_4), 0, (w64 t26_4), ⟨none, 0, 0⟩, 0), t30_9))))) (
 both (
 callF Tryz.prog 210 [(slV p0), (iv 2), (iv 8)] [.c I64] fun (t30_10 : Int) =>
 ldU a_4 fun t22_5 =>
 ldU a_5 fun t26_5 =>
 nw (.cells #[(iv 0), (iv 0), (iv 0), (.slice none 0 0), (iv 0)] 109) fun r_9 =>
 R_2 ((some ⟨r_9, 0, none⟩), ((w64 t22_5), 0, (w64 t26_5), ⟨none, 0, 0⟩, 0), t30_10)) (
 nw (.cells #[(iv 0), (iv 0), (iv 0), (.slice none 0 0), (iv 0)] 109) fun r_10 =>
 both (
 ldU a_4 fun t22_6 =>
 both (
 ldU a_5 fun t26_6 =>
 callF Tryz.prog 210 [(slV p0), (iv 2), (iv 8)] [.c I64] fun (t30_11 : Int) =>
 R_2 ((some ⟨r_10, 0, none⟩), ((w64 t22_6), 0, (w64 t26_6), ⟨none, 0, 0⟩, 0), t30_11)) (
 callF Tryz.prog 210 [(slV p0), (iv 2), (iv 8)] [.c I64] fun (t30_12 : Int) =>
 ldU a_5 fun t26_7 =>
 R_2 ((some ⟨r_10, 0, none⟩), ((w64 t22_6), 0, (w64 t26_7), ⟨none, 0, 0⟩, 0), t30_12))) (
 both (
 ldU a_5 fun t26_8 =>
 both (
 ldU a_4 fun t22_7 =>
 callF Tryz.prog 210 [(slV p0), (iv 2), (iv 8)] [.c I64] fun (t30_13 : Int) =>
 R_2 ((some ⟨r_10, 0, none⟩), ((w64 t22_7), 0, (w64 t26_8), ⟨none, 0, 0⟩, 0), t30_13)) (
 callF Tryz.prog 210 [(slV p0), (iv 2), (iv 8)] [.c I64] fun (t30_14 : Int) =>
 ldU a_4 fun t22_8 =>
 R_2 ((some ⟨r_10, 0, none⟩), ((w64 t22_8), 0, (w64 t26_8), ⟨none, 0, 0⟩, 0), t30_14))) (
 callF Tryz.prog 210 [(slV p0), (iv 2), (iv 8)] [.c I64] fun (t30_15 : Int) =>
 ldU a_4 fun t22_9 =>
 ldU a_5 fun t26_9 =>
 R_2 ((some ⟨r_10, 0, none⟩), ((w64 t22_9), 0, (w64 t26_9), ⟨none, 0, 0⟩, 0), t30_15))))))) fun s_2 =>
 deref s_2.1 fun a_26 =>
 st (a_26.add 0) (iv s_2.2.1.1) <|
 st (a_26.add 1) (iv s_2.2.1.2.1) <|
 st (a_26.add 2) (iv s_2.2.1.2.2.1) <|
 st (a_26.add 3) (slV s_2.2.1.2.2.2.1) <|
 st (a_26.add 4) (iv s_2.2.1.2.2.2.2) <|
 R_1 (s_2.1, s_2.2.2)) fun s_1 =>
 jn (S:=Unit) (fun R_3 =>
 callF Tryz.prog 210 [(slV p0), (iv 10), (iv 4)] [.c I64] fun (t32 : Int) =>
 deref s_1.1 fun a_27 =>
 ldI (a_27.add 0) fun t34 =>
 br (t34 == 1) (
 drw <|
 el p0 1 1 fun a_29 =>
 ldU a_29 fun t43 =>
 el p0 1 1 fun a_31 =>
 ldU a_31 fun t48 =>
 slc 1 p0 (some 16) (some (w64 (16 + (w64 t43)))) (some (w64 (16 + (w64 t48)))) fun t51 =>
 deref s_1.1 fun a_33 =>
 callF Tryz.prog 82 [(slV t51)] [.c .slice] fun (t52 : Sl) =>
 st (a_33.add 1) (iv t32) <|
 deref s_1.1 fun a_35 =>
 st (a_35.add 3) (slV t52) <|
 R_3 ()) (
 deref s_1.1 fun a_37 =>
 st (a_37.add 4) (iv t32) <|
 R_3 ())) fun s_3 =>
 deref s_1.1 fun a_39 =>
 ldA [I64, I64, I64, .slice, I64] a_39 fun (t57 : Int × Int × Int × Sl × Int) =>
 callF Tryz.prog 204 [(iv s_1.2), (.agg #[(iv t57.1), (iv t57.2.1), (iv t57.2.2.1), (slV t57.2.2.2.1), (iv t57.2.2.2.2)])] [.c .slice, .c I64] fun (t58 : Sl × Int) =>
 jn (S:=Bool) (fun R_4 =>
 br (t58.2 != 0) (
 R_4 true) (
 callF Tryz.prog 26 [(slV t58.1), (slV p0)] [.c .bool] fun (t66 : Bool) =>
 R_4 (!t66))) fun s_4 =>
 br s_4 (
 stB r 0 [(iv 0), (iv 0), (iv 0), (.slice none 0 0), (iv 0)] <|
 ldA [I64, I64, I64, .slice, I64] (bA r 0) fun (res_1 : Int × Int × Int × Sl × Int) =>
 Q (res_1, 0, 61)) (
 deref s_1.1 fun a_42 =>
 ldA [I64, I64, I64, .slice, I64] a_42 fun (t70 : Int × Int × Int × Sl × Int) =>
 stB r 0 [(iv t70.1), (iv t70.2.1), (iv t70.2.2.1), (slV t70.2.2.2.1), (iv t70.2.2.2.2)] <|
 ldA [I64, I64, I64, .slice, I64] (bA r 0) fun (res_2 : Int × Int × Int × Sl × Int) =>
 Q (res_2, s_1.2, 0)))
theorem F179_calls (p0 : Sl) (Q : (Int × Int × Int × Sl × Int) × Int × Int → Pr) (w : World) (h : F179 p0 Q w) : Calls Tryz.prog 179 #[(slV p0)] w (RetT [.agg [I64, I64, I64, .slice, I64], .c I64, .c I64] Q) := cF (an := an179) Tryz.func179 (by kernel_rfl) h
def an204 : An := (.sq .z (.sq (.sq .z (.br (.sq .z .z) .z)) (.sq (.sq .z (.sq .z (.br (.sq .z .z) .z))) (.sq .z (.sq (.jn [] .z) (.sq .z (.sq .z (.sq .z (.sq .z (.sq .z (.sq .z .z)))))))))))
def F204 (p0 : Int) (p1_0 : Int) (p1_1 : Int) (p1_2 : Int) (p1_3 : Sl) (p1_4 : Int) (Q : Sl × Int → Pr) : Pr :=
 nw (.cells #[(iv p1_0), (iv p1_1), (iv p1_2), (slV p1_3), (iv p1_4)] 109) fun r =>
 callF Tryz.prog 178 [(iv p0)] [.c .bool] fun (t9 : Bool) =>
 br (!t9) (
 Q (⟨none, 0, 0⟩, 1)) (
 ldA [I64, I64, I64, .slice, I64] (bA r 0) fun (t11 : Int × Int × Int × Sl × Int) =>
 callF Tryz.prog 128 [(.agg #[(iv t11.1), (iv t11.2.1), (iv t11.2.2.1), (slV t11.2.2.2.1), (iv t11.2.2.2.2)])] [.c I64] fun (t12 : Int) =>
 br (t12 != 0) (
 Q (⟨none, 0, 0⟩, t12)) (
 mkS 5 1 [(uv 0)] 64 64 fun t16 =>
 jn (S:=Unit) (fun R =>
 drw <|
 ldI (bA r 0) fun t20 =>
 el t16 0 1 fun a_4 =>
 both (
 ldS (bA r 3) fun t23 =>
 st a_4 (uv (wU8 t20)) <|
 el t16 1 1 fun a_7 =>
 st a_7 (uv (wU8 (t23.len : Int))) <|
 R ()) (
 st a_4 (uv (wU8 t20)) <|
 ldS (bA r 3) fun t23_1 =>
 el t16 1 1 fun a_11 =>
 st a_11 (uv (wU8 (t23_1.len : Int))) <|
 R ())) fun s =>
 drw <|
 slc 1 t16 (some 2) none none fun t29 =>
 callF Tryz.prog 183 [(iv 8), (.int .u64 (wU64 p0))] [.c .slice] fun (t32 : Sl) =>
 cpy 1 t29 t32 <|
 drw <|
 slc 1 t16 (some 10) none none fun t35 =>
 ldI (bA r 1) fun t37 =>
 ldI (bA r 4) fun t39 =>
 callF Tryz.prog 183 [(iv 4), (.int .u64 (wU64 (imax t37 t39)))] [.c .slice] fun (t42 : Sl) =>
 cpy 1 t35 t42 <|
 ldI (bA r 2) fun t46 =>
 el t16 14 1 fun a_19 =>
 st a_19 (uv (wU8 t46)) <|
 drw <|
 slc 1 t16 (some 16) none none fun t50 =>
 ldS (bA r 3) fun t52 =>
 cpy 1 t50 t52 <|
 drw <|
 slc 1 t16 (some 60) none none fun t55 =>
 slc 1 t16 none (some 60) none fun t57 =>
 callF Tryz.prog 212 [(slV t57)] [.c (.int .u32)] fun (t58 : Int) =>
 callF Tryz.prog 183 [(iv 4), (.int .u64 (wU64 t58))] [.c .slice] fun (t60 : Sl) =>
 cpy 1 t55 t60 <|
 Q (t16, 0)))
theorem F204_calls (p0 : Int) (p1_0 : Int) (p1_1 : Int) (p1_2 : Int) (p1_3 : Sl) (p1_4 : Int) (Q : Sl × Int → Pr) (w : World) (h : F204 p0 p1_0 p1_1 p1_2 p1_3 p1_4 Q w) : Calls Tryz.prog 204 #[(iv p0), (.agg #[(iv p1_0), (iv p1_1), (iv p1_2), (slV p1_3), (iv p1_4)])] w (RetT [.c .slice, .c I64] Q) := cF (an := an204) Tryz.func204 (by kernel_rfl) h
def an210 : An := (.sq .z (.sq .z (.sq .z .z)))
def F210 (p0 : Sl) (p1 : Int) (p2 : Int) (Q : Int → Pr) : Pr :=
 callF Tryz.prog 231 [(slV p0), (iv p1), (iv p2)] [.c (.int .u64), .c .bool] fun (t13 : Int × Bool) =>
 Q ((w64 t13.1))
theorem F210_calls (p0 : Sl) (p1 : Int) (p2 : Int) (Q : Int → Pr) (w : World) (h : F210 p0 p1 p2 Q w) : Calls Tryz.prog 210 #[(slV p0), (iv p1), (iv p2)] w (RetT [.c I64] Q) := cF (an := an210) Tryz.func210 (by kernel_rfl) h
end Go.Proofs

namespace Go.Eng
theorem succ_i64 {j : Nat} (h : j < 1000000000000000000) : IntKind.wrap .i64 ((j : Int) + 1) = ((j + 1 : Nat) : Int) := by rw [wrap_i64 (by omega)]; rfl
theorem w64_of {n : Int} (h : -9223372036854775808 ≤ n ∧ n ≤ 9223372036854775807) : w64 n = n := wrap_i64 h
theorem w64_succ {j : Nat} (h : j < 1000000000000000000) : w64 ((j : Int) + 1) = ((j + 1 : Nat) : Int) := succ_i64 h
@[simp] theorem NotAgg_iv (n : Int) : NotAgg (iv n) = True := rfl
@[simp] theorem NotAgg_uv (n : Int) : NotAgg (uv n) = True := rfl
section
variable {w w' : World} {s : Sl}
theorem BS.at {l : List UInt8} (h : BS w s l) {i : Nat} {k : Int → Pr} (hi : i < l.length) (hk : k (l[i].toNat : Int) w) : (deref s.a fun a => ldC (.int .u8) (a.add (i * 1)) k) w :=
 MS.at (c := .int .u8) (p := (l[i].toNat : Int)) (x := l[i]) h.ms (by simp [hi]) rfl hk
theorem get?_lt {α : Type} {l : List α} {i : Nat} {x : α} (h : l[i]? = some x) : i < l.length := (split_at h).2
theorem el_of {s : Sl} {ad : Addr} {j n : Nat} {k : Addr → Pr} (ha : s.a = some ad) (hj : j < s.len) (hk : k (ad.add (j * n)) w) : el s (j : Int) n k w := by
 refine ⟨⟨by omega, by omega⟩, ?_⟩
 rw [ha, Int.toNat_natCast]
 exact hk
theorem MS.eld {α : Type} {g : α → Value} {l : List α} (h : MS g w s l) {c : CS} {p : PayC c} {j : Nat} {k : PayC c → Pr} {x : α} (hx : l[j]? = some x) (hg : g x = valC c p) (hk : k p w) : el s (j : Int) 1 (fun a => ldC c a k) w := by
 have hlt := get?_lt hx
 have h1 := h.row
 cases ha : s.a with
 | none => rw [ha] at h1; have : l.map g = [] := h1; simp at this; subst this; simp at hx
 | some ad =>
   rw [ha] at h1
   refine el_of ha (by rw [h.len]; exact hlt) ?_
   rw [Nat.mul_one]
   exact ldC_of ((readsAt_row.1 h1).get (by simp [hx, hg])) hk
theorem BS.eld {l : List UInt8} (h : BS w s l) {j : Nat} {k : Int → Pr} {x : UInt8} (hx : l[j]? = some x) (hk : k (x.toNat : Int) w) : el s (j : Int) 1 (fun a => ldC (.int .u8) a k) w :=
 MS.eld (c := .int .u8) (p := (x.toNat : Int)) h.ms hx rfl hk
theorem SS.eld {α : Type} {f : α → List Value} {n : Nat} {rs : List α} (hf : ∀ r, (f r).length = n) (h : SS f w s rs) {j : Nat} {r : α} {cs : List CS} {p : PayA cs} {k : PayA cs → Pr} (hr : rs[j]? = some r) (hn : n ≠ 0) (hp : f r = valA cs p) (hk : k p w) :
   el s (j : Int) n (fun a => ldA cs a k) w := by
 obtain ⟨ad, ha, hrow⟩ := h.get hf hr hn
 refine el_of ha (by rw [h.len]; exact get?_lt hr) ?_
 exact ldA_of (readsAt_row.2 (hp ▸ hrow)) hk
theorem SS.elc {α : Type} {f : α → List Value} {n : Nat} {rs : List α} (hf : ∀ r, (f r).length = n) (h : SS f w s rs) {j i : Nat} {r : α} {c : CS} {p : PayC c} {k : PayC c → Pr} (hr : rs[j]? = some r) (hn : n ≠ 0) (hp : (f r)[i]? = some (valC c p)) (hk : k p w) :
   el s (j : Int) n (fun a => ldC c (a.add i) k) w := by
 obtain ⟨ad, ha, hrow⟩ := h.get hf hr hn
 refine el_of ha (by rw [h.len]; exact get?_lt hr) ?_
 exact ldC_of (hrow.get hp) hk
end
section
variable {F0 : Nat → Prop} {w0 w w' : World} {l : List HA}
theorem St.els {s : Sl} {vs : List Value} {j : Nat} {v : Value} {k : Pr} (h : St F0 w0 w (SlA 1 s vs :: l)) (hi : j < vs.length) (hv : NotAgg v) (hk : ∀ w', St F0 w0 w' (SlA 1 s (vs.set j v) :: l) → k w') : el s (j : Int) 1 (fun a => Eng.st a v k) w := by
 have h1 := h.sl
 obtain ⟨ad, ha, hst⟩ := h.put hi hv hk
 have := h1.len
 refine el_of ha (by omega) ?_
 rw [Nat.mul_one]; exact hst
theorem stB_of {b : Nat} {k : Pr} : ∀ (vs : List Value) {us pre : List Value} {w : World}, us.length = vs.length → (∀ v ∈ vs, NotAgg v) → St F0 w0 w (BoxA b (pre ++ us) :: l) → (∀ w', St F0 w0 w' (BoxA b (pre ++ vs) :: l) → k w') → stB b pre.length vs k w
 | [], us, pre, w, hl, _, h, hk => by
   have : us = [] := List.eq_nil_of_length_eq_zero hl
   subst this
   exact hk w h
 | v :: vs, us, pre, w, hl, hn, h, hk => by
   cases us with
   | nil => simp at hl
   | cons u us =>
     show Eng.st (bA b pre.length) v (stB b (pre.length + 1) vs k) w
     refine h.st (by simp) (hn v (List.mem_cons_self ..)) fun w1 h1 => ?_
     have e : (pre ++ u :: us).set pre.length v = (pre ++ [v]) ++ us := by simp
     rw [e] at h1
     have := stB_of vs (pre := pre ++ [v]) (by simpa using hl) (fun x hx => hn x (List.mem_cons_of_mem _ hx)) h1 fun w' h' => hk w' (by simpa using h')
     simpa using this
theorem St.nvs {T : TypeId} {z vs : List Value} {f : Nat → Pr} (h : St F0 w0 w l) (hz : z.length = vs.length) (hn : ∀ v ∈ vs, NotAgg v) (hk : ∀ b w2, St F0 w0 w2 (BoxA b vs :: l) → f b w2) : nvs T z vs f w :=
 St.nw h fun r w1 s1 _ _ => stB_of vs (pre := []) hz hn s1 fun w' h' => hk r w' h'
end
end Go.Eng
namespace Go.Eng
theorem append_one {F0 : Nat → Prop} {w0 w : World} {L : List HA} {s : Sl} {pre : List UInt8} {n : Nat} {v : Int} {k : Sl → Pr} (h : St F0 w0 w (SlA 1 s (pre.map ub) :: L)) (hv : v = ((n % 256 : Nat) : Int)) (hl : pre.length ≤ 100000000)
   (hk : ∀ r w', St F0 w0 w' (SlA 1 r ((pre ++ [UInt8.ofNat n]).map ub) :: L) → k r w') :
   (nw (.cells #[(.int .u8 v)] 5) fun r => app 5 1 1 [(.int .u8 0)] s ⟨some ⟨r, 0, none⟩, 1, 1⟩ k) w := by
 refine St.nw h fun r w1 s1 _ _ => ?_
 have hsl := slA_len1 h.sl
 rw [List.length_map] at hsl
 refine (s1.bring 1).app (new := [.int .u8 v]) (fun _ => rfl) (fun h => by cases h) (readsAt_row.2 s1.box.row) (by simp [NotAgg]) rfl (by decide) (by dsimp only; omega) fun r2 w2 s2 _ => ?_
 refine hk r2 w2 ?_
 rw [List.map_append, List.map_cons, List.map_nil, ub_ofNat, ← hv]
 exact s2.del 1
end Go.Eng
namespace Go.Eng
def setA : List HA → Nat → HA → List HA
 | [], _, _ => []
 | _ :: l, 0, B => B :: l
 | A :: l, n + 1, B => A :: setA l n B
theorem setA_perm : ∀ {l : List HA} {n : Nat} {A B : HA}, nthA l n = some A → ∃ m, l.Perm (A :: m) ∧ (setA l n B).Perm (B :: m)
 | [], _, _, _, h => by simp [nthA] at h
 | A :: l, 0, _, B, h => by simp only [nthA, Option.some.injEq] at h; subst h; exact ⟨l, .refl _, .refl _⟩
 | A :: l, n + 1, C, B, h => by
   obtain ⟨m, h1, h2⟩ := setA_perm (B := B) (show nthA l n = some C from h)
   exact ⟨A :: m, (h1.cons A).trans (.swap _ _ _), (h2.cons A).trans (.swap _ _ _)⟩
section
variable {F0 : Nat → Prop} {w0 w : World} {l : List HA}
theorem St.isAt (n : Nat) (h : St F0 w0 w l) {A : HA} (hn : nthA l n = some A) : ∃ F, A.is w F := by
 obtain ⟨_, F, h2, _⟩ := h
 obtain ⟨f, f1, _⟩ := h2.fn
 exact ⟨_, f1 n A hn⟩
theorem St.L (n : Nat) (h : St F0 w0 w l) {b i : Nat} {vs : List Value} {c : CS} {p : PayC c} {k : PayC c → Pr} (hn : nthA l n = some (BoxA b vs)) (hi : vs[i]? = some (valC c p)) (hk : k p w) : ldC c (bA b i) k w := by
 obtain ⟨F, hb, _⟩ := h.isAt n hn
 exact hb.ld hi hk
theorem St.LA (n : Nat) (h : St F0 w0 w l) {b : Nat} {vs : List Value} {cs : List CS} {p : PayA cs} {k : PayA cs → Pr} (hn : nthA l n = some (BoxA b vs)) (hv : vs = valA cs p) (hk : k p w) : ldA cs (bA b 0) k w := by
 obtain ⟨F, hb, _⟩ := h.isAt n hn
 subst hv
 have := Box.ldA hb hk
 unfold bA
 rwa [add_zero']
theorem St.S (n : Nat) (h : St F0 w0 w l) {b i : Nat} {vs : List Value} {v : Value} {k : Pr} (hn : nthA l n = some (BoxA b vs)) (hi : i < vs.length) (hv : NotAgg v) (hk : ∀ w', St F0 w0 w' (setA l n (BoxA b (vs.set i v))) → k w') : Eng.st (bA b i) v k w := by
 obtain ⟨m, h1, h2⟩ := setA_perm (B := BoxA b (vs.set i v)) hn
 exact (h.perm h1).st hi hv fun w' h' => hk w' (h'.perm h2.symm)
theorem St.SB (n : Nat) (h : St F0 w0 w l) {b : Nat} {vs us : List Value} {k : Pr} (hn : nthA l n = some (BoxA b us)) (hl : us.length = vs.length) (hv : ∀ v ∈ vs, NotAgg v) (hk : ∀ w', St F0 w0 w' (setA l n (BoxA b vs)) → k w') : stB b 0 vs k w := by
 obtain ⟨m, h1, h2⟩ := setA_perm (B := BoxA b vs) hn
 exact stB_of vs (pre := []) hl hv (h.perm h1) fun w' h' => hk w' (h'.perm h2.symm)
end
end Go.Eng
namespace Go.Eng
section
variable {F0 : Nat → Prop} {w0 w : World} {l : List HA}
theorem St.appS {E n b : Nat} {s : Sl} {x : ByteArray} {z : List Value} {vs : List Value} {k : Sl → Pr} (h : St F0 w0 w (SlA n s vs :: l)) (hn : n = 1) (hz : z.length = n) (hb : b ≠ 0) (hbd : (2 * (s.len + x.size) + 192) * b ≤ 2 ^ 48)
   (hk : ∀ r w', St F0 w0 w' (SlA n r (vs ++ ubL x) :: l) → r.len = s.len + x.size → k r w') : appS E n b z s x k w := by
 subst hn
 have hna : ∀ v ∈ ubL x, NotAgg v := by
   intro v hv
   obtain ⟨c, _, rfl⟩ := List.mem_map.1 hv
   trivial
 exact app_core h.sl (Nat.zero_le _) (m := x.size) (by rw [Nat.mul_one]; show (x.data.toList.map _).length = x.data.size; rw [List.length_map, Array.length_toList]) hna hz hb hbd fun r w' h1 h2 _ _ h5 h6 => hk r w' (h.slm h5 h1 h6) h2
theorem St.appZ {E n b m : Nat} {s : Sl} {M : Int} {z : List Value} {vs : List Value} {k : Sl → Pr} (h : St F0 w0 w (SlA n s vs :: l)) (hM : M = (m : Int)) (hm : m ≤ 1000000000) (hz : z.length = n) (hzn : ∀ v ∈ z, NotAgg v) (hb : b ≠ 0) (hb2 : b ≤ 64) (hbd : (2 * (s.len + m) + 192) * b ≤ 2 ^ 48)
   (hk : ∀ r w', St F0 w0 w' (SlA n r (vs ++ zc z m) :: l) → r.len = s.len + m → k r w') : appZ E n b z s M k w := by
 subst hM
 have hna : ∀ v ∈ zc z m, NotAgg v := by
   intro v hv
   unfold zc at hv
   obtain ⟨c, hc, hv⟩ := List.mem_flatten.1 hv
   rw [(List.mem_replicate.1 hc).2] at hv
   exact hzn v hv
 have hc := app_core (E := E) (k := k) h.sl (Nat.zero_le _) (m := m) (new := zc z m) (by rw [zc_length, hz]) hna hz hb hbd fun r w' h1 h2 _ _ h5 h6 => hk r w' (h.slm h5 h1 h6) h2
 refine ⟨by omega, ?_, wrap_i64 ⟨by omega, by omega⟩, ?_⟩
 · have h2 := Int.ofNat_le.2 (Nat.mul_le_mul hm hb2)
   rw [Int.natCast_mul] at h2
   omega
 · rw [Int.toNat_natCast]
   refine ⟨hc.1, fun h1 => ?_⟩
   obtain ⟨old, e1, e2, _, e4, e5, e6⟩ := hc.2 h1
   exact ⟨old, e1, e2, e4, e5, e6⟩
end
end Go.Eng
namespace Go.Eng
theorem wU64_of {n : Int} (h : 0 ≤ n ∧ n ≤ 18446744073709551615) : wU64 n = n := by
 unfold wU64
 simp only [IntKind.wrap, IntKind.signed, IntKind.bits]
 simp
 omega
section
variable {F0 : Nat → Prop} {w0 w : World} {l : List HA}
theorem St.mkS0 {E b k c : Nat} {z : List Value} {f : Sl → Pr} (h : St F0 w0 w l) (hz : z.length = k) (hb : b * c ≤ 2 ^ 48) (hc : c ≤ 2 ^ 48) (hk : ∀ r w', St F0 w0 w' (SlA k r [] :: l) → r.len = 0 → f r w') : Eng.mkS E b z 0 (c : Int) f w := by
 refine ⟨by omega, by omega, by exact_mod_cast hb, by omega, ?_⟩
 simp only [Int.toNat_natCast]
 refine hk _ _ (h.mksl ((Mod.refl _ w).alloc _) ⟨by simp, by simp, .inr ⟨w.heap.size, 0, zc z c, rfl, Nat.le_refl _, by simp, fun o _ _ => World.frozen?_alloc_new w _ _ o, ?_, by rw [List.nil_append, zc_length, hz]⟩⟩) rfl
 intro j v hj
 rw [add_mk, Nat.zero_add, World.cell?_alloc_new]
 simpa using hj
theorem St.appB {E : Nat} {s x : Sl} {A B : List UInt8} {k : Sl → Pr} (h : St F0 w0 w (SlA 1 s (A.map ub) :: SlA 1 x (B.map ub) :: l)) (hl : A.length + B.length ≤ 1000000000)
   (hk : ∀ r w', St F0 w0 w' (SlA 1 r ((A ++ B).map ub) :: SlA 1 x (B.map ub) :: l) → k r w') : Eng.app E 1 1 [.int .u8 0] s x k w := by
 have h1 := h.sl
 have h2 := (h.bring 1).sl
 have e1 := slA_len1 h1
 have e2 := slA_len1 h2
 rw [List.length_map] at e1 e2
 refine h.app (new := B.map ub) (fun _ => h2.len) (fun ha => h2.bs.ms.none_len ha) h2.reads (fun v hv => by obtain ⟨c, _, rfl⟩ := List.mem_map.1 hv; trivial) rfl (by decide) (by omega) fun r w' h' _ => hk r w' (by rw [List.map_append]; exact h')
end
end Go.Eng
namespace Go.Eng
theorem opt_ns {α : Type} (a : Option α) : a = none ∨ a.isSome = true := by cases a <;> simp
theorem slc_from {w : World} {s : Sl} {l : List UInt8} {o : Nat} {k : Sl → Pr} (h : BS w s l) (hle : s.len ≤ s.cap) (ho : o ≤ l.length) (hk : ∀ r, BS w r (l.drop o) → r.len = l.length - o → r.len ≤ r.cap → (s.a = none → r.a = none) → (∀ b, r.blk b → s.blk b) → k r w) : slc 1 s (some (o : Int)) none none k w := by
 have hl := h.len
 refine slc_lo (by omega) (by omega) ?_
 rw [Int.toNat_natCast]
 refine hk _ ?_ (by show s.len - o = _; omega) (by show s.len - o ≤ s.cap - o; omega) (fun ha => by show (if s.cap = o then s.a else s.a.map (·.add (o * 1))) = none; rw [ha]; simp) ?_
 · have := h.ms.sub (o := o) (n := s.len - o) (c := s.cap - o) (by omega) (a := if s.cap = o then s.a else s.a.map (·.add (o * 1)))
     (by by_cases hc : s.cap = o
         · exact .inr (by omega)
         · exact .inl (by rw [if_neg hc])) (fun _ => opt_ns _)
   rw [List.take_of_length_le (by rw [List.length_drop]; omega)] at this
   exact this.bs
 · rintro b ⟨ad, ha, rfl⟩
   by_cases hc : s.cap = o
   · rw [if_pos hc] at ha; exact ⟨ad, ha, rfl⟩
   · rw [if_neg hc] at ha
     obtain ⟨a0, h1, h2⟩ := Option.map_eq_some_iff.1 ha
     exact ⟨a0, h1, by rw [← h2]; simp⟩
end Go.Eng

namespace Go.Eng
section
variable {P : Program} {F0 : Nat → Prop} {w0 w : World}
abbrev ddO : Obj := .deferred (some [])
theorem St.objAt {V T : List HA} {l : Nat} {o : Obj} (h : St F0 w0 w (V ++ ObjA l o :: T)) : w.heap[l]? = some o := (St.dropL h).obj
theorem St.putAt {V T : List HA} {l : Nat} {o : Obj} (h : St F0 w0 w (V ++ ObjA l o :: T)) (o' : Obj) : St F0 w0 (w.putObj l o') (V ++ ObjA l o' :: T) :=
 ((h.perm List.perm_middle).putObj o').perm List.perm_middle.symm
theorem BS.putL {w : World} {s : Sl} {bs : List UInt8} {l : Nat} {r : Loop} (h : BS w s bs) (hl : w.heap[l]? = some (.loop r)) (o : Obj) : BS (w.putObj l o) s bs := by
 refine h.mod (S := fun b => b = l) ((Mod.refl _ w).putObj (.inl rfl)) fun ad ha hne he => ?_
 have hr := h.row
 rw [ha] at hr
 cases bs with
 | nil => exact hne rfl
 | cons b bs =>
   have h1 := hr.1
   unfold World.cell? at h1
   rw [show (Addr.add ad 0).block = l from he, hl] at h1
   cases h1
def IterE (P : Program) (v : Value) (shs : List Sh) (n : Nat) (X : Nat → PayL shs → World → Prop) (M : World → Prop) : Prop :=
 ∃ f caps, v = .func (.func f) #[] caps ∧ callable P f = true ∧
 ∀ (y : Value) (w : World) (I : Nat → World → Prop) (D : World → Prop), (∀ j W, I j W → M W) → (∀ j W W', I j W → Grow W W' → I j W') → I 0 w →
   (∀ j x W, X j x W → I j W → callV P y (valL shs x) [.c .bool] (fun b W' => if b = true then I (j + 1) W' else D W') W) →
   Calls P f (#[y] ++ caps) w (RetT [] fun _ w' => I n w' ∨ D w')
abbrev IterL (P : Program) (v : Value) (shs : List Sh) (xs : List (PayL shs)) (M : World → Prop) : Prop := IterE P v shs xs.length (fun j x _ => xs[j]? = some x) M
theorem rng_st {v : Value} {shs : List Sh} {n : Nat} {X : Nat → PayL shs → World → Prop} {M : World → Prop} (hv : IterE P v shs n X M) {σ τ : Type} (U : σ → List HA) (Pj : Nat → σ → Prop) (UE : τ → List HA) (E : Option Nat → τ → Prop)
   {R : Nat → PayL shs → (Pr → Pr) → Pr → (Option Nat → Pr) → Pr} {K Jr : Nat → Pr} {Jx : Nat → List (Nat × Pr)} (s0 : σ) (hP0 : Pj 0 s0) (h0 : St F0 w0 w (U s0))
   (hM : ∀ j s W T, Pj j s → St F0 w0 W (U s ++ T) → M W)
   (hround : ∀ (l m : Nat) (Ro : LoopState → Obj) j x s W (bg : Pr → Pr) (nx : Pr) (lv : Option Nat → Pr), X j x W → Pj j s → St F0 w0 W (U s ++ [ObjA l (Ro .ready), ObjA m ddO]) →
     (∀ V (c : Pr) W', St F0 w0 W' (V ++ [ObjA l (Ro .ready), ObjA m ddO]) → (∀ W2, (∀ s bs, BS W' s bs → BS W2 s bs) → St F0 w0 W2 (V ++ [ObjA l (Ro .busy), ObjA m ddO]) → c W2) → bg c W') →
     (∀ s' W', Pj (j + 1) s' → St F0 w0 W' (U s' ++ [ObjA l (Ro .busy), ObjA m ddO]) → nx W') →
     (∀ q t W', E q t → St F0 w0 W' (UE t ++ [ObjA l (Ro .busy), ObjA m ddO]) → lv q W') → R l x bg nx lv W)
   (hK : ∀ m s W, Pj n s → St F0 w0 W (U s ++ [ObjA m ddO]) → K m W)
   (hJ : ∀ m q t W, E q t → St F0 w0 W (UE t ++ [ObjA m ddO]) → jmp (Jr m) (Jx m) q W) : rngE P v shs R K Jr Jx w := by
 obtain ⟨f, caps, rfl, hcl, hspec⟩ := hv
 refine ⟨f, caps, rfl, hcl, fun L hL hY => ?_⟩
 have st6 := (h0.mkobj ddO).mkobj (L .ready none)
 rw [World.size_alloc] at st6
 have st7 : St F0 w0 ((w.alloc ddO).alloc (L .ready none)) (U s0 ++ [ObjA (w.heap.size + 1) (L .ready none), ObjA w.heap.size ddO]) := st6.perm (List.perm_append_comm (l₁ := [_, _]))
 refine (hspec (.func (.yield (w.heap.size + 1)) #[] #[]) _ (fun j W => ∃ s, Pj j s ∧ St F0 w0 W (U s ++ [ObjA (w.heap.size + 1) (L .ready none), ObjA w.heap.size ddO]))
   (fun W => ∃ q t, E q t ∧ St F0 w0 W (UE t ++ [ObjA (w.heap.size + 1) (L .done (some (jcode q))), ObjA w.heap.size ddO])) ?_ ?_ ⟨s0, hP0, st7⟩ ?_).mono ?_
 · rintro j W ⟨s, hp, hs⟩; exact hM j s W _ hp hs
 · rintro j W W' ⟨s, hp, hs⟩ g; exact ⟨s, hp, hs.grow g⟩
 · rintro j x W hx ⟨s, hp, hs⟩
   refine .inr ⟨w.heap.size + 1, #[], rfl, ?_⟩
   refine hY W x _ hs.objAt ?_
   refine hround (w.heap.size + 1) w.heap.size (fun ph => L ph none) j x s W _ _ _ hx hp hs ?_ ?_ ?_
   · intro V c W' h1 h2
     obtain ⟨r, hr⟩ := hL .ready none
     exact ⟨h1.objAt, h2 _ (fun _ _ hb => hb.putL (hr ▸ h1.objAt) _) (h1.putAt _)⟩
   · intro s' W' hp' h1
     refine ⟨h1.objAt, ?_⟩
     rw [if_pos rfl]
     exact ⟨s', hp', h1.putAt _⟩
   · intro q t W' hq h1
     refine ⟨h1.objAt, ?_⟩
     rw [if_neg (by simp)]
     exact ⟨q, t, hq, h1.putAt _⟩
 · have drop : ∀ {V : List HA} {W : World} {o : Obj}, St F0 w0 W (V ++ [ObjA (w.heap.size + 1) o, ObjA w.heap.size ddO]) → ∀ o', St F0 w0 (W.putObj (w.heap.size + 1) o') (V ++ [ObjA w.heap.size ddO]) := by
     intro V W o h o'
     exact ((h.putAt o').perm List.perm_middle).drop
   rintro e W ⟨p, rfl, ⟨s, hp, hs⟩ | ⟨q, t, hq, hs⟩⟩
   · exact ⟨⟨_, rfl⟩, .inl ⟨hs.objAt, hK _ s _ hp (drop hs _)⟩⟩
   · exact ⟨⟨_, rfl⟩, .inr ⟨q, hs.objAt, hJ _ q t _ hq (drop hs _)⟩⟩
theorem takesAt {V T : List HA} {D : Nat} {k : Pr} (h : St F0 w0 w (V ++ ObjA D ddO :: T)) (hk : ∀ w', St F0 w0 w' (V ++ T) → k w') : takes [D] k w :=
 ⟨h.objAt, hk _ ((h.putAt (.deferred none)).perm List.perm_middle).drop⟩
end
end Go.Eng
namespace Go.Eng
section
variable {F0 : Nat → Prop} {w0 w : World} {l : List HA}
theorem St.elA {s : Sl} {vs : List Value} {j : Nat} {k : Addr → Pr} (h : St F0 w0 w (SlA 1 s vs :: l)) (hj : j < vs.length) (hk : ∀ ad, s.a = some ad → k (ad.add (j * 1)) w) : el s (j : Int) 1 k w := by
 have h1 := h.sl
 have hlen := h1.len
 rcases h1.row with ⟨_, h2, _⟩ | ⟨b, off, spare, h2, _⟩
 · omega
 · exact el_of h2 (by omega) (hk _ h2)
theorem St.putA {s : Sl} {vs : List Value} {j : Nat} {v : Value} {ad : Addr} {k : Pr} (h : St F0 w0 w (SlA 1 s vs :: l)) (ha : s.a = some ad) (hj : j < vs.length) (hv : NotAgg v) (hk : ∀ w', St F0 w0 w' (SlA 1 s (vs.set j v) :: l) → k w') : Eng.st (ad.add (j * 1)) v k w := by
 obtain ⟨ad', h1, h2⟩ := h.put hj hv hk
 rw [ha] at h1
 cases h1
 rw [Nat.mul_one]; exact h2
end
end Go.Eng
namespace Go.Eng
theorem slc3 {w : World} {s : Sl} {l : List UInt8} {o n : Nat} {H M : Int} {k : Sl → Pr} (h : BS w s l) (hle : s.len ≤ s.cap) (hH : H = ((o + n : Nat) : Int)) (hM : M = ((o + n : Nat) : Int)) (hn : o + n ≤ l.length)
   (hk : ∀ r, BS w r ((l.drop o).take n) → r.len = n → r.len ≤ r.cap → k r w) : slc 1 s (some (o : Int)) (some H) (some M) k w := by
 subst hH hM
 have hl := h.len
 refine ⟨fun m hm => ?_, fun _ => rfl, fun x hx => ?_, fun x hx => ?_, ?_⟩
 · simp only [Option.some.injEq] at hm; subst hm; omega
 · simp only [Option.some.injEq] at hx; subst hx; simp; omega
 · simp only [Option.some.injEq] at hx; subst hx; simp; omega
 · simp only [Option.map_some, Option.getD_some, Int.toNat_natCast]
   refine hk _ ?_ (by show o + n - o = n; omega) (by show o + n - o ≤ o + n - o; omega)
   have := h.ms.sub (o := o) (n := n) (c := o + n - o) hn (a := if o + n = o then s.a else s.a.map (·.add (o * 1)))
     (by by_cases hc : o + n = o
         · exact .inr (by omega)
         · exact .inl (by rw [if_neg hc])) (fun _ => opt_ns _)
   rw [show o + n - o = n by omega] at this ⊢
   exact this.bs
end Go.Eng

set_option maxRecDepth 100000
namespace Go.Proofs
open Go.Eng
def an167 : An := (.sq .z (.sq (.sq .z (.sq .z (.br (.sq .z .z) .z))) (.sq (.sq (.jn [(27, .c .bool)] .z) (.br (.sq .z .z) .z)) (.sq .z .z))))
def F167 (p0_0 : Int) (p0_1 : Int) (p0_2 : Int) (p0_3 : Int) (p0_4 : Int) (p0_5 : Int) (Q : Int → Pr) : Pr :=
 nw (.cells #[(iv p0_0), (iv p0_1), (iv p0_2), (iv p0_3), (iv p0_4), (iv p0_5)] 61) fun r =>
 ldA [I64, I64, I64, I64] (bA r 1) fun (t5 : Int × Int × Int × Int) =>
 callF Tryz.prog 123 [(.agg #[(iv t5.1), (iv t5.2.1), (iv t5.2.2.1), (iv t5.2.2.2)])] [.c I64] fun (t6 : Int) =>
 br (t6 != 0) (
 Q t6) (
 jn (S:=Bool) (fun R =>
 ldI (bA r 0) fun t11 =>
 br (decide (t11 < 1)) (
 R true) (
 ldI (bA r 0) fun t15 =>
 br (decide (t15 > 1152921504606846976)) (
 R true) (
 ldI (bA r 5) fun t20 =>
 br (decide (t20 < 0)) (
 R true) (
 ldI (bA r 5) fun t25 =>
 R ((decide (t25 > 1152921504606846976))))))) fun s =>
 br s (
 Q 50) (
 Q 0))
theorem F167_calls (p0_0 : Int) (p0_1 : Int) (p0_2 : Int) (p0_3 : Int) (p0_4 : Int) (p0_5 : Int) (Q : Int → Pr) (w : World) (h : F167 p0_0 p0_1 p0_2 p0_3 p0_4 p0_5 Q w) : Calls Tryz.prog 167 #[(.agg #[(iv p0_0), (iv p0_1), (iv p0_2), (iv p0_3), (iv p0_4), (iv p0_5)])] w (RetT [.c I64] Q) := cF (an := an167) Tryz.func167 (by kernel_rfl) h
def an85 : An := (.sq .z (.sq (.sq .z (.sq .z (.br (.sq .z .z) .z))) (.sq .z .z)))
def F85 (p0_0 : Int) (p0_1 : Int) (p0_2 : Int) (p0_3 : Int) (Q : (Int × Int × Int × Int × Int × Int) × Int → Pr) : Pr :=
 nw (.cells #[(iv p0_0), (iv p0_1), (iv p0_2), (iv p0_3)] 23) fun r =>
 nw (.cells #[(iv 0), (iv 0), (iv 0), (iv 0), (iv 0), (iv 0)] 61) fun r_1 =>
 ldA [I64, I64, I64, I64] (bA r 0) fun (t5 : Int × Int × Int × Int) =>
 callF Tryz.prog 123 [(.agg #[(iv t5.1), (iv t5.2.1), (iv t5.2.2.1), (iv t5.2.2.2)])] [.c I64] fun (t6 : Int) =>
 br (t6 != 0) (
 stB r_1 0 [(iv 0), (iv 0), (iv 0), (iv 0), (iv 0), (iv 0)] <|
 ldA [I64, I64, I64, I64, I64, I64] (bA r_1 0) fun (res : Int × Int × Int × Int × Int × Int) =>
 Q (res, t6)) (
 ldA [I64, I64, I64, I64] (bA r 0) fun (t11 : Int × Int × Int × Int) =>
 ldI (bA r 1) fun t13 =>
 stB r_1 0 [(iv 2), (iv t11.1), (iv t11.2.1), (iv t11.2.2.1), (iv t11.2.2.2), (iv (w64 (4 * t13)))] <|
 ldA [I64, I64, I64, I64, I64, I64] (bA r_1 0) fun (res_1 : Int × Int × Int × Int × Int × Int) =>
 Q (res_1, 0))
theorem F85_calls (p0_0 : Int) (p0_1 : Int) (p0_2 : Int) (p0_3 : Int) (Q : (Int × Int × Int × Int × Int × Int) × Int → Pr) (w : World) (h : F85 p0_0 p0_1 p0_2 p0_3 Q w) : Calls Tryz.prog 85 #[(.agg #[(iv p0_0), (iv p0_1), (iv p0_2), (iv p0_3)])] w (RetT [.agg [I64, I64, I64, I64, I64, I64], .c I64] Q) := cF (an := an85) Tryz.func85 (by kernel_rfl) h
def an113 : An := (.sq .z (.sq .z (.sq (.jn [(6, .c (.int .i64))] (.bl (.sq .z (.br .z (.sq (.jn [(12, .c .bool)] .z) (.br .z (.sq .z (.br .z .z)))))))) (.sq (.sq .z (.br (.sq .z .z) .z)) (.sq .z (.sq .z (.sq .z .z)))))))
def F113 (p0_0 : Int) (p0_1 : Int) (p0_2 : Int) (p0_3 : Int) (p0_4 : Int) (p0_5 : Int) (p1 : Int) (Q : (Int × Int × Int × Int × Int × Int) × Int → Pr) : Pr :=
 nw (.cells #[(iv p0_0), (iv p0_1), (iv p0_2), (iv p0_3), (iv p0_4), (iv p0_5)] 61) fun r =>
 nw (.cells #[(iv 0), (iv 0), (iv 0), (iv 0), (iv 0), (iv 0)] 61) fun r_1 =>
 ldA [I64, I64, I64, I64, I64, I64] (bA r 0) fun (t7 : Int × Int × Int × Int × Int × Int) =>
 callF Tryz.prog 167 [(.agg #[(iv t7.1), (iv t7.2.1), (iv t7.2.2.1), (iv t7.2.2.2.1), (iv t7.2.2.2.2.1), (iv t7.2.2.2.2.2)])] [.c I64] fun (t8 : Int) =>
 jn (S:=Int) (fun R =>
 br (t8 != 0) (
 R t8) (
 jn (S:=Bool) (fun R_1 =>
 ldI (bA r 5) fun t15 =>
 br (decide (p1 < t15)) (
 R_1 true) (
 R_1 ((decide (p1 > 1152921504606846976))))) fun s_1 =>
 br s_1 (
 R 1) (
 ldI (bA r 0) fun t23 =>
 br (t23 == 1152921504606846976) (
 R 6) (
 R t8)))) fun s =>
 br (s != 0) (
 stB r_1 0 [(iv 0), (iv 0), (iv 0), (iv 0), (iv 0), (iv 0)] <|
 ldA [I64, I64, I64, I64, I64, I64] (bA r_1 0) fun (res : Int × Int × Int × Int × Int × Int) =>
 Q (res, s)) (
 ldI (bA r 0) fun t30 =>
 st (bA r 0) (iv (w64 (t30 + 1))) <|
 st (bA r 5) (iv p1) <|
 ldA [I64, I64, I64, I64, I64, I64] (bA r 0) fun (t35 : Int × Int × Int × Int × Int × Int) =>
 stB r_1 0 [(iv t35.1), (iv t35.2.1), (iv t35.2.2.1), (iv t35.2.2.2.1), (iv t35.2.2.2.2.1), (iv t35.2.2.2.2.2)] <|
 ldA [I64, I64, I64, I64, I64, I64] (bA r_1 0) fun (res_1 : Int × Int × Int × Int × Int × Int) =>
 Q (res_1, 0))
theorem F113_calls (p0_0 : Int) (p0_1 : Int) (p0_2 : Int) (p0_3 : Int) (p0_4 : Int) (p0_5 : Int) (p1 : Int) (Q : (Int × Int × Int × Int × Int × Int) × Int → Pr) (w : World) (h : F113 p0_0 p0_1 p0_2 p0_3 p0_4 p0_5 p1 Q w) : Calls Tryz.prog 113 #[(.agg #[(iv p0_0), (iv p0_1), (iv p0_2), (iv p0_3), (iv p0_4), (iv p0_5)]), (iv p1)] w (RetT [.agg [I64, I64, I64, I64, I64, I64], .c I64] Q) := cF (an := an113) Tryz.func113 (by kernel_rfl) h
def an134 : An := (.sq .z (.sq .z .z))
def F134 (p0_0 : Int) (p0_1 : Int) (p0_2 : Int) (p0_3 : Int) (p0_4 : Int) (p0_5 : Int) (Q : Int → Pr) : Pr :=
 nw (.cells #[(iv p0_0), (iv p0_1), (iv p0_2), (iv p0_3), (iv p0_4), (iv p0_5)] 61) fun r =>
 ldI (bA r 0) fun t4 =>
 owe ((2 : Int) ≠ 0) <|
 Q (((imax t4 0).tmod 2))
theorem F134_calls (p0_0 : Int) (p0_1 : Int) (p0_2 : Int) (p0_3 : Int) (p0_4 : Int) (p0_5 : Int) (Q : Int → Pr) (w : World) (h : F134 p0_0 p0_1 p0_2 p0_3 p0_4 p0_5 Q w) : Calls Tryz.prog 134 #[(.agg #[(iv p0_0), (iv p0_1), (iv p0_2), (iv p0_3), (iv p0_4), (iv p0_5)])] w (RetT [.c I64] Q) := cF (an := an134) Tryz.func134 (by kernel_rfl) h
def an133 : An := (.sq .z (.sq (.sq .z (.sq .z (.br (.sq .z .z) .z))) (.sq .z (.sq .z (.sq .z (.sq (.sq .z (.bl (.lp [(5, .c .slice), (36, .c (.int .i64))] (.sq .z (.sq (.br .z .z) (.sq (.bl (.sq .z .z)) .z)))))) (.sq .z (.sq .z (.sq .z .z)))))))))
def F133 (p0_0 : Int) (p0_1 : Int) (p0_2 : Int) (p0_3 : Int) (p0_4 : Int) (p0_5 : Int) (Q : Sl × Int → Pr) : Pr :=
 nw (.cells #[(iv p0_0), (iv p0_1), (iv p0_2), (iv p0_3), (iv p0_4), (iv p0_5)] 61) fun r =>
 ldA [I64, I64, I64, I64, I64, I64] (bA r 0) fun (t8 : Int × Int × Int × Int × Int × Int) =>
 callF Tryz.prog 167 [(.agg #[(iv t8.1), (iv t8.2.1), (iv t8.2.2.1), (iv t8.2.2.2.1), (iv t8.2.2.2.2.1), (iv t8.2.2.2.2.2)])] [.c I64] fun (t9 : Int) =>
 br (t9 != 0) (
 Q (⟨none, 0, 0⟩, t9)) (
 mkS 5 1 [(uv 0)] 0 256 fun t13 =>
 appS 5 1 1 [(uv 0)] t13 (⟨#[97, 116, 116, 105, 99, 32, 49, 10]⟩ : ByteArray) fun t15 =>
 ldI (bA r 0) fun t18 =>
 callF Tryz.prog 183 [(iv 8), (.int .u64 (wU64 t18))] [.c .slice] fun (t20 : Sl) =>
 app 5 1 1 [(uv 0)] t15 t20 fun t21 =>
 ldI (bA r 1) fun t24 =>
 ldI (bA r 2) fun t27 =>
 ldI (bA r 3) fun t30 =>
 ldI (bA r 4) fun t33 =>
 nw (.cells #[(iv t24), (iv t27), (iv t30), (iv t33)] 3) fun r_1 =>
 loopE (S:=Sl × Int) (fun X s =>
 br (decide (s.2 < (4 : Int))) (
 owe ((0 : Int) ≤ s.2 ∧ s.2 < (4 : Int)) <|
 ldI ((bA r_1 0).add (Int.toNat s.2 * 1)) fun t39 =>
 callF Tryz.prog 183 [(iv 4), (.int .u64 (wU64 t39))] [.c .slice] fun (t43 : Sl) =>
 app 5 1 1 [(uv 0)] s.1 t43 fun t44 =>
 X (t44, (w64 (s.2 + 1)))) (
 ldI (bA r 5) fun t48 =>
 callF Tryz.prog 183 [(iv 8), (.int .u64 (wU64 t48))] [.c .slice] fun (t50 : Sl) =>
 app 5 1 1 [(uv 0)] s.1 t50 fun t51 =>
 appZ 5 1 1 [(uv 0)] t51 (w64 (60 - (t51.len : Int))) fun t56 =>
 callF Tryz.prog 184 [(slV t56)] [.c .slice] fun (t57 : Sl) =>
 appZ 5 1 1 [(uv 0)] t57 (w64 (256 - (t57.len : Int))) fun t62 =>
 Q (t62, 0))) (t21, 0))
theorem F133_calls (p0_0 : Int) (p0_1 : Int) (p0_2 : Int) (p0_3 : Int) (p0_4 : Int) (p0_5 : Int) (Q : Sl × Int → Pr) (w : World) (h : F133 p0_0 p0_1 p0_2 p0_3 p0_4 p0_5 Q w) : Calls Tryz.prog 133 #[(.agg #[(iv p0_0), (iv p0_1), (iv p0_2), (iv p0_3), (iv p0_4), (iv p0_5)])] w (RetT [.c .slice, .c I64] Q) := cF (an := an133) Tryz.func133 (by kernel_rfl) h
def an175 : An := (.sq .z (.sq (.sq .z (.br (.sq .z .z) .z)) (.sq .z (.sq .z (.sq .z (.sq .z (.sq (.sq .z (.bl (.lp [(34, .c (.int .i64))] (.sq .z (.sq (.br .z .z) (.sq (.bl (.sq .z .z)) .z)))))) (.sq .z (.sq .z (.sq (.sq (.jn [(60, .c .bool)] .z) (.br (.sq .z .z) .z)) (.sq .z .z)))))))))))
def F175 (p0 : Sl) (Q : (Int × Int × Int × Int × Int × Int) × Int → Pr) : Pr :=
 nw (.cells #[(iv 0), (iv 0), (iv 0), (iv 0), (iv 0), (iv 0)] 61) fun r =>
 br ((p0.len : Int) != 256) (
 stB r 0 [(iv 0), (iv 0), (iv 0), (iv 0), (iv 0), (iv 0)] <|
 ldA [I64, I64, I64, I64, I64, I64] (bA r 0) fun (res : Int × Int × Int × Int × Int × Int) =>
 Q (res, 50)) (
 slc 1 p0 (some 8) none none fun t16 =>
 callF Tryz.prog 208 [(slV t16)] [.c .ptr] fun (t17 : Option Addr) =>
 nw (.cells #[(iv 0), (iv 0), (iv 0), (iv 0), (iv 0), (iv 0)] 61) fun r_1 =>
 callV Tryz.prog (.func (.func 209) #[(.pointer t17)] #[]) [(iv 8)] [.c (.int .u64)] fun (t21 : Int) =>
 st (bA r_1 0) (iv (w64 t21)) <|
 nw (.cells #[(.pointer (some (bA r_1 1))), (.pointer (some (bA r_1 2))), (.pointer (some (bA r_1 3))), (.pointer (some (bA r_1 4)))] 236) fun r_2 =>
 loopE (S:=Int) (fun X s =>
 br (decide (s < (4 : Int))) (
 owe ((0 : Int) ≤ s ∧ s < (4 : Int)) <|
 ldP ((bA r_2 0).add (Int.toNat s * 1)) fun t37 =>
 callV Tryz.prog (.func (.func 209) #[(.pointer t17)] #[]) [(iv 4)] [.c (.int .u64)] fun (t40 : Int) =>
 deref t37 fun a_14 =>
 st a_14 (iv (w64 t40)) <|
 X ((w64 (s + 1)))) (
 callV Tryz.prog (.func (.func 209) #[(.pointer t17)] #[]) [(iv 8)] [.c (.int .u64)] fun (t45 : Int) =>
 st (bA r_1 5) (iv (w64 t45)) <|
 ldA [I64, I64, I64, I64, I64, I64] (bA r_1 0) fun (t49 : Int × Int × Int × Int × Int × Int) =>
 callF Tryz.prog 133 [(.agg #[(iv t49.1), (iv t49.2.1), (iv t49.2.2.1), (iv t49.2.2.2.1), (iv t49.2.2.2.2.1), (iv t49.2.2.2.2.2)])] [.c .slice, .c I64] fun (t50 : Sl × Int) =>
 jn (S:=Bool) (fun R =>
 br (t50.2 != 0) (
 R true) (
 callF Tryz.prog 26 [(slV t50.1), (slV p0)] [.c .bool] fun (t58 : Bool) =>
 R (!t58))) fun s_1 =>
 br s_1 (
 stB r 0 [(iv 0), (iv 0), (iv 0), (iv 0), (iv 0), (iv 0)] <|
 ldA [I64, I64, I64, I64, I64, I64] (bA r 0) fun (res_1 : Int × Int × Int × Int × Int × Int) =>
 Q (res_1, 50)) (
 ldA [I64, I64, I64, I64, I64, I64] (bA r_1 0) fun (t62 : Int × Int × Int × Int × Int × Int) =>
 stB r 0 [(iv t62.1), (iv t62.2.1), (iv t62.2.2.1), (iv t62.2.2.2.1), (iv t62.2.2.2.2.1), (iv t62.2.2.2.2.2)] <|
 ldA [I64, I64, I64, I64, I64, I64] (bA r 0) fun (res_2 : Int × Int × Int × Int × Int × Int) =>
 Q (res_2, 0)))) 0)
theorem F175_calls (p0 : Sl) (Q : (Int × Int × Int × Int × Int × Int) × Int → Pr) (w : World) (h : F175 p0 Q w) : Calls Tryz.prog 175 #[(slV p0)] w (RetT [.agg [I64, I64, I64, I64, I64, I64], .c I64] Q) := cF (an := an175) Tryz.func175 (by kernel_rfl) h
def an122 : An := (.sq .z (.sq .z (.sq (.sq .z (.bl (.rf [.c (.int .i64), .c .slice] (.sq .z .z) (.bl (.sq .z (.sq (.jn [(36, .c .bool)] .z) (.br .z .z))))))) (.sq (.sq .z (.br (.sq .z .z) .z)) (.sq .z .z)))))
def F122 (p0 : Sl) (p1 : Sl) (Q : (Int × Int × Int × Int × Int × Int) × Int → Pr) : Pr :=
 nw (.cells #[(iv 0), (iv 0), (iv 0), (iv 0), (iv 0), (iv 0)] 61) fun r =>
 nw (.cells #[(iv 0), (iv 0), (iv 0), (iv 0), (iv 0), (iv 0)] 61) fun r_1 =>
 nw (.cells #[(slV p0), (slV p1)] 33) fun r_2 =>
 callF Tryz.prog 174 [(.slice (some ⟨r_2, 0, none⟩) 2 2)] [.c .any] fun (t14 : Value) =>
 rngE Tryz.prog t14 [.c I64, .c .slice] (fun l (z : Int × Sl) bg nx lv =>
 bg (
 callF Tryz.prog 175 [(slV z.2)] [.agg [I64, I64, I64, I64, I64, I64], .c I64] fun (t19 : (Int × Int × Int × Int × Int × Int) × Int) =>
 nvs 61 [(iv 0), (iv 0), (iv 0), (iv 0), (iv 0), (iv 0)] [(iv t19.1.1), (iv t19.1.2.1), (iv t19.1.2.2.1), (iv t19.1.2.2.2.1), (iv t19.1.2.2.2.2.1), (iv t19.1.2.2.2.2.2)] fun r_3 =>
 jn (S:=Bool) (fun R =>
 br (t19.2 == 0) (
 ldA [I64, I64, I64, I64, I64, I64] (bA r_3 0) fun (t25 : Int × Int × Int × Int × Int × Int) =>
 callF Tryz.prog 134 [(.agg #[(iv t25.1), (iv t25.2.1), (iv t25.2.2.1), (iv t25.2.2.2.1), (iv t25.2.2.2.2.1), (iv t25.2.2.2.2.2)])] [.c I64] fun (t26 : Int) =>
 br (t26 == z.1) (
 ldI (bA r_3 0) fun t32 =>
 ldI (bA r_1 0) fun t34 =>
 R ((decide (t32 > t34)))) (
 R false)) (
 R false)) fun s =>
 br s (
 ldA [I64, I64, I64, I64, I64, I64] (bA r_3 0) fun (t37 : Int × Int × Int × Int × Int × Int) =>
 stB r_1 0 [(iv t37.1), (iv t37.2.1), (iv t37.2.2.1), (iv t37.2.2.2.1), (iv t37.2.2.2.2.1), (iv t37.2.2.2.2.2)] <|
 nx) (
 nx))) (fun D =>
 ldA [I64, I64, I64, I64, I64, I64] (bA r_1 0) fun (t38 : Int × Int × Int × Int × Int × Int) =>
 br ((t38.1 == 0) && (((t38.2.1 == 0) && ((t38.2.2.1 == 0) && ((t38.2.2.2.1 == 0) && ((t38.2.2.2.2.1 == 0) && true)))) && ((t38.2.2.2.2.2 == 0) && true))) (
 ldA [I64, I64, I64, I64, I64, I64] (bA r_1 0) fun (t41 : Int × Int × Int × Int × Int × Int) =>
 stB r 0 [(iv t41.1), (iv t41.2.1), (iv t41.2.2.1), (iv t41.2.2.2.1), (iv t41.2.2.2.2.1), (iv t41.2.2.2.2.2)] <|
 takes [D] <|
 ldA [I64, I64, I64, I64, I64, I64] (bA r 0) fun (res : Int × Int × Int × Int × Int × Int) =>
 Q (res, 50)) (
 ldA [I64, I64, I64, I64, I64, I64] (bA r_1 0) fun (t42 : Int × Int × Int × Int × Int × Int) =>
 stB r 0 [(iv t42.1), (iv t42.2.1), (iv t42.2.2.1), (iv t42.2.2.2.1), (iv t42.2.2.2.2.1), (iv t42.2.2.2.2.2)] <|
 takes [D] <|
 ldA [I64, I64, I64, I64, I64, I64] (bA r 0) fun (res_1 : Int × Int × Int × Int × Int × Int) =>
 Q (res_1, 0))) (fun D =>
 fls) (fun D => [])
theorem F122_calls (p0 : Sl) (p1 : Sl) (Q : (Int × Int × Int × Int × Int × Int) × Int → Pr) (w : World) (h : F122 p0 p1 Q w) : Calls Tryz.prog 122 #[(slV p0), (slV p1)] w (RetT [.agg [I64, I64, I64, I64, I64, I64], .c I64] Q) := cF (an := an122) Tryz.func122 (by kernel_rfl) h
def an174 : An := (.sq .z (.sq .z .z))
def F174 (p0 : Sl) (Q : Value → Pr) : Pr :=
 owe (NotAgg (slV p0)) <| nw (.cells #[(slV p0)] 41) fun r =>
 Q ((.func (.func 207) #[] #[(.pointer (some ⟨r, 0, none⟩))]))
theorem F174_calls (p0 : Sl) (Q : Value → Pr) (w : World) (h : F174 p0 Q w) : Calls Tryz.prog 174 #[(slV p0)] w (RetT [.c .any] Q) := cF (an := an174) Tryz.func174 (by kernel_rfl) h
def an207 : An := (.sq .z (.bl (.lp [(7, .c (.int .i64))] (.sq .z (.sq (.br .z .z) (.sq (.bl (.sq .z (.sq .z (.br .z .z)))) .z))))))
def F207 (p0 : Value) (p1 : Option Addr) (Q : Unit → Pr) : Pr :=
 deref p1 fun a =>
 ldS a fun t5 =>
 loopE (S:=Int) (fun X s =>
 br (decide (s < (t5.len : Int))) (
 el t5 s 1 fun a_1 =>
 ldS a_1 fun t11 =>
 callV Tryz.prog p0 [(iv s), (slV t11)] [.c .bool] fun (t15 : Bool) =>
 br (!t15) (
 Q ()) (
 X ((w64 (s + 1))))) (
 Q ())) 0
theorem F207_calls (p0 : Value) (p1 : Option Addr) (Q : Unit → Pr) (w : World) (h : F207 p0 p1 Q w) : Calls Tryz.prog 207 #[p0, (.pointer p1)] w (RetT [] Q) := cF (an := an207) Tryz.func207 (by kernel_rfl) h
def an187 : An := (.sq .z (.sq (.sq .z (.sq .z (.br (.sq .z .z) .z))) (.sq (.sq (.jn [(27, .c .bool)] .z) (.br (.sq .z .z) .z)) (.sq .z .z))))
def F187 (p0_0 : Int) (p0_1 : Int) (p0_2 : Int) (p0_3 : Int) (p0_4 : Int) (p0_5 : Int) (Q : Int → Pr) : Pr :=
 nw (.cells #[(iv p0_0), (iv p0_1), (iv p0_2), (iv p0_3), (iv p0_4), (iv p0_5)] 61) fun r =>
 ldA [I64, I64, I64, I64] (bA r 1) fun (t5 : Int × Int × Int × Int) =>
 callF Tryz.prog 13 [(.agg #[(iv t5.1), (iv t5.2.1), (iv t5.2.2.1), (iv t5.2.2.2)])] [.c I64] fun (t6 : Int) =>
 br (t6 != 0) (
 Q t6) (
 jn (S:=Bool) (fun R =>
 ldI (bA r 0) fun t11 =>
 br (decide (t11 < 1)) (
 R true) (
 ldI (bA r 0) fun t15 =>
 br (decide (t15 > 1152921504606846976)) (
 R true) (
 ldI (bA r 5) fun t20 =>
 br (decide (t20 < 0)) (
 R true) (
 ldI (bA r 5) fun t25 =>
 R ((decide (t25 > 1152921504606846976))))))) fun s =>
 br s (
 Q 50) (
 Q 0))
theorem F187_calls (p0_0 : Int) (p0_1 : Int) (p0_2 : Int) (p0_3 : Int) (p0_4 : Int) (p0_5 : Int) (Q : Int → Pr) (w : World) (h : F187 p0_0 p0_1 p0_2 p0_3 p0_4 p0_5 Q w) : Calls Tryz.prog 187 #[(.agg #[(iv p0_0), (iv p0_1), (iv p0_2), (iv p0_3), (iv p0_4), (iv p0_5)])] w (RetT [.c I64] Q) := cF (an := an187) Tryz.func187 (by kernel_rfl) h
def an88 : An := (.sq .z (.sq (.sq .z (.sq .z (.br (.sq .z .z) .z))) (.sq .z .z)))
def F88 (p0_0 : Int) (p0_1 : Int) (p0_2 : Int) (p0_3 : Int) (Q : (Int × Int × Int × Int × Int × Int) × Int → Pr) : Pr :=
 nw (.cells #[(iv p0_0), (iv p0_1), (iv p0_2), (iv p0_3)] 23) fun r =>
 nw (.cells #[(iv 0), (iv 0), (iv 0), (iv 0), (iv 0), (iv 0)] 61) fun r_1 =>
 ldA [I64, I64, I64, I64] (bA r 0) fun (t5 : Int × Int × Int × Int) =>
 callF Tryz.prog 13 [(.agg #[(iv t5.1), (iv t5.2.1), (iv t5.2.2.1), (iv t5.2.2.2)])] [.c I64] fun (t6 : Int) =>
 br (t6 != 0) (
 stB r_1 0 [(iv 0), (iv 0), (iv 0), (iv 0), (iv 0), (iv 0)] <|
 ldA [I64, I64, I64, I64, I64, I64] (bA r_1 0) fun (res : Int × Int × Int × Int × Int × Int) =>
 Q (res, t6)) (
 ldA [I64, I64, I64, I64] (bA r 0) fun (t11 : Int × Int × Int × Int) =>
 ldI (bA r 1) fun t13 =>
 stB r_1 0 [(iv 2), (iv t11.1), (iv t11.2.1), (iv t11.2.2.1), (iv t11.2.2.2), (iv (w64 (4 * t13)))] <|
 ldA [I64, I64, I64, I64, I64, I64] (bA r_1 0) fun (res_1 : Int × Int × Int × Int × Int × Int) =>
 Q (res_1, 0))
theorem F88_calls (p0_0 : Int) (p0_1 : Int) (p0_2 : Int) (p0_3 : Int) (Q : (Int × Int × Int × Int × Int × Int) × Int → Pr) (w : World) (h : F88 p0_0 p0_1 p0_2 p0_3 Q w) : Calls Tryz.prog 88 #[(.agg #[(iv p0_0), (iv p0_1), (iv p0_2), (iv p0_3)])] w (RetT [.agg [I64, I64, I64, I64, I64, I64], .c I64] Q) := cF (an := an88) Tryz.func88 (by kernel_rfl) h
def an139 : An := (.sq .z (.sq (.sq .z (.br (.sq .z .z) .z)) (.sq .z .z)))
def F139 (p0_0 : Int) (p0_1 : Int) (p0_2 : Int) (p0_3 : Int) (p0_4 : Int) (p0_5 : Int) (Q : Int → Pr) : Pr :=
 nw (.cells #[(iv p0_0), (iv p0_1), (iv p0_2), (iv p0_3), (iv p0_4), (iv p0_5)] 61) fun r =>
 ldI (bA r 0) fun t4 =>
 br (decide (t4 < 0)) (
 Q 0) (
 ldI (bA r 0) fun t7 =>
 owe ((2 : Int) ≠ 0) <|
 Q ((t7.tmod 2)))
theorem F139_calls (p0_0 : Int) (p0_1 : Int) (p0_2 : Int) (p0_3 : Int) (p0_4 : Int) (p0_5 : Int) (Q : Int → Pr) (w : World) (h : F139 p0_0 p0_1 p0_2 p0_3 p0_4 p0_5 Q w) : Calls Tryz.prog 139 #[(.agg #[(iv p0_0), (iv p0_1), (iv p0_2), (iv p0_3), (iv p0_4), (iv p0_5)])] w (RetT [.c I64] Q) := cF (an := an139) Tryz.func139 (by kernel_rfl) h
def an138 : An := (.sq .z (.sq (.sq .z (.sq .z (.br (.sq .z .z) .z))) (.sq .z (.sq .z (.sq .z (.sq .z (.sq .z (.sq .z (.sq .z (.sq (.bl (.lp [(5, .c .slice)] (.sq (.sq .z (.br .z .z)) (.bl .z)))) (.sq .z (.sq (.bl (.lp [(5, .c .slice)] (.sq (.sq .z (.br .z .z)) (.bl .z)))) (.sq .z .z)))))))))))))
def F138 (p0_0 : Int) (p0_1 : Int) (p0_2 : Int) (p0_3 : Int) (p0_4 : Int) (p0_5 : Int) (Q : Sl × Int → Pr) : Pr :=
 nw (.cells #[(iv p0_0), (iv p0_1), (iv p0_2), (iv p0_3), (iv p0_4), (iv p0_5)] 61) fun r =>
 ldA [I64, I64, I64, I64, I64, I64] (bA r 0) fun (t6 : Int × Int × Int × Int × Int × Int) =>
 callF Tryz.prog 187 [(.agg #[(iv t6.1), (iv t6.2.1), (iv t6.2.2.1), (iv t6.2.2.2.1), (iv t6.2.2.2.2.1), (iv t6.2.2.2.2.2)])] [.c I64] fun (t7 : Int) =>
 br (t7 != 0) (
 Q (⟨none, 0, 0⟩, t7)) (
 nw (.cells #[(uv 97), (uv 116), (uv 116), (uv 105), (uv 99), (uv 32), (uv 49), (uv 10)] 5) fun r_1 =>
 markS (bA r_1 0) <|
 ldI (bA r 0) fun t15 =>
 callF Tryz.prog 188 [(iv 8), (.int .u64 (wU64 t15))] [.c .slice] fun (t17 : Sl) =>
 app 5 1 1 [(uv 0)] ⟨(some (bA r_1 0)), 8, 8⟩ t17 fun t18 =>
 ldI (bA r 1) fun t22 =>
 callF Tryz.prog 188 [(iv 4), (.int .u64 (wU64 t22))] [.c .slice] fun (t24 : Sl) =>
 app 5 1 1 [(uv 0)] t18 t24 fun t25 =>
 ldI (bA r 2) fun t29 =>
 callF Tryz.prog 188 [(iv 4), (.int .u64 (wU64 t29))] [.c .slice] fun (t31 : Sl) =>
 app 5 1 1 [(uv 0)] t25 t31 fun t32 =>
 ldI (bA r 3) fun t36 =>
 callF Tryz.prog 188 [(iv 4), (.int .u64 (wU64 t36))] [.c .slice] fun (t38 : Sl) =>
 app 5 1 1 [(uv 0)] t32 t38 fun t39 =>
 ldI (bA r 4) fun t43 =>
 callF Tryz.prog 188 [(iv 4), (.int .u64 (wU64 t43))] [.c .slice] fun (t45 : Sl) =>
 app 5 1 1 [(uv 0)] t39 t45 fun t46 =>
 ldI (bA r 5) fun t49 =>
 callF Tryz.prog 188 [(iv 8), (.int .u64 (wU64 t49))] [.c .slice] fun (t51 : Sl) =>
 app 5 1 1 [(uv 0)] t46 t51 fun t52 =>
 loopE (S:=Sl) (fun X s =>
 br (decide ((s.len : Int) < 60)) (
 nw (.cells #[(uv 0)] 5) fun r_2 =>
 app 5 1 1 [(uv 0)] s ⟨(some ⟨r_2, 0, none⟩), 1, 1⟩ fun t58 =>
 X t58) (
 callF Tryz.prog 189 [(slV s)] [.c (.int .u32)] fun (t61 : Int) =>
 callF Tryz.prog 188 [(iv 4), (.int .u64 (wU64 t61))] [.c .slice] fun (t63 : Sl) =>
 app 5 1 1 [(uv 0)] s t63 fun t64 =>
 loopE (S:=Sl) (fun X_1 s_1 =>
 br (decide ((s_1.len : Int) < 256)) (
 nw (.cells #[(uv 0)] 5) fun r_3 =>
 app 5 1 1 [(uv 0)] s_1 ⟨(some ⟨r_3, 0, none⟩), 1, 1⟩ fun t70 =>
 X_1 t70) (
 Q (s_1, 0))) t64)) t52)
theorem F138_calls (p0_0 : Int) (p0_1 : Int) (p0_2 : Int) (p0_3 : Int) (p0_4 : Int) (p0_5 : Int) (Q : Sl × Int → Pr) (w : World) (h : F138 p0_0 p0_1 p0_2 p0_3 p0_4 p0_5 Q w) : Calls Tryz.prog 138 #[(.agg #[(iv p0_0), (iv p0_1), (iv p0_2), (iv p0_3), (iv p0_4), (iv p0_5)])] w (RetT [.c .slice, .c I64] Q) := cF (an := an138) Tryz.func138 (by kernel_rfl) h
end Go.Proofs

set_option maxRecDepth 100000
namespace Go.Proofs
open Go.Eng
def an183 : An := (.sq .z (.sq (.sq (.jn [(12, .c .bool)] .z) (.br (.sq .z .z) .z)) (.sq .z (.sq (.sq .z (.bl (.lp [(16, .c (.int .i64))] (.sq .z (.sq (.br .z .z) (.sq (.bl (.sq .z .z)) .z)))))) (.sq .z .z)))))
def F183 (p0 : Int) (p1 : Int) (Q : Sl → Pr) : Pr :=
 jn (S := Bool) (fun R =>
 br (decide (p0 < 1)) (
 R true) (
 R ((decide (p0 > 8))))) fun s =>
 br s (
 Q (⟨none, 0, 0⟩)) (
 mkS 5 1 [(.int .u8 0)] p0 p0 fun t14 =>
 loopE (S := Int) (fun X s_1 =>
 br (decide (s_1 < p0)) (
 owe ((0 : Int) ≤ (IntKind.wrap .i64 (8 * s_1))) <|
 owe ((0 : Int) ≤ s_1 ∧ s_1 < (t14.len : Int)) <|
 deref t14.a fun a =>
 deref (some (a.add (Int.toNat s_1 * 1))) fun a_1 =>
 st a_1 (.int .u8 (IntKind.wrap .u8 (bShr .u64 p1 (IntKind.wrap .i64 (8 * s_1))))) <|
 X ((IntKind.wrap .i64 (s_1 + 1)))) (
 Q t14)) 0)
theorem F183_calls (p0 : Int) (p1 : Int) (Q : Sl → Pr) (w : World) (h : F183 p0 p1 Q w) : Calls Tryz.prog 183 #[(.int .i64 p0), (.int .u64 p1)] w (RetT [.c .slice] Q) := cF (an := an183) Tryz.func183 (by kernel_rfl) h
def an212 : An := (.sq .z (.sq .z (.sq (.sq .z (.bl (.lp [(3, .c (.int .u32)), (8, .c (.int .i64))] (.sq .z (.sq (.br .z .z) (.sq (.bl (.sq .z (.sq .z (.sq .z (.bl (.lp [(3, .c (.int .u32)), (16, .c (.int .i64))] (.sq .z (.sq (.br .z .z) (.sq (.bl .z) .z))))))))) .z)))))) (.sq .z .z))))
def F212 (p0 : Sl) (Q : Int → Pr) : Pr :=
 loopE (S := Int × Int) (fun X s =>
 br (decide (s.2 < (p0.len : Int))) (
 owe ((0 : Int) ≤ s.2 ∧ s.2 < (p0.len : Int)) <|
 deref p0.a fun a =>
 deref (some (a.add (Int.toNat s.2 * 1))) fun a_1 =>
 ldC (.int .u8) a_1 fun (t11 : Int) =>
 loopE (S := Int × Int) (fun X_1 s_1 =>
 br (decide (s_1.2 < 8)) (
 owe ((0 : Int) ≤ 1) <|
 X_1 ((bXor .u32 (bShr .u32 s_1.1 1) (IntKind.wrap .u32 (2197175160 * (bAnd .u32 s_1.1 1)))), (IntKind.wrap .i64 (s_1.2 + 1)))) (
 X (s_1.1, (IntKind.wrap .i64 (s.2 + 1))))) ((bXor .u32 s.1 (IntKind.wrap .u32 t11)), 0)) (
 Q ((bXor .u32 4294967295 s.1)))) (4294967295, 0)
theorem F212_calls (p0 : Sl) (Q : Int → Pr) (w : World) (h : F212 p0 Q w) : Calls Tryz.prog 212 #[(slV p0)] w (RetT [.c (.int .u32)] Q) := cF (an := an212) Tryz.func212 (by kernel_rfl) h
def an184 : An := (.sq .z (.sq .z .z))
def F184 (p0 : Sl) (Q : Sl → Pr) : Pr :=
 callF Tryz.prog 212 [(.slice p0.a p0.len p0.cap)] [.c (.int .u32)] fun (t5 : Int) =>
 callF Tryz.prog 183 [(.int .i64 4), (.int .u64 (IntKind.wrap .u64 t5))] [.c .slice] fun (t7 : Sl) =>
 nw (.cells #[(.slice p0.a p0.len p0.cap), (.slice t7.a t7.len t7.cap)] 33) fun r =>
 callF Tryz.prog 79 [(.slice (some ⟨r, 0, none⟩) 2 2)] [.c .slice] fun (t9 : Sl) =>
 Q t9
theorem F184_calls (p0 : Sl) (Q : Sl → Pr) (w : World) (h : F184 p0 Q w) : Calls Tryz.prog 184 #[(slV p0)] w (RetT [.c .slice] Q) := cF (an := an184) Tryz.func184 (by kernel_rfl) h
def an188 : An := (.sq .z (.sq (.sq (.jn [(12, .c .bool)] .z) (.br (.sq .z .z) .z)) (.sq .z (.sq (.sq .z (.bl (.lp [(5, .c .slice), (6, .c (.int .i64))] (.sq (.sq .z (.br .z .z)) (.sq (.bl .z) .z))))) (.sq .z .z)))))
def F188 (p0 : Int) (p1 : Int) (Q : Sl → Pr) : Pr :=
 jn (S := Bool) (fun R =>
 br (decide (p0 < 1)) (
 R true) (
 R ((decide (p0 > 8))))) fun s =>
 br s (
 Q (⟨none, 0, 0⟩)) (
 loopE (S := Sl × Int) (fun X s_1 =>
 br (decide (s_1.2 < p0)) (
 owe ((0 : Int) ≤ (IntKind.wrap .u64 (IntKind.wrap .i64 (8 * s_1.2)))) <|
 nw (.cells #[(.int .u8 (IntKind.wrap .u8 (bShr .u64 p1 (IntKind.wrap .u64 (IntKind.wrap .i64 (8 * s_1.2))))))] 5) fun r =>
 app 5 1 1 [(.int .u8 0)] s_1.1 ⟨(some ⟨r, 0, none⟩), 1, 1⟩ fun t26 =>
 X (t26, (IntKind.wrap .i64 (s_1.2 + 1)))) (
 Q s_1.1)) (⟨none, 0, 0⟩, 0))
theorem F188_calls (p0 : Int) (p1 : Int) (Q : Sl → Pr) (w : World) (h : F188 p0 p1 Q w) : Calls Tryz.prog 188 #[(.int .i64 p0), (.int .u64 p1)] w (RetT [.c .slice] Q) := cF (an := an188) Tryz.func188 (by kernel_rfl) h
def an189 : An := (.sq .z (.sq .z (.sq (.sq .z (.bl (.lp [(3, .c (.int .u32)), (4, .c (.int .i64))] (.sq (.sq .z (.br .z .z)) (.sq (.bl (.sq .z (.sq .z (.bl (.lp [(3, .c (.int .u32)), (5, .c (.int .i64))] (.sq (.sq .z (.br .z .z)) (.sq (.jn [(3, .c (.int .u32))] (.bl (.sq .z (.br .z .z)))) .z))))))) .z))))) (.sq .z .z))))
def F189 (p0 : Sl) (Q : Int → Pr) : Pr :=
 loopE (S := Int × Int) (fun X s =>
 br (decide (s.2 < (p0.len : Int))) (
 owe ((0 : Int) ≤ s.2 ∧ s.2 < (p0.len : Int)) <|
 deref p0.a fun a =>
 deref (some (a.add (Int.toNat s.2 * 1))) fun a_1 =>
 ldC (.int .u8) a_1 fun (t16 : Int) =>
 loopE (S := Int × Int) (fun X_1 s_1 =>
 br (decide (s_1.2 < 8)) (
 jn (S := Int) (fun R =>
 owe ((2 : Int) ≠ 0) <|
 br ((s_1.1.tmod 2) == 1) (
 owe ((0 : Int) ≤ 1) <|
 R ((bXor .u32 (bShr .u32 s_1.1 1) 2197175160))) (
 owe ((0 : Int) ≤ 1) <|
 R ((bShr .u32 s_1.1 1)))) fun s_2 =>
 X_1 (s_2, (IntKind.wrap .i64 (s_1.2 + 1)))) (
 X (s_1.1, (IntKind.wrap .i64 (s.2 + 1))))) ((bXor .u32 s.1 (IntKind.wrap .u32 t16)), 0)) (
 Q ((bXor .u32 4294967295 s.1)))) (4294967295, 0)
theorem F189_calls (p0 : Sl) (Q : Int → Pr) (w : World) (h : F189 p0 Q w) : Calls Tryz.prog 189 #[(slV p0)] w (RetT [.c (.int .u32)] Q) := cF (an := an189) Tryz.func189 (by kernel_rfl) h
def an231 : An := (.sq .z (.sq (.sq (.jn [(33, .c .bool)] .z) (.br (.sq .z .z) .z)) (.sq .z (.sq (.sq .z (.bl (.lp [(8, .c (.int .u64)), (35, .c (.int .i64))] (.sq .z (.sq (.br .z .z) (.sq (.bl (.sq .z .z)) .z)))))) (.sq .z .z)))))
def F231 (p0 : Sl) (p1 : Int) (p2 : Int) (Q : Int × Bool → Pr) : Pr :=
 jn (S := Bool) (fun R =>
 br (decide (p2 < 1)) (
 R true) (
 br (decide (p2 > 8)) (
 R true) (
 br (decide (p1 < 0)) (
 R true) (
 br (decide (p1 > (p0.len : Int))) (
 R true) (
 R ((decide (p2 > (IntKind.wrap .i64 ((p0.len : Int) - p1)))))))))) fun s =>
 br s (
 Q (0, false)) (
 loopE (S := Int × Int) (fun X s_1 =>
 br (decide (s_1.2 < p2)) (
 owe ((0 : Int) ≤ (IntKind.wrap .i64 (p1 + s_1.2)) ∧ (IntKind.wrap .i64 (p1 + s_1.2)) < (p0.len : Int)) <|
 deref p0.a fun a =>
 deref (some (a.add (Int.toNat (IntKind.wrap .i64 (p1 + s_1.2)) * 1))) fun a_1 =>
 ldC (.int .u8) a_1 fun (t44 : Int) =>
 owe ((0 : Int) ≤ (IntKind.wrap .i64 (8 * s_1.2))) <|
 X ((bOr .u64 s_1.1 (bShl .u64 (IntKind.wrap .u64 t44) (IntKind.wrap .i64 (8 * s_1.2)))), (IntKind.wrap .i64 (s_1.2 + 1)))) (
 Q (s_1.1, true))) (0, 0))
theorem F231_calls (p0 : Sl) (p1 : Int) (p2 : Int) (Q : Int × Bool → Pr) (w : World) (h : F231 p0 p1 p2 Q w) : Calls Tryz.prog 231 #[(slV p0), (.int .i64 p1), (.int .i64 p2)] w (RetT [.c (.int .u64), .c .bool] Q) := cF (an := an231) Tryz.func231 (by kernel_rfl) h
end Go.Proofs

set_option maxRecDepth 100000
namespace Go.Proofs
open Go.Eng
def an45 : An := (.sq .z (.sq (.sq (.jn [(11, .c .bool)] .z) (.br (.sq .z .z) .z)) (.sq .z (.sq (.sq .z (.bl (.lp [(5, .c (.int .i64))] (.sq (.sq .z (.br .z .z)) (.sq (.jn [] (.bl .z)) .z))))) (.sq .z .z)))))
def F45 (p0 : Int) (Q : (Option Addr) × Int → Pr) : Pr :=
 jn (S := Bool) (fun R =>
 br (decide (p0 < 1)) (
 R true) (
 R ((decide (p0 > 2048))))) fun s =>
 br s (
 Q (none, 1)) (
 nw (.cells #[(.slice none 0 0), (.slice none 0 0), (.bool false), (.int .i64 0), (.int .i64 0), (.slice none 0 0)] 134) fun r =>
 loopE (S := Int) (fun X s_1 =>
 br (decide (s_1 < p0)) (
 jn (S := Unit) (fun R_1 =>
 drw <|
 deref (some ⟨r, 0, none⟩) fun a =>
 deref (some a) fun a_1 =>
 both (
 deref (some (a_1.add 0)) fun a_2 =>
 ldC .slice a_2 fun (t23 : Sl) =>
 mkS 5 1 [(.int .u8 0)] 256 256 fun t24 =>
 nw (.cells #[(.slice t24.a t24.len t24.cap)] 33) fun r_1 =>
 app 33 1 24 [(.slice none 0 0)] t23 ⟨(some ⟨r_1, 0, none⟩), 1, 1⟩ fun t26 =>
 deref (some ⟨r, 0, none⟩) fun a_3 =>
 deref (some a_3) fun a_4 =>
 deref (some (a_4.add 0)) fun a_5 =>
 st a_5 (.slice t26.a t26.len t26.cap) <|
 R_1 ()) (
 mkS 5 1 [(.int .u8 0)] 256 256 fun t24_1 =>
 deref (some (a_1.add 0)) fun a_6 =>
 ldC .slice a_6 fun (t23_1 : Sl) =>
 nw (.cells #[(.slice t24_1.a t24_1.len t24_1.cap)] 33) fun r_2 =>
 app 33 1 24 [(.slice none 0 0)] t23_1 ⟨(some ⟨r_2, 0, none⟩), 1, 1⟩ fun t26_1 =>
 deref (some ⟨r, 0, none⟩) fun a_7 =>
 deref (some a_7) fun a_8 =>
 deref (some (a_8.add 0)) fun a_9 =>
 st a_9 (.slice t26_1.a t26_1.len t26_1.cap) <|
 R_1 ())) fun s_2 =>
 X ((IntKind.wrap .i64 (s_1 + 1)))) (
 Q ((some ⟨r, 0, none⟩), 0))) 0)
theorem F45_calls (p0 : Int) (Q : (Option Addr) × Int → Pr) (w : World) (h : F45 p0 Q w) : Calls Tryz.prog 45 #[(.int .i64 p0)] w (RetT [.c .ptr, .c (.int .i64)] Q) := cF (an := an45) Tryz.func45 (by kernel_rfl) h
def an185 : An := (.sq .z (.sq .z (.sq (.sq .z (.br (.sq .z .z) .z)) (.sq .z (.sq .z .z)))))
def F185 (p0 : Option Addr) (Q : Bool → Pr) : Pr :=
 deref p0 fun a =>
 deref (some a) fun a_1 =>
 deref (some (a_1.add 3)) fun a_2 =>
 ldC (.int .i64) a_2 fun (t6 : Int) =>
 deref p0 fun a_3 =>
 deref (some a_3) fun a_4 =>
 deref (some (a_4.add 3)) fun a_5 =>
 st a_5 (.int .i64 (IntKind.wrap .i64 (t6 + 1))) <|
 deref p0 fun a_6 =>
 deref (some a_6) fun a_7 =>
 deref (some (a_7.add 4)) fun a_8 =>
 ldC (.int .i64) a_8 fun (t13 : Int) =>
 br (t13 == 0) (
 Q false) (
 deref p0 fun a_9 =>
 deref (some a_9) fun a_10 =>
 deref (some (a_10.add 4)) fun a_11 =>
 ldC (.int .i64) a_11 fun (t18 : Int) =>
 deref p0 fun a_12 =>
 deref (some a_12) fun a_13 =>
 deref (some (a_13.add 4)) fun a_14 =>
 st a_14 (.int .i64 (IntKind.wrap .i64 (t18 - 1))) <|
 deref p0 fun a_15 =>
 deref (some a_15) fun a_16 =>
 deref (some (a_16.add 4)) fun a_17 =>
 ldC (.int .i64) a_17 fun (t25 : Int) =>
 Q ((t25 == 0)))
theorem F185_calls (p0 : Option Addr) (Q : Bool → Pr) (w : World) (h : F185 p0 Q w) : Calls Tryz.prog 185 #[(.pointer p0)] w (RetT [.c .bool] Q) := cF (an := an185) Tryz.func185 (by kernel_rfl) h
def an186 : An := (.sq .z (.sq .z (.sq (.sq .z (.bl (.lp [(7, .c (.int .i64))] (.sq (.sq .z (.br .z .z)) (.sq (.jn [] (.bl (.sq .z (.br .z .z)))) .z))))) .z)))
def F186 (p0 : Option Addr) (p1_0 : Int) (p1_1 : Sl) (p2 : Int) (Q : Unit → Pr) : Pr :=
 nw (.cells #[(.int .i64 p1_0), (.slice p1_1.a p1_1.len p1_1.cap)] 143) fun r =>
 drw <|
 deref p0 fun a =>
 deref (some a) fun a_1 =>
 deref (some (a_1.add 0)) fun a_2 =>
 ldC .slice a_2 fun (t11 : Sl) =>
 deref (some ⟨r, 0, none⟩) fun a_3 =>
 deref (some (a_3.add 0)) fun a_4 =>
 ldC (.int .i64) a_4 fun (t13 : Int) =>
 owe ((0 : Int) ≤ t13 ∧ t13 < (t11.len : Int)) <|
 deref t11.a fun a_5 =>
 deref (some (a_5.add (Int.toNat t13 * 1))) fun a_6 =>
 ldC .slice a_6 fun (t15 : Sl) =>
 app 5 1 1 [(.int .u8 0)] ⟨none, 0, 0⟩ t15 fun t16 =>
 loopE (S := Int) (fun X s =>
 br (decide (s < 256)) (
 jn (S := Unit) (fun R =>
 owe ((64 : Int) ≠ 0) <|
 owe ((0 : Int) ≤ (IntKind.wrap .u64 (IntKind.wrap .i64 (s.tdiv 64)))) <|
 br ((bAnd .u8 (bShr .u8 p2 (IntKind.wrap .u64 (IntKind.wrap .i64 (s.tdiv 64)))) 1) == 1) (
 deref (some ⟨r, 0, none⟩) fun a_7 =>
 deref (some (a_7.add 1)) fun a_8 =>
 ldC .slice a_8 fun (t31 : Sl) =>
 owe ((0 : Int) ≤ s ∧ s < (t31.len : Int)) <|
 deref t31.a fun a_9 =>
 deref (some (a_9.add (Int.toNat s * 1))) fun a_10 =>
 ldC (.int .u8) a_10 fun (t34 : Int) =>
 owe ((0 : Int) ≤ s ∧ s < (t16.len : Int)) <|
 deref t16.a fun a_11 =>
 deref (some (a_11.add (Int.toNat s * 1))) fun a_12 =>
 st a_12 (.int .u8 t34) <|
 R ()) (
 R ())) fun s_1 =>
 X ((IntKind.wrap .i64 (s + 1)))) (
 drw <|
 deref p0 fun a_13 =>
 deref (some a_13) fun a_14 =>
 deref (some (a_14.add 0)) fun a_15 =>
 ldC .slice a_15 fun (t39 : Sl) =>
 deref (some ⟨r, 0, none⟩) fun a_16 =>
 deref (some (a_16.add 0)) fun a_17 =>
 ldC (.int .i64) a_17 fun (t41 : Int) =>
 owe ((0 : Int) ≤ t41 ∧ t41 < (t39.len : Int)) <|
 deref t39.a fun a_18 =>
 deref (some (a_18.add (Int.toNat t41 * 1))) fun a_19 =>
 st a_19 (.slice t16.a t16.len t16.cap) <|
 Q ())) 0
theorem F186_calls (p0 : Option Addr) (p1_0 : Int) (p1_1 : Sl) (p2 : Int) (Q : Unit → Pr) (w : World) (h : F186 p0 p1_0 p1_1 p2 Q w) : Calls Tryz.prog 186 #[(.pointer p0), (.agg #[(.int .i64 p1_0), (slV p1_1)]), (.int .u8 p2)] w (RetT [] Q) := cF (an := an186) Tryz.func186 (by kernel_rfl) h
def an150 : An := (.sq .z (.sq (.sq .z (.br (.sq .z .z) .z)) (.sq (.sq .z (.bl (.lp [(5, .c (.int .i64))] (.sq (.sq (.jn [(22, .c .bool)] .z) (.br .z .z)) (.sq (.bl .z) .z))))) (.sq .z (.sq .z (.sq .z (.sq .z (.sq .z .z))))))))
def F150 (p0 : Option Addr) (p1 : Sl) (Q : Int → Pr) : Pr :=
 deref p0 fun a =>
 deref (some a) fun a_1 =>
 deref (some (a_1.add 2)) fun a_2 =>
 ldC .bool a_2 fun (t9 : Bool) =>
 br t9 (
 Q 5) (
 loopE (S := Int) (fun X s =>
 jn (S := Bool) (fun R =>
 deref p0 fun a_3 =>
 deref (some a_3) fun a_4 =>
 deref (some (a_4.add 1)) fun a_5 =>
 ldC .slice a_5 fun (t14 : Sl) =>
 br (decide (s < (t14.len : Int))) (
 R ((decide (s < (p1.len : Int))))) (
 R false)) fun s_1 =>
 br s_1 (
 drw <|
 deref p0 fun a_6 =>
 deref (some a_6) fun a_7 =>
 deref (some (a_7.add 1)) fun a_8 =>
 ldC .slice a_8 fun (t29 : Sl) =>
 owe ((0 : Int) ≤ s ∧ s < (t29.len : Int)) <|
 deref t29.a fun a_9 =>
 deref (some (a_9.add (Int.toNat s * 2))) fun a_10 =>
 ldA [(.int .i64), .slice] a_10 fun (t32 : Int × Sl) =>
 owe ((0 : Int) ≤ s ∧ s < (p1.len : Int)) <|
 deref p1.a fun a_11 =>
 deref (some (a_11.add (Int.toNat s * 1))) fun a_12 =>
 ldC (.int .u8) a_12 fun (t36 : Int) =>
 callF Tryz.prog 186 [(.pointer p0), (.agg #[(.int .i64 t32.1), (.slice t32.2.a t32.2.len t32.2.cap)]), (.int .u8 t36)] [] fun (t37 : Unit) =>
 X ((IntKind.wrap .i64 (s + 1)))) (
 deref p0 fun a_13 =>
 deref (some a_13) fun a_14 =>
 deref (some (a_14.add 1)) fun a_15 =>
 st a_15 (.slice none 0 0) <|
 deref p0 fun a_16 =>
 deref (some a_16) fun a_17 =>
 deref (some (a_17.add 2)) fun a_18 =>
 st a_18 (.bool true) <|
 deref p0 fun a_19 =>
 deref (some a_19) fun a_20 =>
 deref (some (a_20.add 4)) fun a_21 =>
 st a_21 (.int .i64 0) <|
 deref p0 fun a_22 =>
 deref (some a_22) fun a_23 =>
 deref (some (a_23.add 5)) fun a_24 =>
 st a_24 (.slice none 0 0) <|
 Q 0)) 0)
theorem F150_calls (p0 : Option Addr) (p1 : Sl) (Q : Int → Pr) (w : World) (h : F150 p0 p1 Q w) : Calls Tryz.prog 150 #[(.pointer p0), (slV p1)] w (RetT [.c (.int .i64)] Q) := cF (an := an150) Tryz.func150 (by kernel_rfl) h
def an136 : An := (.sq .z (.sq (.sq .z (.br (.sq .z .z) .z)) (.sq (.sq (.jn [(21, .c .bool)] .z) (.br (.sq .z .z) .z)) (.sq (.sq .z (.br (.sq .z .z) .z)) (.sq .z (.sq (.sq .z (.br (.sq .z (.sq .z .z)) .z)) (.sq .z .z)))))))
def F136 (p0 : Option Addr) (p1 : Int) (p2 : Sl) (Q : Int → Pr) : Pr :=
 deref p0 fun a =>
 deref (some a) fun a_1 =>
 deref (some (a_1.add 2)) fun a_2 =>
 ldC .bool a_2 fun (t10 : Bool) =>
 br t10 (
 Q 5) (
 jn (S := Bool) (fun R =>
 br (decide (p1 < 0)) (
 R true) (
 deref p0 fun a_3 =>
 deref (some a_3) fun a_4 =>
 deref (some (a_4.add 0)) fun a_5 =>
 ldC .slice a_5 fun (t18 : Sl) =>
 R ((decide (p1 ≥ (t18.len : Int)))))) fun s =>
 br s (
 Q 30) (
 br ((p2.len : Int) != 256) (
 Q 31) (
 drw <|
 deref p0 fun a_6 =>
 deref (some a_6) fun a_7 =>
 deref (some (a_7.add 1)) fun a_8 =>
 ldC .slice a_8 fun (t29 : Sl) =>
 app 5 1 1 [(.int .u8 0)] ⟨none, 0, 0⟩ p2 fun t32 =>
 nw (.cells #[(.int .i64 p1), (.slice t32.a t32.len t32.cap)] 143) fun r =>
 app 143 2 32 [(.int .i64 0), (.slice none 0 0)] t29 ⟨(some ⟨r, 0, none⟩), 1, 1⟩ fun t35 =>
 deref p0 fun a_9 =>
 deref (some a_9) fun a_10 =>
 deref (some (a_10.add 1)) fun a_11 =>
 st a_11 (.slice t35.a t35.len t35.cap) <|
 callF Tryz.prog 185 [(.pointer p0)] [.c .bool] fun (t39 : Bool) =>
 br t39 (
 deref p0 fun a_12 =>
 deref (some a_12) fun a_13 =>
 deref (some (a_13.add 5)) fun a_14 =>
 ldC .slice a_14 fun (t44 : Sl) =>
 callF Tryz.prog 150 [(.pointer p0), (.slice t44.a t44.len t44.cap)] [.c (.int .i64)] fun (t45 : Int) =>
 Q 5) (
 Q 0))))
theorem F136_calls (p0 : Option Addr) (p1 : Int) (p2 : Sl) (Q : Int → Pr) (w : World) (h : F136 p0 p1 p2 Q w) : Calls Tryz.prog 136 #[(.pointer p0), (.int .i64 p1), (slV p2)] w (RetT [.c (.int .i64)] Q) := cF (an := an136) Tryz.func136 (by kernel_rfl) h
def an39 : An := (.sq .z (.sq (.sq .z (.br (.sq .z .z) .z)) (.sq (.sq .z (.br (.sq .z .z) .z)) (.sq .z (.sq .z (.sq .z .z))))))
def F39 (p0 : Option Addr) (p1 : Int) (p2 : Sl) (Q : Int → Pr) : Pr :=
 deref p0 fun a =>
 deref (some a) fun a_1 =>
 deref (some (a_1.add 2)) fun a_2 =>
 ldC .bool a_2 fun (t10 : Bool) =>
 br t10 (
 Q 5) (
 br (decide (p1 < 0)) (
 Q 1) (
 deref p0 fun a_3 =>
 deref (some a_3) fun a_4 =>
 deref (some (a_4.add 4)) fun a_5 =>
 st a_5 (.int .i64 p1) <|
 app 5 1 1 [(.int .u8 0)] ⟨none, 0, 0⟩ p2 fun t19 =>
 deref p0 fun a_6 =>
 deref (some a_6) fun a_7 =>
 deref (some (a_7.add 5)) fun a_8 =>
 st a_8 (.slice t19.a t19.len t19.cap) <|
 Q 0))
theorem F39_calls (p0 : Option Addr) (p1 : Int) (p2 : Sl) (Q : Int → Pr) (w : World) (h : F39 p0 p1 p2 Q w) : Calls Tryz.prog 39 #[(.pointer p0), (.int .i64 p1), (slV p2)] w (RetT [.c (.int .i64)] Q) := cF (an := an39) Tryz.func39 (by kernel_rfl) h
def an38 : An := (.sq .z (.sq (.sq .z (.sq .z (.br (.sq .z .z) .z))) (.sq (.sq .z (.br (.sq .z .z) .z)) (.sq .z (.sq .z .z)))))
def F38 (p0 : Option Addr) (p1 : Int) (p2 : Sl) (Q : Int → Pr) : Pr :=
 callF Tryz.prog 67 [(.pointer p0)] [.c (.int .i64)] fun (t9 : Int) =>
 br (t9 != 0) (
 Q t9) (
 br (decide (p1 < 0)) (
 Q 1) (
 callF Tryz.prog 86 [(.slice p2.a p2.len p2.cap)] [.c .slice] fun (t19 : Sl) =>
 deref p0 fun a =>
 deref (some a) fun a_1 =>
 deref (some (a_1.add 4)) fun a_2 =>
 st a_2 (.int .i64 p1) <|
 deref p0 fun a_3 =>
 deref (some a_3) fun a_4 =>
 deref (some (a_4.add 5)) fun a_5 =>
 st a_5 (.slice t19.a t19.len t19.cap) <|
 Q 0))
theorem F38_calls (p0 : Option Addr) (p1 : Int) (p2 : Sl) (Q : Int → Pr) (w : World) (h : F38 p0 p1 p2 Q w) : Calls Tryz.prog 38 #[(.pointer p0), (.int .i64 p1), (slV p2)] w (RetT [.c (.int .i64)] Q) := cF (an := an38) Tryz.func38 (by kernel_rfl) h
def an23 : An := (.sq .z (.sq (.sq .z (.bl (.sq .z (.br (.sq .z .z) (.sq .z (.br (.sq .z (.sq .z .z)) .z)))))) (.sq .z .z)))
def F23 (p0 : Option Addr) (Q : Int → Pr) : Pr :=
 callF Tryz.prog 67 [(.pointer p0)] [.c (.int .i64)] fun (t4 : Int) =>
 br (t4 == 0) (
 Q 7) (
 br (t4 == 5) (
 deref p0 fun a =>
 deref (some a) fun a_1 =>
 deref (some (a_1.add 2)) fun a_2 =>
 st a_2 (.bool false) <|
 Q 0) (
 Q 2))
theorem F23_calls (p0 : Option Addr) (Q : Int → Pr) (w : World) (h : F23 p0 Q w) : Calls Tryz.prog 23 #[(.pointer p0)] w (RetT [.c (.int .i64)] Q) := cF (an := an23) Tryz.func23 (by kernel_rfl) h
def an25 : An := (.sq .z (.sq (.sq .z (.br (.sq .z .z) .z)) (.sq .z .z)))
def F25 (p0 : Option Addr) (Q : Sl → Pr) : Pr :=
 owe True <|
 br (Option.isNone p0) (
 Q (⟨none, 0, 0⟩)) (
 deref p0 fun a =>
 deref (some a) fun a_1 =>
 deref (some (a_1.add 0)) fun a_2 =>
 ldC .slice a_2 fun (t8 : Sl) =>
 callF Tryz.prog 79 [(.slice t8.a t8.len t8.cap)] [.c .slice] fun (t9 : Sl) =>
 Q t9)
theorem F25_calls (p0 : Option Addr) (Q : Sl → Pr) (w : World) (h : F25 p0 Q w) : Calls Tryz.prog 25 #[(.pointer p0)] w (RetT [.c .slice] Q) := cF (an := an25) Tryz.func25 (by kernel_rfl) h
def an92 : An := (.sq .z (.sq .z (.sq (.sq .z (.bl (.lp [(3, .c .slice), (4, .c (.int .i64))] (.sq (.sq .z (.br .z .z)) (.sq (.bl .z) .z))))) (.sq .z .z))))
def F92 (p0 : Option Addr) (Q : Sl → Pr) : Pr :=
 loopE (S := Sl × Int) (fun X s =>
 deref p0 fun a =>
 deref (some a) fun a_1 =>
 deref (some (a_1.add 0)) fun a_2 =>
 ldC .slice a_2 fun (t9 : Sl) =>
 br (decide (s.2 < (t9.len : Int))) (
 deref p0 fun a_3 =>
 deref (some a_3) fun a_4 =>
 deref (some (a_4.add 0)) fun a_5 =>
 ldC .slice a_5 fun (t18 : Sl) =>
 owe ((0 : Int) ≤ s.2 ∧ s.2 < (t18.len : Int)) <|
 deref t18.a fun a_6 =>
 deref (some (a_6.add (Int.toNat s.2 * 1))) fun a_7 =>
 ldC .slice a_7 fun (t21 : Sl) =>
 app 5 1 1 [(.int .u8 0)] s.1 t21 fun t22 =>
 X (t22, (IntKind.wrap .i64 (s.2 + 1)))) (
 Q s.1)) (⟨none, 0, 0⟩, 0)
theorem F92_calls (p0 : Option Addr) (Q : Sl → Pr) (w : World) (h : F92 p0 Q w) : Calls Tryz.prog 92 #[(.pointer p0)] w (RetT [.c .slice] Q) := cF (an := an92) Tryz.func92 (by kernel_rfl) h
def an79 : An := (.sq .z (.sq .z (.sq (.sq .z (.bl (.lp [(3, .c (.int .i64)), (11, .c (.int .i64))] (.sq .z (.sq (.br .z .z) (.sq (.jn [(3, .c (.int .i64))] (.bl (.sq .z (.sq .z (.sq .z (.br .z .z)))))) .z)))))) (.sq .z (.sq (.sq .z (.bl (.lp [(6, .c .slice), (27, .c (.int .i64))] (.sq .z (.sq (.br .z .z) (.sq (.bl (.sq .z .z)) .z)))))) (.sq .z .z))))))
def F79 (p0 : Sl) (Q : Sl → Pr) : Pr :=
 loopE (S := Int × Int) (fun X s =>
 br (decide (s.2 < (p0.len : Int))) (
 jn (S := Int) (fun R =>
 owe ((0 : Int) ≤ s.2 ∧ s.2 < (p0.len : Int)) <|
 deref p0.a fun a =>
 deref (some (a.add (Int.toNat s.2 * 1))) fun a_1 =>
 ldC .slice a_1 fun (t14 : Sl) =>
 br (decide ((IntKind.wrap .i64 (s.1 + (t14.len : Int))) < 0)) (
 fls) (
 R ((IntKind.wrap .i64 (s.1 + (t14.len : Int)))))) fun s_1 =>
 X (s_1, (IntKind.wrap .i64 (s.2 + 1)))) (
 callF Tryz.prog 135 [(.slice none 0 0), (.int .i64 s.1)] [.c .slice] fun (t24 : Sl) =>
 loopE (S := Sl × Int) (fun X_1 s_2 =>
 br (decide (s_2.2 < (p0.len : Int))) (
 owe ((0 : Int) ≤ s_2.2 ∧ s_2.2 < (p0.len : Int)) <|
 deref p0.a fun a_2 =>
 deref (some (a_2.add (Int.toNat s_2.2 * 1))) fun a_3 =>
 ldC .slice a_3 fun (t30 : Sl) =>
 app 5 1 1 [(.int .u8 0)] s_2.1 t30 fun t33 =>
 X_1 (t33, (IntKind.wrap .i64 (s_2.2 + 1)))) (
 Q s_2.1)) (t24, 0))) (0, 0)
theorem F79_calls (p0 : Sl) (Q : Sl → Pr) (w : World) (h : F79 p0 Q w) : Calls Tryz.prog 79 #[(slV p0)] w (RetT [.c .slice] Q) := cF (an := an79) Tryz.func79 (by kernel_rfl) h
def an135 : An := (.sq .z (.sq (.jn [] (.sq .z (.br .z .z))) (.sq (.sq .z (.sq .z (.br .z .z))) (.sq .z .z))))
def F135 (p0 : Sl) (p1 : Int) (Q : Sl → Pr) : Pr :=
 jn (S := Unit) (fun R =>
 br (decide (p1 < 0)) (
 fls) (
 R ())) fun s =>
 br (decide ((IntKind.wrap .i64 (p1 - (IntKind.wrap .i64 ((p0.cap : Int) - (p0.len : Int))))) > 0)) (
 slc 1 p0 none (some (p0.cap : Int)) none fun t20 =>
 appZ 5 1 1 [(.int .u8 0)] t20 (IntKind.wrap .i64 (p1 - (IntKind.wrap .i64 ((p0.cap : Int) - (p0.len : Int))))) fun t22 =>
 slc 1 t22 none (some (p0.len : Int)) none fun t25 =>
 Q t25) (
 Q p0)
theorem F135_calls (p0 : Sl) (p1 : Int) (Q : Sl → Pr) (w : World) (h : F135 p0 p1 Q w) : Calls Tryz.prog 135 #[(slV p0), (.int .i64 p1)] w (RetT [.c .slice] Q) := cF (an := an135) Tryz.func135 (by kernel_rfl) h
end Go.Proofs

set_option maxRecDepth 20000
namespace Go.Proofs
open Go.Eng
def numB (n v : Nat) : List UInt8 := (List.range n).map fun i => UInt8.ofNat (v / 2 ^ (8 * i))
@[simp] theorem numB_len (n v : Nat) : (numB n v).length = n := by simp [numB]
def leN : List UInt8 → Nat
 | [] => 0
 | b :: l => b.toNat + 256 * leN l
def crcStep (s : Nat) : Nat := if s % 2 = 1 then (s / 2) ^^^ 2197175160 else s / 2
def crc8 : Nat → Nat → Nat
 | 0, s => s
 | k + 1, s => crc8 k (crcStep s)
def crcGo : List UInt8 → Nat → Nat
 | [], s => s
 | b :: l, s => crcGo l (crc8 8 (s ^^^ b.toNat))
def sumM (l : List UInt8) : Nat := 4294967295 ^^^ crcGo l 4294967295
theorem crcStep_lt {s : Nat} (h : s < 2 ^ 32) : crcStep s < 2 ^ 32 := by
 unfold crcStep
 split
 · exact Nat.xor_lt_two_pow (by omega) (by decide)
 · omega
theorem crc8_lt {s : Nat} : ∀ (k : Nat), s < 2 ^ 32 → crc8 k s < 2 ^ 32
 | 0, h => h
 | k + 1, h => by unfold crc8; exact crc8_lt k (crcStep_lt h)
theorem crc8_succ (k s : Nat) : crc8 (k + 1) s = crcStep (crc8 k s) := by
 induction k generalizing s with
 | zero => rfl
 | succ k ih =>
   show crc8 (k + 1) (crcStep s) = _
   rw [ih]
   rfl
theorem crcGo_lt : ∀ (l : List UInt8) {s : Nat}, s < 2 ^ 32 → crcGo l s < 2 ^ 32
 | [], _, h => h
 | b :: l, s, h => by
   unfold crcGo
   refine crcGo_lt l (crc8_lt 8 (Nat.xor_lt_two_pow h ?_))
   have := b.toNat_lt
   omega
theorem sumM_lt (l : List UInt8) : sumM l < 2 ^ 32 := Nat.xor_lt_two_pow (by decide) (crcGo_lt l (by decide))
theorem crcGo_append (l m : List UInt8) (s : Nat) : crcGo (l ++ m) s = crcGo m (crcGo l s) := by
 induction l generalizing s with
 | nil => rfl
 | cons b l ih => exact ih _
theorem numB_succ (j v : Nat) : numB (j + 1) v = numB j v ++ [UInt8.ofNat (v / 2 ^ (8 * j))] := by
 unfold numB
 rw [List.range_succ, List.map_append]
 rfl
theorem shr8 {v j : Nat} (hj : j < 8) : IntKind.wrap .u8 (bShr .u64 (v : Int) ((8 * j : Nat) : Int)) = (((v / 2 ^ (8 * j)) % 256 : Nat) : Int) := by
 rw [bShr_nat, wrap_u8m]
 simp only [IntKind.bits]
 rw [Nat.min_eq_left (by omega)]
 omega
theorem Y37 (n v : Nat) (w : World) (h1 : 1 ≤ n) (h8 : n ≤ 8) : Calls Tryz.prog 188 #[.int .i64 n, .int .u64 v] w (RetT [.c .slice] fun r w' => St noF w w' [SlA 1 r ((numB n v).map ub)]) := by
 refine F188_calls n v _ _ ?_
 unfold F188
 refine jn_of (fun b W => b = false ∧ w = W) (br_f (by simp; omega) ⟨by simp; omega, rfl⟩) ?_
 rintro _ _ ⟨rfl, rfl⟩
 refine br_f rfl ?_
 refine loop_of (fun z W => ∃ j : Nat, z.2 = j ∧ j ≤ n ∧ St noF w W [SlA 1 z.1 ((numB j v).map ub)]) (fun z _ => n - z.2.toNat) ⟨0, rfl, by omega, (St.init0 w).nosl 1⟩ ?_
 rintro ⟨t, _⟩ W ⟨j, rfl, hj, s1⟩
 dsimp only at s1 ⊢
 refine br_of (fun hlt => ?_) (fun hge => ?_)
 · simp only [decide_eq_true_eq] at hlt
   have hjn : j < n := by omega
   rw [wrap_i64 (by omega), wrap_u64m, show ((8 * (j : Int)) % 18446744073709551616) = ((8 * j : Nat) : Int) by omega]
   refine ⟨by omega, ?_⟩
   refine append_one s1 (shr8 (by omega)) (by simp; omega) fun r w2 s2 => ?_
   rw [succ_i64 (by omega)]
   exact ⟨⟨j + 1, rfl, by omega, by rw [numB_succ]; exact s2⟩, by omega⟩
 · simp only [decide_eq_false_iff_not] at hge
   have : j = n := by omega
   subst this
   exact s1
theorem Y50 (n v : Nat) (w : World) (h1 : 1 ≤ n) (h8 : n ≤ 8) : Calls Tryz.prog 183 #[.int .i64 n, .int .u64 v] w (RetT [.c .slice] fun r w' => St noF w w' [SlA 1 r ((numB n v).map ub)]) := by
 refine F183_calls n v _ _ ?_
 unfold F183
 simp only [deref_some']
 refine jn_of (fun b W => b = false ∧ w = W) (br_f (by simp; omega) ⟨by simp; omega, rfl⟩) ?_
 rintro _ _ ⟨rfl, rfl⟩
 refine br_f rfl ?_
 refine (St.init0 w).mkSi n rfl rfl (by omega) (by omega) fun t w1 s1 htl => ?_
 rw [zc_one] at s1
 refine loop_of (fun z W => ∃ j : Nat, z = j ∧ j ≤ n ∧ St noF w W [SlA 1 t ((numB j v ++ List.replicate (n - j) 0).map ub)]) (fun z _ => n - z.toNat) ⟨0, rfl, by omega, ?_⟩ ?_
 · have : (numB 0 v ++ List.replicate (n - 0) 0).map ub = List.replicate n (.int .u8 0) := by simp [numB, ub]
   rw [this]; exact s1
 rintro _ W ⟨j, rfl, hj, s2⟩
 refine br_of (fun hlt => ?_) (fun hge => ?_)
 · simp only [decide_eq_true_eq] at hlt
   have hjn : j < n := by omega
   rw [wrap_i64 (by omega), show (8 * (j : Int)) = ((8 * j : Nat) : Int) by omega, shr8 (by omega)]
   refine ⟨by omega, ⟨by omega, by omega⟩, ?_⟩
   rw [Int.toNat_natCast]
   refine put_own s2 (by simp; omega) trivial fun w3 s3 => ?_
   rw [succ_i64 (by omega)]
   refine ⟨⟨j + 1, rfl, by omega, ?_⟩, by omega⟩
   have : ((numB j v ++ List.replicate (n - j) 0).map ub).set j (.int .u8 ((v / 2 ^ (8 * j) % 256 : Nat) : Int)) = (numB (j + 1) v ++ List.replicate (n - (j + 1)) 0).map ub := by
     rw [← ub_ofNat, ← List.map_set, numB_succ, List.set_append_right _ _ (by simp)]
     rw [show n - j = (n - (j + 1)) + 1 by omega, List.replicate_succ]
     simp
   rw [← this]
   exact s3
 · simp only [decide_eq_false_iff_not] at hge
   have : j = n := by omega
   subst this
   simpa using s2
theorem crc_p {s : Nat} (h : s < 2 ^ 32) : bXor .u32 (bShr .u32 (s : Int) 1) (IntKind.wrap .u32 (2197175160 * (bAnd .u32 (s : Int) 1))) = ((crcStep s : Nat) : Int) := by
 have h1 : bShr .u32 (s : Int) 1 = ((s / 2 : Nat) : Int) := bShr_nat .u32 s 1
 have h2 : bAnd .u32 (s : Int) 1 = ((s % 2 : Nat) : Int) := by
   have := bAnd_u32 (x := s) (y := 1) h (by decide)
   rw [and_1] at this
   exact this
 rw [h1, h2, wrap_u32m]
 unfold crcStep
 rcases Nat.mod_two_eq_zero_or_one s with h3 | h3
 · rw [if_neg (by omega), h3]
   have := bXor_u32 (x := s / 2) (y := 0) (by omega) (by decide)
   rw [Nat.xor_zero] at this
   exact this
 · rw [if_pos h3, h3]
   exact bXor_u32 (x := s / 2) (y := 2197175160) (by omega) (by decide)
theorem crc_r {s : Nat} (h : s < 2 ^ 32) : (if s % 2 = 1 then bXor .u32 (bShr .u32 (s : Int) 1) 2197175160 else bShr .u32 (s : Int) 1) = ((crcStep s : Nat) : Int) := by
 have h1 : bShr .u32 (s : Int) 1 = ((s / 2 : Nat) : Int) := bShr_nat .u32 s 1
 rw [h1]
 unfold crcStep
 split
 · exact bXor_u32 (x := s / 2) (y := 2197175160) (by omega) (by decide)
 · rfl
theorem Y51 (s : Sl) (l : List UInt8) (w : World) (hs : BS w s l) (hl : l.length ≤ 1000000000) : Calls Tryz.prog 212 #[.slice s.a s.len s.cap] w (RetT [.c (.int .u32)] fun r w' => r = (sumM l : Nat) ∧ w = w') := by
 refine F212_calls s _ _ ?_
 unfold F212
 simp only [deref_some']
 have hsl := hs.len
 refine loop_of (fun z W => ∃ (j c : Nat), z.2 = j ∧ j ≤ l.length ∧ z.1 = c ∧ c = crcGo (l.take j) 4294967295 ∧ w = W) (fun z _ => l.length - z.2.toNat) ⟨0, _, rfl, by omega, rfl, rfl, rfl⟩ ?_
 rintro ⟨_, _⟩ W ⟨j, c, rfl, hj, rfl, hc, rfl⟩
 dsimp only
 have hc32 : c < 2 ^ 32 := by rw [hc]; exact crcGo_lt _ (by decide)
 refine br_of (fun hlt => ?_) (fun hge => ?_)
 · simp only [decide_eq_true_eq] at hlt
   have hjl : j < l.length := by omega
   refine ⟨⟨by omega, by omega⟩, ?_⟩
   rw [Int.toNat_natCast]
   refine BS.at hs hjl ?_
   have hb := l[j].toNat_lt
   rw [wrap_u32m, show ((l[j].toNat : Int) % 4294967296) = (l[j].toNat : Int) by omega, bXor_u32 hc32 (by omega)]
   have hx : c ^^^ l[j].toNat < 2 ^ 32 := Nat.xor_lt_two_pow hc32 (by omega)
   refine loop_of (fun z W => ∃ (i : Nat), z.2 = i ∧ i ≤ 8 ∧ z.1 = (crc8 i (c ^^^ l[j].toNat) : Nat) ∧ w = W) (fun z _ => 8 - z.2.toNat) ⟨0, rfl, by omega, rfl, rfl⟩ ?_
   rintro ⟨_, _⟩ W ⟨i, rfl, hi, rfl, rfl⟩
   dsimp only
   refine br_of (fun hlt => ?_) (fun hge => ?_)
   · simp only [decide_eq_true_eq] at hlt
     refine ⟨by decide, ?_⟩
     rw [crc_p (crc8_lt _ hx), succ_i64 (by omega), ← crc8_succ]
     exact ⟨⟨i + 1, rfl, by omega, rfl, rfl⟩, by omega⟩
   · simp only [decide_eq_false_iff_not] at hge
     have : i = 8 := by omega
     subst this
     rw [succ_i64 (by omega)]
     refine ⟨⟨j + 1, _, rfl, by omega, rfl, ?_, rfl⟩, by omega⟩
     rw [List.take_add_one, List.getElem?_eq_getElem hjl, crcGo_append, ← hc]
     rfl
 · simp only [decide_eq_false_iff_not] at hge
   rw [List.take_of_length_le (by omega)] at hc
   have := bXor_u32 (x := 4294967295) (y := c) (by decide) hc32
   refine ⟨Eq.trans this ?_, rfl⟩
   rw [hc]; rfl
theorem Y38 (s : Sl) (l : List UInt8) (w : World) (hs : BS w s l) (hl : l.length ≤ 1000000000) : Calls Tryz.prog 189 #[.slice s.a s.len s.cap] w (RetT [.c (.int .u32)] fun r w' => r = (sumM l : Nat) ∧ w = w') := by
 refine F189_calls s _ _ ?_
 unfold F189
 simp only [deref_some']
 have hsl := hs.len
 refine loop_of (fun z W => ∃ (j c : Nat), z.2 = j ∧ j ≤ l.length ∧ z.1 = c ∧ c = crcGo (l.take j) 4294967295 ∧ w = W) (fun z _ => l.length - z.2.toNat) ⟨0, _, rfl, by omega, rfl, rfl, rfl⟩ ?_
 rintro ⟨_, _⟩ W ⟨j, c, rfl, hj, rfl, hc, rfl⟩
 dsimp only
 have hc32 : c < 2 ^ 32 := by rw [hc]; exact crcGo_lt _ (by decide)
 refine br_of (fun hlt => ?_) (fun hge => ?_)
 · simp only [decide_eq_true_eq] at hlt
   have hjl : j < l.length := by omega
   refine ⟨⟨by omega, by omega⟩, ?_⟩
   rw [Int.toNat_natCast]
   refine BS.at hs hjl ?_
   have hb := l[j].toNat_lt
   rw [wrap_u32m, show ((l[j].toNat : Int) % 4294967296) = (l[j].toNat : Int) by omega, bXor_u32 hc32 (by omega)]
   have hx : c ^^^ l[j].toNat < 2 ^ 32 := Nat.xor_lt_two_pow hc32 (by omega)
   refine loop_of (fun z W => ∃ (i : Nat), z.2 = i ∧ i ≤ 8 ∧ z.1 = (crc8 i (c ^^^ l[j].toNat) : Nat) ∧ w = W) (fun z _ => 8 - z.2.toNat) ⟨0, rfl, by omega, rfl, rfl⟩ ?_
   rintro ⟨_, _⟩ W ⟨i, rfl, hi, rfl, rfl⟩
   dsimp only
   refine br_of (fun hlt => ?_) (fun hge => ?_)
   · simp only [decide_eq_true_eq] at hlt
     have hy := crc8_lt i hx
     have hst := crc_r hy
     generalize hye : crc8 i (c ^^^ l[j].toNat) = y at hst hy ⊢
     have hmod : ((y : Int).tmod 2 == 1) = decide (y % 2 = 1) := by
       rw [show ((y : Int).tmod 2) = ((y % 2 : Nat) : Int) by rfl]
       rcases Nat.mod_two_eq_zero_or_one y with h3 | h3 <;> rw [h3] <;> rfl
     refine jn_of (fun t W => t = ((crcStep y : Nat) : Int) ∧ w = W) ⟨by decide, ?_⟩ ?_
     · rw [hmod]
       refine br_of (fun h3 => ⟨by decide, ?_, rfl⟩) (fun h3 => ⟨by decide, ?_, rfl⟩)
       · rw [if_pos (by simpa using h3)] at hst; exact hst
       · rw [if_neg (by simpa using h3)] at hst; exact hst
     · rintro _ _ ⟨rfl, rfl⟩
       rw [succ_i64 (by omega)]
       exact ⟨⟨i + 1, rfl, by omega, by rw [crc8_succ, hye], rfl⟩, by omega⟩
   · simp only [decide_eq_false_iff_not] at hge
     have : i = 8 := by omega
     subst this
     rw [succ_i64 (by omega)]
     refine ⟨⟨j + 1, _, rfl, by omega, rfl, ?_, rfl⟩, by omega⟩
     rw [List.take_add_one, List.getElem?_eq_getElem hjl, crcGo_append, ← hc]
     rfl
 · simp only [decide_eq_false_iff_not] at hge
   rw [List.take_of_length_le (by omega)] at hc
   have := bXor_u32 (x := 4294967295) (y := c) (by decide) hc32
   refine ⟨Eq.trans this ?_, rfl⟩
   rw [hc]; rfl
theorem leN_append (l m : List UInt8) : leN (l ++ m) = leN l + 2 ^ (8 * l.length) * leN m := by
 induction l with
 | nil => simp [leN]
 | cons b l ih =>
   simp only [List.cons_append, leN, ih, List.length_cons]
   rw [show 8 * (l.length + 1) = 8 + 8 * l.length by omega, Nat.pow_add, Nat.mul_add, Nat.mul_assoc]
   omega
theorem leN_lt (l : List UInt8) : leN l < 2 ^ (8 * l.length) := by
 induction l with
 | nil => simp [leN]
 | cons b l ih =>
   simp only [leN, List.length_cons]
   have := b.toNat_lt
   rw [show 8 * (l.length + 1) = 8 + 8 * l.length by omega, Nat.pow_add]
   omega
theorem leN_numB (n v : Nat) : leN (numB n v) = v % 2 ^ (8 * n) := by
 induction n with
 | zero => simp [numB, leN, Nat.mod_one]
 | succ n ih =>
   rw [numB_succ, leN_append, ih, numB_len]
   simp only [leN]
   rw [show 8 * (n + 1) = 8 * n + 8 by omega, Nat.pow_add, Nat.mod_mul]
   simp
theorem Y57 (s : Sl) (l : List UInt8) (o n : Nat) (w : World) (hs : BS w s l) (h1 : 1 ≤ n) (h8 : n ≤ 8) (ho : o + n ≤ l.length) (hl : l.length ≤ 1000000000) :
   Calls Tryz.prog 231 #[.slice s.a s.len s.cap, .int .i64 o, .int .i64 n] w (RetT [.c (.int .u64), .c .bool] fun r w' => r.1 = (leN ((l.drop o).take n) : Nat) ∧ r.2 = true ∧ w = w') := by
 refine F231_calls s o n _ _ ?_
 unfold F231
 simp only [deref_some']
 have hsl := hs.len
 refine jn_of (fun b W => b = false ∧ w = W) ?_ ?_
 · refine br_f (by simp; omega) (br_f (by simp; omega) (br_f (by simp) (br_f (by simp; omega) ⟨?_, rfl⟩)))
   rw [wrap_i64 (by omega)]
   simp; omega
 rintro _ _ ⟨rfl, rfl⟩
 refine br_f rfl ?_
 refine loop_of (fun z W => ∃ (i : Nat), z.2 = i ∧ i ≤ n ∧ z.1 = (leN ((l.drop o).take i) : Nat) ∧ w = W) (fun z _ => n - z.2.toNat) ⟨0, rfl, by omega, by simp [leN], rfl⟩ ?_
 rintro ⟨_, _⟩ W ⟨i, rfl, hi, rfl, rfl⟩
 dsimp only
 refine br_of (fun hlt => ?_) (fun hge => ?_)
 · simp only [decide_eq_true_eq] at hlt
   have hin : i < n := by omega
   rw [wrap_i64 (show _ by omega), show ((o : Int) + (i : Int)) = ((o + i : Nat) : Int) by omega]
   refine ⟨⟨by omega, by omega⟩, ?_⟩
   rw [Int.toNat_natCast]
   refine BS.at hs (show o + i < l.length by omega) ?_
   rw [wrap_i64 (show _ by omega), show (8 * (i : Int)) = ((8 * i : Nat) : Int) by omega]
   refine ⟨by omega, ?_⟩
   have hb := l[o + i].toNat_lt
   have hbl : (l.drop o).take i ++ [l[o + i]] = (l.drop o).take (i + 1) := by
     rw [List.take_add_one, List.getElem?_drop, List.getElem?_eq_getElem (by omega)]
     rfl
   have hlen : ((l.drop o).take i).length = i := by simp; omega
   have hlt2 := leN_lt ((l.drop o).take i)
   rw [hlen] at hlt2
   have hle : leN ((l.drop o).take (i + 1)) = leN ((l.drop o).take i) + l[o + i].toNat * 2 ^ (8 * i) := by
     rw [← hbl, leN_append, hlen]
     simp only [leN]
     rw [Nat.mul_zero, Nat.add_zero, Nat.mul_comm]
   have hlt3 := leN_lt ((l.drop o).take (i + 1))
   have hlen2 : ((l.drop o).take (i + 1)).length = i + 1 := by simp; omega
   rw [hlen2, hle] at hlt3
   have h64 : 2 ^ (8 * (i + 1)) ≤ 2 ^ 64 := Nat.pow_le_pow_right (by decide) (by omega)
   have hu : IntKind.wrap .u64 (l[o + i].toNat : Int) = (l[o + i].toNat : Int) := by rw [wrap_u64m]; omega
   have hsh := bShl_u64 (x := l[o + i].toNat) (y := 8 * i) (by omega) (by omega)
   rw [hu, hsh, bOr_u64 (by omega) (by omega), or_add hlt2, ← hle, succ_i64 (by omega)]
   exact ⟨⟨i + 1, rfl, by omega, rfl, rfl⟩, by omega⟩
 · simp only [decide_eq_false_iff_not] at hge
   have : i = n := by omega
   subst this
   exact ⟨rfl, trivial, rfl⟩
theorem Y77 (n : Int) (w : World) (h0 : 0 ≤ n) (h1 : n ≤ 1000000000) : Calls Tryz.prog 135 #[.slice none 0 0, .int .i64 n] w (RetT [.c .slice] fun r w' => St noF w w' [SlA 1 r []]) := by
 refine F135_calls ⟨none, 0, 0⟩ n _ _ ?_
 unfold F135
 refine jn_of (fun _ w' => w = w') (br_f (by simpa using h0) rfl) ?_
 rintro ⟨⟩ _ rfl
 have hw : IntKind.wrap .i64 (n - IntKind.wrap .i64 (((0 : Nat) : Int) - ((0 : Nat) : Int))) = n := by
   rw [show IntKind.wrap .i64 (((0 : Nat) : Int) - ((0 : Nat) : Int)) = 0 from rfl, wrap_i64 (by omega)]; omega
 rw [hw]
 refine br_of (fun h => ?_) (fun h => (St.init0 w).nosl 1)
 simp only [gt_iff_lt, decide_eq_true_eq] at h
 refine slc_hi (by decide) (by decide) ?_
 simp only [Int.toNat_natCast, if_true]
 refine ⟨h0, by omega, wrap_i64 (by omega), fun hroom => ?_, fun _ => ⟨[], fun h => by simp at h, rfl, ?_, ?_, ?_⟩⟩
 · have : 0 + n.toNat ≤ 0 := hroom
   omega
 · have := nextslicecap_le (show 0 < 0 + n.toNat by omega)
   show Builtin.nextslicecap (0 + n.toNat) 0 * 1 ≤ 2 ^ 48
   omega
 · show 0 + n.toNat < 2 ^ 63
   omega
 intro cap hc1 hc2
 dsimp only at hc1 hc2 ⊢
 refine slc_hi (by decide) (by dsimp only; omega) ?_
 simp only [map_add_zero, ite_self]
 refine (St.init0 w).mksl ((Mod.refl _ w).drew.alloc _) ?_
 generalize hL : ([] ++ zc [.int .u8 0] n.toNat ++ zc [.int .u8 0] (cap - (0 + n.toNat)) : List Value) = L
 have hLl : L.length = cap * 1 := by rw [← hL]; simp only [List.nil_append, List.length_append, zc_length, List.length_cons, List.length_nil]; omega
 refine ⟨by simp, by simp, .inr ⟨w.heap.size, 0, L, rfl, Nat.le_refl _, by simp, fun o _ _ => ?_, ?_, by simpa using hLl⟩⟩
 · exact World.frozen?_alloc_new w.drew _ _ o
 · intro j v hj
   rw [add_mk, Nat.zero_add]
   have := World.cell?_alloc_new w.drew L.toArray 5 j
   rw [World.size_drew] at this
   rw [this]
   simpa using hj
theorem Y49 (r : Nat) (s t : Sl) (l m : List UInt8) (w : World) (hb : Box w r [slV s, slV t]) (hs : BS w s l) (ht : BS w t m) (hl : l.length ≤ 100000000) (hm : m.length ≤ 100000000) :
   Calls Tryz.prog 79 #[.slice (some ⟨r, 0, none⟩) 2 2] w (RetT [.c .slice] fun q w' => St noF w w' [SlA 1 q ((l ++ m).map ub)]) := by
 refine F79_calls ⟨some ⟨r, 0, none⟩, 2, 2⟩ _ _ ?_
 unfold F79
 simp only [deref_some']
 have hsl := hs.len
 have htl := ht.len
 have ld : ∀ (W : World) (j : Nat) (k : Sl → Pr), Grow w W → j < 2 → k (if j = 0 then s else t) W → ldC .slice (Addr.add ⟨r, 0, none⟩ (Int.toNat (j : Int) * 1)) k W := by
   intro W j k g hj hk
   rw [Int.toNat_natCast, Nat.mul_one]
   refine (hb.grow g).ld (s := .slice) (p := if j = 0 then s else t) ?_ hk
   match j, hj with
   | 0, _ => rfl
   | 1, _ => rfl
 refine loop_of (fun z W => ∃ j : Nat, z.2 = j ∧ j ≤ 2 ∧ z.1 = ((if j = 0 then 0 else if j = 1 then l.length else l.length + m.length : Nat) : Int) ∧ w = W) (fun z _ => 2 - z.2.toNat) ⟨0, rfl, by omega, rfl, rfl⟩ ?_
 rintro ⟨_, _⟩ W ⟨j, rfl, hj, rfl, rfl⟩
 dsimp only
 refine br_of (fun hlt => ?_) (fun hge => ?_)
 · simp only [decide_eq_true_eq] at hlt
   have hj2 : j < 2 := by omega
   refine jn_of (fun n W => n = ((if j + 1 = 1 then l.length else l.length + m.length : Nat) : Int) ∧ w = W) ?_ ?_
   · refine ⟨⟨by omega, by omega⟩, ld w j _ (Mod.refl _ _) hj2 ?_⟩
     have : IntKind.wrap .i64 (((if j = 0 then 0 else if j = 1 then l.length else l.length + m.length : Nat) : Int) + ((if j = 0 then s else t).len : Int)) = ((if j + 1 = 1 then l.length else l.length + m.length : Nat) : Int) := by
       match j, hj2 with
       | 0, _ => simp [hsl]; rw [wrap_i64 (by omega)]
       | 1, _ => simp [htl]; rw [wrap_i64 (by omega)]
     rw [this]
     refine br_f (by simp only [decide_eq_false_iff_not]; split <;> omega) ⟨rfl, rfl⟩
   · rintro _ _ ⟨rfl, rfl⟩
     rw [succ_i64 (by omega)]
     refine ⟨⟨j + 1, rfl, by omega, ?_, rfl⟩, by omega⟩
     rw [if_neg (by omega : ¬ j + 1 = 0)]
 · simp only [decide_eq_false_iff_not] at hge
   have : j = 2 := by omega
   subst this
   refine callF_of (Y77 _ w (by simp; omega) (by simp; omega)) ?_
   rintro q w1 s1
   have hcat : ∀ j, j ≤ 2 → (if j = 0 then [] else if j = 1 then l else l ++ m).length ≤ 200000000 := by
     intro j _
     split
     · simp
     · split
       · omega
       · simp; omega
   refine loop_of (fun z W => ∃ j : Nat, z.2 = j ∧ j ≤ 2 ∧ St noF w W [SlA 1 z.1 ((if j = 0 then [] else if j = 1 then l else l ++ m).map ub)]) (fun z _ => 2 - z.2.toNat) ⟨0, rfl, by omega, s1⟩ ?_
   rintro ⟨u, _⟩ W ⟨j, rfl, hj, s2⟩
   dsimp only at s2 ⊢
   refine br_of (fun hlt => ?_) (fun hge => ?_)
   · simp only [decide_eq_true_eq] at hlt
     have hj2 : j < 2 := by omega
     refine ⟨⟨by omega, by omega⟩, ld W j _ s2.gro hj2 ?_⟩
     have hul := slA_len1 s2.sl
     rw [List.length_map] at hul
     have := hcat j (by omega)
     have hx : BS W (if j = 0 then s else t) (if j = 0 then l else m) := by
       split
       · exact hs.grow s2.gro
       · exact ht.grow s2.gro
     have hxl := hx.len
     have hle : (if j = 0 then l else m).length ≤ 100000000 := by split <;> omega
     refine s2.app (new := (if j = 0 then l else m).map ub) (fun _ => by rw [List.length_map]; omega) hx.none_len hx.row NotAgg_ub rfl (by decide) (by omega) fun r2 w3 s3 _ => ?_
     rw [succ_i64 (by omega)]
     refine ⟨⟨j + 1, rfl, by omega, ?_⟩, by omega⟩
     match j, hj2, s3 with
     | 0, _, s3 => exact s3
     | 1, _, s3 =>
       simpa using s3
   · simp only [decide_eq_false_iff_not] at hge
     have : j = 2 := by omega
     subst this
     exact s2
def sealM (l : List UInt8) : List UInt8 := l ++ numB 4 (sumM l)
theorem Y27 (s : Sl) (l : List UInt8) (w : World) (hs : BS w s l) (hl : l.length ≤ 100000000) : Calls Tryz.prog 184 #[.slice s.a s.len s.cap] w (RetT [.c .slice] fun q w' => St noF w w' [SlA 1 q ((sealM l).map ub)]) := by
 refine F184_calls s _ _ ?_
 unfold F184
 refine callF_of (Y51 s l w hs (by omega)) ?_
 rintro _ _ ⟨rfl, rfl⟩
 have := sumM_lt l
 rw [wrap_u64m, show (((sumM l : Nat) : Int) % 18446744073709551616) = ((sumM l : Nat) : Int) by omega]
 refine callF_of (Y50 4 (sumM l) w (by decide) (by decide)) fun t w1 s1 => ?_
 refine St.nw s1 fun r w2 s2 g2 _ => ?_
 have hb2 := hs.grow s2.gro
 have ht2 := (s2.bring 1).sl.bs
 refine callF_of (Y49 r s t l (numB 4 (sumM l)) w2 s2.box hb2 ht2 hl (by simp)) fun q w3 s3 => ?_
 exact St.dropR (l := [_]) (s2.call0 s3)
end Go.Proofs

set_option maxRecDepth 100000
namespace Go.Proofs
open Go.Eng
def an123 : An := (.sq .z (.sq (.bl (.sq (.jn [] (.bl (.bl (.bl (.sq (.sq (.sq .z (.br .z .z)) (.sq (.sq .z (.br .z .z)) (.sq .z (.br .z .z)))) .z))))) (.sq (.sq .z .z) .z))) (.sq (.sq .z (.sq (.jn [(31, .c .bool)] .z) (.br (.sq .z .z) .z))) (.sq .z .z))))
def F123 (p0_0 : Int) (p0_1 : Int) (p0_2 : Int) (p0_3 : Int) (Q : Int → Pr) : Pr :=
 nw (.cells #[(iv p0_0), (iv p0_1), (iv p0_2), (iv p0_3)] 23) fun r =>
 jn (S:=Unit) (fun R =>
 ldI (bA r 1) fun t6 =>
 callF Tryz.prog 176 [(iv t6), (iv 8), (iv 256)] [.c .bool] fun (t7 : Bool) =>
 br (!t7) (
 R ()) (
 ldI (bA r 2) fun t11 =>
 callF Tryz.prog 176 [(iv t11), (iv 1), (iv 64)] [.c .bool] fun (t12 : Bool) =>
 br (!t12) (
 R ()) (
 ldI (bA r 3) fun t16 =>
 callF Tryz.prog 176 [(iv t16), (iv 1), (iv 256)] [.c .bool] fun (t17 : Bool) =>
 br (!t17) (
 R ()) (
 ldA [I64, I64, I64, I64] (bA r 0) fun (t19 : Int × Int × Int × Int) =>
 callF Tryz.prog 124 [(.agg #[(iv t19.1), (iv t19.2.1), (iv t19.2.2.1), (iv t19.2.2.2)])] [.agg [I64, I64, I64, I64, I64, I64]] fun (t20 : Int × Int × Int × Int × Int × Int) =>
 nvs 38 [(iv 0), (iv 0), (iv 0), (iv 0), (iv 0), (iv 0)] [(iv t20.1), (iv t20.2.1), (iv t20.2.2.1), (iv t20.2.2.2.1), (iv t20.2.2.2.2.1), (iv t20.2.2.2.2.2)] fun r_1 =>
 jn (S:=Bool) (fun R_1 =>
 ldI (bA r 0) fun t22 =>
 ldI (bA r_1 5) fun t24 =>
 callF Tryz.prog 176 [(iv t22), (iv t24), (iv 2048)] [.c .bool] fun (t25 : Bool) =>
 br (!t25) (
 R_1 true) (
 ldA [I64, I64, I64, I64, I64, I64] (bA r_1 0) fun (t28 : Int × Int × Int × Int × Int × Int) =>
 R_1 (((t28.1 == 0) && ((t28.2.1 == 0) && ((t28.2.2.1 == 0) && ((t28.2.2.2.1 == 0) && ((t28.2.2.2.2.1 == 0) && ((t28.2.2.2.2.2 == 0) && true))))))))) fun s_1 =>
 br s_1 (
 Q 40) (
 Q 0))))) fun s =>
 Q 40
theorem F123_calls (p0_0 : Int) (p0_1 : Int) (p0_2 : Int) (p0_3 : Int) (Q : Int → Pr) (w : World) (h : F123 p0_0 p0_1 p0_2 p0_3 Q w) : Calls Tryz.prog 123 #[(.agg #[(iv p0_0), (iv p0_1), (iv p0_2), (iv p0_3)])] w (RetT [.c I64] Q) := cF (an := an123) Tryz.func123 (by kernel_rfl) h
def an124 : An := (.sq .z (.sq .z (.sq .z (.sq (.jn [] .z) (.sq (.jn [] .z) (.sq .z (.sq .z (.sq .z .z))))))))
def F124 (p0_0 : Int) (p0_1 : Int) (p0_2 : Int) (p0_3 : Int) (Q : Int × Int × Int × Int × Int × Int → Pr) : Pr :=
 nw (.cells #[(iv p0_0), (iv p0_1), (iv p0_2), (iv p0_3)] 23) fun r =>
 nw (.cells #[(iv 0), (iv 0), (iv 0), (iv 0), (iv 0), (iv 0)] 38) fun r_1 =>
 nvs 38 [(iv 0), (iv 0), (iv 0), (iv 0), (iv 0), (iv 0)] [(iv 3), (iv 0), (iv 0), (iv 0), (iv 0), (iv 0)] fun r_2 =>
 ldI (bA r_2 0) fun t6 =>
 ldI (bA r 1) fun t8 =>
 st (bA r_2 1) (iv (w64 (t6 + t8))) <|
 jn (S:=Unit) (fun R =>
 drw <|
 ldI (bA r 3) fun t14 =>
 both (
 ldI (bA r_2 1) fun t12 =>
 callF Tryz.prog 177 [(iv t14), (iv 32)] [.c I64] fun (t15 : Int) =>
 st (bA r_2 2) (iv (w64 (t12 + t15))) <|
 R ()) (
 callF Tryz.prog 177 [(iv t14), (iv 32)] [.c I64] fun (t15_1 : Int) =>
 ldI (bA r_2 1) fun t12_1 =>
 st (bA r_2 2) (iv (w64 (t12_1 + t15_1))) <|
 R ())) fun s =>
 jn (S:=Unit) (fun R_1 =>
 drw <|
 ldI (bA r 3) fun t21 =>
 both (
 ldI (bA r_2 2) fun t19 =>
 callF Tryz.prog 177 [(iv t21), (iv 64)] [.c I64] fun (t22 : Int) =>
 st (bA r_2 3) (iv (w64 (t19 + t22))) <|
 R_1 ()) (
 callF Tryz.prog 177 [(iv t21), (iv 64)] [.c I64] fun (t22_1 : Int) =>
 ldI (bA r_2 2) fun t19_1 =>
 st (bA r_2 3) (iv (w64 (t19_1 + t22_1))) <|
 R_1 ())) fun s_1 =>
 ldI (bA r_2 3) fun t26 =>
 ldI (bA r 2) fun t28 =>
 st (bA r_2 4) (iv (w64 (t26 + t28))) <|
 ldI (bA r_2 4) fun t32 =>
 ldI (bA r 3) fun t34 =>
 st (bA r_2 5) (iv (w64 (t32 + (w64 (t34 * 4))))) <|
 ldA [I64, I64, I64, I64, I64, I64] (bA r_2 0) fun (t38 : Int × Int × Int × Int × Int × Int) =>
 stB r_1 0 [(iv t38.1), (iv t38.2.1), (iv t38.2.2.1), (iv t38.2.2.2.1), (iv t38.2.2.2.2.1), (iv t38.2.2.2.2.2)] <|
 ldA [I64, I64, I64, I64, I64, I64] (bA r_1 0) fun (res : Int × Int × Int × Int × Int × Int) =>
 Q (res)
theorem F124_calls (p0_0 : Int) (p0_1 : Int) (p0_2 : Int) (p0_3 : Int) (Q : Int × Int × Int × Int × Int × Int → Pr) (w : World) (h : F124 p0_0 p0_1 p0_2 p0_3 Q w) : Calls Tryz.prog 124 #[(.agg #[(iv p0_0), (iv p0_1), (iv p0_2), (iv p0_3)])] w (RetT [.agg [I64, I64, I64, I64, I64, I64]] Q) := cF (an := an124) Tryz.func124 (by kernel_rfl) h
def an176 : An := (.sq .z (.sq .z .z))
def F176 (p0 : Int) (p1 : Int) (p2 : Int) (Q : Bool → Pr) : Pr :=
 br (decide (p0 ≥ p1)) (
 Q ((decide (p0 ≤ p2)))) (
 Q false)
theorem F176_calls (p0 : Int) (p1 : Int) (p2 : Int) (Q : Bool → Pr) (w : World) (h : F176 p0 p1 p2 Q w) : Calls Tryz.prog 176 #[(iv p0), (iv p1), (iv p2)] w (RetT [.c .bool] Q) := cF (an := an176) Tryz.func176 (by kernel_rfl) h
def an177 : An := (.sq .z (.sq .z .z))
def F177 (p0 : Int) (p1 : Int) (Q : Int → Pr) : Pr :=
 owe ((p1 : Int) ≠ 0) <|
 Q ((w64 ((w64 ((w64 (p0 + p1)) - 1)).tdiv p1)))
theorem F177_calls (p0 : Int) (p1 : Int) (Q : Int → Pr) (w : World) (h : F177 p0 p1 Q w) : Calls Tryz.prog 177 #[(iv p0), (iv p1)] w (RetT [.c I64] Q) := cF (an := an177) Tryz.func177 (by kernel_rfl) h
def an71 : An := (.sq .z (.sq (.sq .z (.sq .z (.br (.sq .z .z) .z))) (.sq .z .z)))
def F71 (p0_0 : Int) (p0_1 : Int) (p0_2 : Int) (p0_3 : Int) (Q : (Int × Int × Int × Int × Int × Int) × Int → Pr) : Pr :=
 nw (.cells #[(iv p0_0), (iv p0_1), (iv p0_2), (iv p0_3)] 23) fun r =>
 nw (.cells #[(iv 0), (iv 0), (iv 0), (iv 0), (iv 0), (iv 0)] 38) fun r_1 =>
 ldA [I64, I64, I64, I64] (bA r 0) fun (t5 : Int × Int × Int × Int) =>
 callF Tryz.prog 123 [(.agg #[(iv t5.1), (iv t5.2.1), (iv t5.2.2.1), (iv t5.2.2.2)])] [.c I64] fun (t6 : Int) =>
 br (t6 != 0) (
 stB r_1 0 [(iv 0), (iv 0), (iv 0), (iv 0), (iv 0), (iv 0)] <|
 ldA [I64, I64, I64, I64, I64, I64] (bA r_1 0) fun (res : Int × Int × Int × Int × Int × Int) =>
 Q (res, t6)) (
 ldA [I64, I64, I64, I64] (bA r 0) fun (t11 : Int × Int × Int × Int) =>
 callF Tryz.prog 124 [(.agg #[(iv t11.1), (iv t11.2.1), (iv t11.2.2.1), (iv t11.2.2.2)])] [.agg [I64, I64, I64, I64, I64, I64]] fun (t12 : Int × Int × Int × Int × Int × Int) =>
 stB r_1 0 [(iv t12.1), (iv t12.2.1), (iv t12.2.2.1), (iv t12.2.2.2.1), (iv t12.2.2.2.2.1), (iv t12.2.2.2.2.2)] <|
 ldA [I64, I64, I64, I64, I64, I64] (bA r_1 0) fun (res_1 : Int × Int × Int × Int × Int × Int) =>
 Q (res_1, 0))
theorem F71_calls (p0_0 : Int) (p0_1 : Int) (p0_2 : Int) (p0_3 : Int) (Q : (Int × Int × Int × Int × Int × Int) × Int → Pr) (w : World) (h : F71 p0_0 p0_1 p0_2 p0_3 Q w) : Calls Tryz.prog 71 #[(.agg #[(iv p0_0), (iv p0_1), (iv p0_2), (iv p0_3)])] w (RetT [.agg [I64, I64, I64, I64, I64, I64], .c I64] Q) := cF (an := an71) Tryz.func71 (by kernel_rfl) h
def an13 : An := (.sq .z (.sq (.sq (.jn [(30, .c .bool)] .z) (.br (.sq .z .z) .z)) (.sq (.sq (.jn [(41, .c .bool)] (.rj [⟨false, [1, 3], [1, 3, 4, 5, 6], [(37, .c .bool)]⟩])) (.br (.sq .z .z) .z)) (.sq .z .z))))
def F13 (p0_0 : Int) (p0_1 : Int) (p0_2 : Int) (p0_3 : Int) (Q : Int → Pr) : Pr :=
 nw (.cells #[(iv p0_0), (iv p0_1), (iv p0_2), (iv p0_3)] 23) fun r =>
 jn (S:=Bool) (fun R =>
 ldI (bA r 1) fun t4 =>
 br (decide (t4 < 8)) (
 R true) (
 ldI (bA r 1) fun t8 =>
 br (decide (t8 > 256)) (
 R true) (
 ldI (bA r 2) fun t13 =>
 br (decide (t13 < 1)) (
 R true) (
 ldI (bA r 2) fun t18 =>
 br (decide (t18 > 64)) (
 R true) (
 ldI (bA r 3) fun t23 =>
 br (decide (t23 < 1)) (
 R true) (
 ldI (bA r 3) fun t28 =>
 R ((decide (t28 > 256))))))))) fun s =>
 br s (
 Q 40) (
 jn (S:=Bool) (fun R_1 =>
 drw <|
 ldA [I64, I64, I64, I64] (bA r 0) fun (t33 : Int × Int × Int × Int) =>
 jn (S:=Bool) (fun R_2 =>
 both (
 ldI (bA r 0) fun t32 =>
 callF Tryz.prog 48 [(.agg #[(iv t33.1), (iv t33.2.1), (iv t33.2.2.1), (iv t33.2.2.2)])] [.agg [I64, I64, I64, I64, I64, I64]] fun (t34 : Int × Int × Int × Int × Int × Int) =>
 R_2 ((decide (t32 < t34.2.2.2.2.2)))) (
 callF Tryz.prog 48 [(.agg #[(iv t33.1), (iv t33.2.1), (iv t33.2.2.1), (iv t33.2.2.2)])] [.agg [I64, I64, I64, I64, I64, I64]] fun (t34_1 : Int × Int × Int × Int × Int × Int) =>
 ldI (bA r 0) fun t32_1 =>
 R_2 ((decide (t32_1 < t34_1.2.2.2.2.2))))) fun s_2 =>
 br s_2 (
 R_1 true) (
 ldI (bA r 0) fun t39 =>
 R_1 ((decide (t39 > 2048))))) fun s_1 =>
 br s_1 (
 Q 40) (
 Q 0))
theorem F13_calls (p0_0 : Int) (p0_1 : Int) (p0_2 : Int) (p0_3 : Int) (Q : Int → Pr) (w : World) (h : F13 p0_0 p0_1 p0_2 p0_3 Q w) : Calls Tryz.prog 13 #[(.agg #[(iv p0_0), (iv p0_1), (iv p0_2), (iv p0_3)])] w (RetT [.c I64] Q) := cF (an := an13) Tryz.func13 (by kernel_rfl) h
def an48 : An := (.sq .z (.sq .z (.sq .z (.sq .z (.sq .z (.sq .z .z))))))
def F48 (p0_0 : Int) (p0_1 : Int) (p0_2 : Int) (p0_3 : Int) (Q : Int × Int × Int × Int × Int × Int → Pr) : Pr :=
 nw (.cells #[(iv p0_0), (iv p0_1), (iv p0_2), (iv p0_3)] 23) fun r =>
 nw (.cells #[(iv 0), (iv 0), (iv 0), (iv 0), (iv 0), (iv 0)] 38) fun r_1 =>
 ldI (bA r 1) fun t8 =>
 ldI (bA r 3) fun t12 =>
 owe ((32 : Int) ≠ 0) <|
 ldI (bA r 3) fun t18 =>
 owe ((64 : Int) ≠ 0) <|
 ldI (bA r 2) fun t24 =>
 ldI (bA r 3) fun t32 =>
 stB r_1 0 [(iv 3), (iv (w64 (3 + t8))), (iv (w64 ((w64 (3 + t8)) + (w64 ((w64 (t12 + 31)).tdiv 32))))), (iv (w64 ((w64 ((w64 (3 + t8)) + (w64 ((w64 (t12 + 31)).tdiv 32)))) + (w64 ((w64 (t18 + 63)).tdiv 64))))), (iv (w64 ((w64 ((w64 ((w64 (3 + t8)) + (w64 ((w64 (t12 + 31)).tdiv 32)))) + (w64 ((w64 (t18 + 63)).tdiv 64)))) + t24))), (iv (w64 ((w64 ((w64 ((w64 ((w64 (3 + t8)) + (w64 ((w64 (t12 + 31)).tdiv 32)))) + (w64 ((w64 (t18 + 63)).tdiv 64)))) + t24)) + (w64 (4 * t32)))))] <|
 ldA [I64, I64, I64, I64, I64, I64] (bA r_1 0) fun (res : Int × Int × Int × Int × Int × Int) =>
 Q (res)
theorem F48_calls (p0_0 : Int) (p0_1 : Int) (p0_2 : Int) (p0_3 : Int) (Q : Int × Int × Int × Int × Int × Int → Pr) (w : World) (h : F48 p0_0 p0_1 p0_2 p0_3 Q w) : Calls Tryz.prog 48 #[(.agg #[(iv p0_0), (iv p0_1), (iv p0_2), (iv p0_3)])] w (RetT [.agg [I64, I64, I64, I64, I64, I64]] Q) := cF (an := an48) Tryz.func48 (by kernel_rfl) h
def an49 : An := (.sq .z (.sq (.sq .z (.sq .z (.br (.sq .z .z) .z))) (.sq .z .z)))
def F49 (p0_0 : Int) (p0_1 : Int) (p0_2 : Int) (p0_3 : Int) (Q : (Int × Int × Int × Int × Int × Int) × Int → Pr) : Pr :=
 nw (.cells #[(iv p0_0), (iv p0_1), (iv p0_2), (iv p0_3)] 23) fun r =>
 nw (.cells #[(iv 0), (iv 0), (iv 0), (iv 0), (iv 0), (iv 0)] 38) fun r_1 =>
 ldA [I64, I64, I64, I64] (bA r 0) fun (t5 : Int × Int × Int × Int) =>
 callF Tryz.prog 13 [(.agg #[(iv t5.1), (iv t5.2.1), (iv t5.2.2.1), (iv t5.2.2.2)])] [.c I64] fun (t6 : Int) =>
 br (t6 != 0) (
 stB r_1 0 [(iv 0), (iv 0), (iv 0), (iv 0), (iv 0), (iv 0)] <|
 ldA [I64, I64, I64, I64, I64, I64] (bA r_1 0) fun (res : Int × Int × Int × Int × Int × Int) =>
 Q (res, t6)) (
 ldA [I64, I64, I64, I64] (bA r 0) fun (t11 : Int × Int × Int × Int) =>
 callF Tryz.prog 48 [(.agg #[(iv t11.1), (iv t11.2.1), (iv t11.2.2.1), (iv t11.2.2.2)])] [.agg [I64, I64, I64, I64, I64, I64]] fun (t12 : Int × Int × Int × Int × Int × Int) =>
 stB r_1 0 [(iv t12.1), (iv t12.2.1), (iv t12.2.2.1), (iv t12.2.2.2.1), (iv t12.2.2.2.2.1), (iv t12.2.2.2.2.2)] <|
 ldA [I64, I64, I64, I64, I64, I64] (bA r_1 0) fun (res_1 : Int × Int × Int × Int × Int × Int) =>
 Q (res_1, 0))
theorem F49_calls (p0_0 : Int) (p0_1 : Int) (p0_2 : Int) (p0_3 : Int) (Q : (Int × Int × Int × Int × Int × Int) × Int → Pr) (w : World) (h : F49 p0_0 p0_1 p0_2 p0_3 Q w) : Calls Tryz.prog 49 #[(.agg #[(iv p0_0), (iv p0_1), (iv p0_2), (iv p0_3)])] w (RetT [.agg [I64, I64, I64, I64, I64, I64], .c I64] Q) := cF (an := an49) Tryz.func49 (by kernel_rfl) h
def an12 : An := (.sq .z (.sq .z .z))
def F12 (p0_0 : Int) (p0_1 : Int) (p0_2 : Int) (p0_3 : Int) (Q : Bool → Pr) : Pr :=
 nw (.cells #[(iv p0_0), (iv p0_1), (iv p0_2), (iv p0_3)] 23) fun r =>
 ldI (bA r 0) fun t4 =>
 Q ((decide (t4 ≤ 300)))
theorem F12_calls (p0_0 : Int) (p0_1 : Int) (p0_2 : Int) (p0_3 : Int) (Q : Bool → Pr) (w : World) (h : F12 p0_0 p0_1 p0_2 p0_3 Q w) : Calls Tryz.prog 12 #[(.agg #[(iv p0_0), (iv p0_1), (iv p0_2), (iv p0_3)])] w (RetT [.c .bool] Q) := cF (an := an12) Tryz.func12 (by kernel_rfl) h
def an47 : An := (.sq .z (.sq .z .z))
def F47  (Q : Int × Int × Int × Int → Pr) : Pr :=
 nvs 23 [(iv 0), (iv 0), (iv 0), (iv 0)] [(iv 18), (iv 8), (iv 1), (iv 1)] fun r =>
 ldA [I64, I64, I64, I64] (bA r 0) fun (res : Int × Int × Int × Int) =>
 Q (res)
theorem F47_calls  (Q : Int × Int × Int × Int → Pr) (w : World) (h : F47 Q w) : Calls Tryz.prog 47 #[] w (RetT [.agg [I64, I64, I64, I64]] Q) := cF (an := an47) Tryz.func47 (by kernel_rfl) h
end Go.Proofs
