import Derived.OrdersIn
import Derived.TacticsIn
import Derived.CallsIn
import Derived.LoopNIn
import Derived.KernelRfl
import Derived.Laws.World
set_option linter.unusedVariables false
set_option linter.unusedSimpArgs false
set_option linter.unusedSectionVars false
/-! The engine, part 1: predicate transformers over worlds, shapes of values, environments. -/
namespace Go.Eng

/-- what holds of a world -/
abbrev Pr := World → Prop

/-- a slice's three numbers -/
structure Sl where
  a : Option Addr
  len : Nat
  cap : Nat

/-- the shape of one cell's value -/
inductive CS where
  | int (k : IntKind) | bool | str | ptr | slice | map | any

@[reducible] def PayC : CS → Type
  | .int _ => Int
  | .bool => Bool
  | .str => ByteArray
  | .ptr => Option Addr
  | .slice => Sl
  | .map => Option Nat
  | .any => Value

def valC : (s : CS) → PayC s → Value
  | .int k, n => .int k n
  | .bool, b => .bool b
  | .str, s => .string s
  | .ptr, p => .pointer p
  | .slice, s => .slice s.a s.len s.cap
  | .map, r => .map r
  | .any, v => v

/-- several cells -/
@[reducible] def PayA : List CS → Type
  | [] => Unit
  | [s] => PayC s
  | s :: t :: l => PayC s × PayA (t :: l)

def valA : (l : List CS) → PayA l → List Value
  | [], _ => []
  | [s], p => [valC s p]
  | s :: t :: l, p => valC s p.1 :: valA (t :: l) p.2

/-- the shape of a value -/
inductive Sh where
  | c (s : CS)
  | agg (l : List CS)

@[reducible] def Pay : Sh → Type
  | .c s => PayC s
  | .agg l => PayA l

def val : (s : Sh) → Pay s → Value
  | .c s, p => valC s p
  | .agg l, p => .agg (valA l p).toArray

@[reducible] def PayL : List Sh → Type
  | [] => Unit
  | [s] => Pay s
  | s :: t :: l => Pay s × PayL (t :: l)

def valL : (l : List Sh) → PayL l → List Value
  | [], _ => []
  | [s], p => [val s p]
  | s :: t :: l, p => val s p.1 :: valL (t :: l) p.2

/-- what a function hands back -/
def valR (l : List Sh) (p : PayL l) : Value :=
  match valL l p with
  | [v] => v
  | vs => .tuple vs.toArray

/-! ### what the transformers are -/

def fls : Pr := fun _ => False

def deref (p : Option Addr) (f : Addr → Pr) : Pr := fun w => ∃ a, p = some a ∧ f a w

def ldC (s : CS) (a : Addr) (f : PayC s → Pr) : Pr := fun w => ∃ p : PayC s, w.cell? a = some (valC s p) ∧ f p w

/-- cells in a row, from a on -/
def readsAt (w : World) (a : Addr) : Nat → List Value → Prop
  | _, [] => True
  | i, v :: l => w.cell? (a.add i) = some v ∧ readsAt w a (i + 1) l

def ldA (l : List CS) (a : Addr) (f : PayA l → Pr) : Pr := fun w => ∃ p : PayA l, readsAt w a 0 (valA l p) ∧ f p w

def NotAgg : Value → Prop
  | .agg _ => False
  | .tuple _ => False
  | _ => True

def st (a : Addr) (v : Value) (f : Pr) : Pr := fun w => NotAgg v ∧ (w.cell? a).isSome = true ∧ w.frozen? a = false ∧ f (w.setCell a v)

def stL (a : Addr) : Nat → List Value → Pr → Pr
  | _, [], f => f
  | i, v :: l, f => st (a.add i) v (stL a (i + 1) l f)

def nw (o : Obj) (f : Nat → Pr) : Pr := fun w => f w.heap.size (w.alloc o)

def br (b : Bool) (x y : Pr) : Pr := fun w => if b = true then x w else y w

/-- a fact owed on the way -/
def owe (p : Prop) (f : Pr) : Pr := fun w => p ∧ f w

/-- a draw of the tape -/
def drw (f : Pr) : Pr := fun w => f w.drew

def jn {S : Type} (f : (S → Pr) → Pr) (k : S → Pr) : Pr := fun w => ∃ R : S → Pr, f R w ∧ ∀ s w', R s w' → k s w'

def loopE {S : Type} (G : (S → Pr) → S → Pr) (s : S) : Pr := fun w =>
  ∃ (I : S → Pr) (μ : S → World → Nat), I s w ∧ ∀ s w, I s w → G (fun s' w' => I s' w' ∧ μ s' w' < μ s w) s w

def both (x y : Pr) : Pr := fun w => x w ∧ y w

/-! ### environments -/

inductive EV where
  | no
  | val (v : Value)
  | lit (b : Bool)
  | nx0
  | nx1 (k v : Value)
  | ent (k v : Value)

def EV.v? : EV → Option Value
  | .no => none
  | .val v => some v
  | .lit b => some (.bool b)
  | .nx0 => some (.tuple #[.bool false])
  | .nx1 k v => some (.tuple #[.bool true, k, v])
  | .ent k v => some (.tuple #[k, v])

/-- the slots -/
def Env.getL : List EV → Nat → EV
  | [], _ => .no
  | x :: _, 0 => x
  | _ :: e, n + 1 => Env.getL e n

def Env.setL : List EV → Nat → EV → List EV
  | [], _, _ => []
  | _ :: e, 0, v => v :: e
  | x :: e, n + 1, v => x :: Env.setL e n v

/-- what is known of the slots; the marks among the deferred calls -/
structure Env where
  l : List EV
  ds : List Nat

def Env.length (e : Env) : Nat := e.l.length
def Env.get (e : Env) (n : Nat) : EV := Env.getL e.l n
def Env.set (e : Env) (n : Nat) (v : EV) : Env := ⟨Env.setL e.l n v, e.ds⟩
def Env.mark (e : Env) (D : Nat) : Env := ⟨e.l, D :: e.ds⟩

def Env.put (e : Env) (d : Option Tmp) (v : EV) : Env :=
  match d with
  | none => e
  | some d => Env.set e d v

def Env.ev (e : Env) : Operand → EV
  | .tmp t => Env.get e t
  | .const (.bool b) => .lit b
  | .const v => .val v
  | .global g => .val (.pointer (some ⟨g, 0, none⟩))
  | .func f => .val (.func (.func f) #[] #[])

def Env.forget : Env → List Nat → Env
  | e, [] => e
  | e, t :: l => Env.forget (Env.set e t .no) l

def marks (ds : List Nat) : List Deferred := ds.map fun D => { target := .collected D, args := #[] }

structure Ag (e : Env) (a : Act) : Prop where
  size : e.length ≤ a.tmps.size
  get : ∀ t v, (Env.get e t).v? = some v → a.tmps[t]? = some v
  defers : a.defers = marks e.ds

theorem Env.getL_setL (e : List EV) (t : Nat) (v : EV) (u : Nat) : Env.getL (Env.setL e t v) u = if u = t ∧ t < e.length then v else Env.getL e u := by
  induction e generalizing t u with
  | nil => simp [Env.setL, Env.getL]
  | cons x e ih =>
    cases t with
    | zero => cases u <;> simp [Env.setL, Env.getL]
    | succ t =>
      cases u with
      | zero => simp [Env.setL, Env.getL]
      | succ u => simp [Env.setL, Env.getL, ih]

theorem Env.length_setL (e : List EV) (t : Nat) (v : EV) : (Env.setL e t v).length = e.length := by
  induction e generalizing t with
  | nil => simp [Env.setL]
  | cons x e ih => cases t <;> simp [Env.setL, ih]

theorem Env.getL_none_of_ge (e : List EV) (t : Nat) (h : e.length ≤ t) : Env.getL e t = .no := by
  induction e generalizing t with
  | nil => rfl
  | cons x e ih =>
    cases t with
    | zero => simp at h
    | succ t => simp only [Env.getL]; exact ih t (by simpa using h)

theorem Env.get_set (e : Env) (t : Nat) (v : EV) (u : Nat) : Env.get (Env.set e t v) u = if u = t ∧ t < e.length then v else Env.get e u := Env.getL_setL e.l t v u
theorem Env.get_none_of_ge (e : Env) (t : Nat) (h : e.length ≤ t) : Env.get e t = .no := Env.getL_none_of_ge e.l t h

@[simp] theorem Env.length_set (e : Env) (t : Nat) (v : EV) : (Env.set e t v).length = e.length := Env.length_setL e.l t v
@[simp] theorem Env.length_put (e : Env) (d : Option Tmp) (v : EV) : (Env.put e d v).length = e.length := by
  cases d <;> simp [Env.put]
@[simp] theorem Env.ds_set (e : Env) (t : Nat) (v : EV) : (Env.set e t v).ds = e.ds := rfl
@[simp] theorem Env.ds_put (e : Env) (d : Option Tmp) (v : EV) : (Env.put e d v).ds = e.ds := by
  cases d <;> simp [Env.put]

@[simp] theorem Env.length_forget (e : Env) (l : List Nat) : (Env.forget e l).length = e.length := by
  induction l generalizing e with
  | nil => rfl
  | cons t l ih => simp [Env.forget, ih]
@[simp] theorem Env.ds_forget (e : Env) (l : List Nat) : (Env.forget e l).ds = e.ds := by
  induction l generalizing e with
  | nil => rfl
  | cons t l ih => simp [Env.forget, ih]

theorem Env.get_put (e : Env) (d : Option Tmp) (v : EV) (u : Nat) : Env.get (Env.put e d v) u = if d = some u ∧ u < e.length then v else Env.get e u := by
  cases d with
  | none => simp [Env.put]
  | some d =>
    simp only [Env.put, Env.get_set]
    by_cases h : u = d
    · subst h; simp
    · have : ¬ (some d = some u) := fun h' => h (by simpa using h'.symm)
      simp [h, this]

theorem Env.get_forget (e : Env) (l : List Nat) (u : Nat) : Env.get (Env.forget e l) u = if u ∈ l ∧ u < e.length then .no else Env.get e u := by
  induction l generalizing e with
  | nil => simp [Env.forget]
  | cons t l ih =>
    simp only [Env.forget, ih, Env.get_set, Env.length_set, List.mem_cons]
    by_cases h1 : u ∈ l ∧ u < e.length
    · rw [if_pos h1, if_pos ⟨.inr h1.1, h1.2⟩]
    · rw [if_neg h1]
      by_cases h2 : u = t ∧ t < e.length
      · rw [if_pos h2, if_pos ⟨.inl h2.1, h2.1 ▸ h2.2⟩]
      · rw [if_neg h2, if_neg]
        rintro ⟨h3 | h3, h4⟩
        · exact h2 ⟨h3, h3 ▸ h4⟩
        · exact h1 ⟨h3, h4⟩

section
variable {e : Env} {a : Act}

theorem Ag.eval (h : Ag e a) {x : Operand} {v : Value} (hx : (Env.ev e x).v? = some v) : a.eval x = v := by
  cases x with
  | tmp t => have := h.get t v hx; simp [Act.eval, Array.getD_eq_getD_getElem?, this]
  | const c => cases c <;> simpa [Env.ev, EV.v?, Act.eval] using hx
  | global g => simpa [Env.ev, EV.v?, Act.eval] using hx
  | func f => simpa [Env.ev, EV.v?, Act.eval] using hx

theorem Ag.put (h : Ag e a) (d : Option Tmp) {x : EV} {v : Value} (hx : ∀ u, x.v? = some u → u = v) : Ag (Env.put e d x) (a.put d v) := by
  cases d with
  | none => exact h
  | some d =>
    refine ⟨by simpa [Act.put] using h.size, fun t u hu => ?_, by simpa [Act.put] using h.defers⟩
    rw [Env.get_put] at hu
    simp only [Act.put]
    by_cases hd : d = t
    · subst hd
      by_cases hl : d < e.length
      · rw [if_pos ⟨rfl, hl⟩] at hu
        have hs : d < a.tmps.size := Nat.lt_of_lt_of_le hl h.size
        simp [hs, hx u hu]
      · rw [if_neg (fun h' => hl h'.2)] at hu
        rw [Env.get_none_of_ge e d (Nat.le_of_not_lt hl)] at hu
        simp [EV.v?] at hu
    · rw [if_neg (fun h' => hd (by simpa using h'.1))] at hu
      rw [Array.getElem?_setIfInBounds, if_neg hd]
      exact h.get t u hu

theorem Ag.put_no (h : Ag e a) (d : Option Tmp) (v : Value) : Ag (Env.put e d .no) (a.put d v) := h.put d (by simp [EV.v?])

/-- forgetting: any frame that agrees outside the list -/
theorem Ag.lit (h : Ag e a) {t : Nat} {b : Bool} (hb : (Env.get e t).v? = some (.bool b)) : Ag (Env.set e t (.lit b)) a := by
  refine ⟨by simpa using h.size, fun u v hv => ?_, by simpa using h.defers⟩
  rw [Env.get_set] at hv
  by_cases hu : u = t ∧ t < e.length
  · rw [if_pos hu] at hv
    obtain ⟨rfl, _⟩ := hu
    simp only [EV.v?, Option.some.injEq] at hv
    exact hv ▸ h.get u _ hb
  · rw [if_neg hu] at hv
    exact h.get u v hv
end

/-! ### reading a payload off a value -/

def getC : (s : CS) → Value → (PayC s → Pr) → Pr
  | .int .i8, .int .i8 n, f => f n
  | .int .i16, .int .i16 n, f => f n
  | .int .i32, .int .i32 n, f => f n
  | .int .i64, .int .i64 n, f => f n
  | .int .u8, .int .u8 n, f => f n
  | .int .u16, .int .u16 n, f => f n
  | .int .u32, .int .u32 n, f => f n
  | .int .u64, .int .u64 n, f => f n
  | .bool, .bool b, f => f b
  | .str, .string s, f => f s
  | .ptr, .pointer p, f => f p
  | .slice, .slice a l c, f => f ⟨a, l, c⟩
  | .map, .map r, f => f r
  | .any, v, f => f v
  | _, _, _ => fls

theorem getC_sound {s : CS} {v : Value} {f : PayC s → Pr} {w : World} (h : getC s v f w) : ∃ p, v = valC s p ∧ f p w := by
  unfold getC at h
  split at h <;> first | exact ⟨_, rfl, h⟩ | exact h.elim

def getA : (l : List CS) → List Value → (PayA l → Pr) → Pr
  | [], [], f => f ()
  | [s], [v], f => getC s v f
  | s :: t :: l, v :: vs, f => getC s v fun p => getA (t :: l) vs fun q => f (p, q)
  | _, _, _ => fls

theorem getA_sound : ∀ {l : List CS} {vs : List Value} {f : PayA l → Pr} {w : World}, getA l vs f w → ∃ p, vs = valA l p ∧ f p w
  | [], [], _, _, h => ⟨(), rfl, h⟩
  | [], _ :: _, _, _, h => h.elim
  | [s], [v], _, _, h => let ⟨p, hp, hf⟩ := getC_sound h; ⟨p, by rw [hp]; rfl, hf⟩
  | [_], [], _, _, h => h.elim
  | [_], _ :: _ :: _, _, _, h => h.elim
  | s :: t :: l, v :: vs, _, _, h => by
    obtain ⟨p, hp, h⟩ := getC_sound h
    obtain ⟨q, hq, h⟩ := getA_sound h
    exact ⟨(p, q), by rw [hp, hq]; rfl, h⟩
  | _ :: _ :: _, [], _, _, h => h.elim

def getP : (s : Sh) → Value → (Pay s → Pr) → Pr
  | .c s, v, f => getC s v f
  | .agg l, .agg cs, f => getA l cs.toList f
  | _, _, _ => fls

theorem getP_sound {s : Sh} {v : Value} {f : Pay s → Pr} {w : World} (h : getP s v f w) : ∃ p, v = val s p ∧ f p w := by
  cases s with
  | c s => exact getC_sound h
  | agg l =>
    cases v <;> simp only [getP] at h <;> try exact h.elim
    obtain ⟨p, hp, h⟩ := getA_sound h
    exact ⟨p, by simp [val, ← hp], h⟩

/-- live slots: a number and a shape each -/
abbrev Live := List (Nat × Sh)

@[reducible] def Live.S (l : Live) : Type := PayL (l.map (·.2))

def getE (s : Sh) (x : EV) (f : Pay s → Pr) : Pr :=
  match x with
  | .val v => getP s v f
  | .lit b => getP s (.bool b) f
  | .nx0 => fls
  | .nx1 _ _ => fls
  | .ent _ _ => fls
  | .no => fls

theorem getE_sound {s : Sh} {x : EV} {f : Pay s → Pr} {w : World} (h : getE s x f w) : ∃ p, x.v? = some (val s p) ∧ f p w := by
  cases x with
  | no => exact h.elim
  | nx0 => exact h.elim
  | nx1 _ _ => exact h.elim
  | ent _ _ => exact h.elim
  | val v => obtain ⟨p, rfl, h1⟩ := getP_sound (show getP s v f w from h); exact ⟨p, rfl, h1⟩
  | lit b => obtain ⟨p, hp, h1⟩ := getP_sound (show getP s (.bool b) f w from h); exact ⟨p, by rw [← hp]; rfl, h1⟩

def need (e : Env) : (l : Live) → (PayL (l.map (·.2)) → Pr) → Pr
  | [], f => f ()
  | [x], f => getE x.2 (Env.get e x.1) f
  | x :: y :: l, f => getE x.2 (Env.get e x.1) fun p => need e (y :: l) fun q => f (p, q)

def upd (e : Env) : (l : Live) → PayL (l.map (·.2)) → Env
  | [], _ => e
  | [x], p => Env.set e x.1 (.val (val x.2 p))
  | x :: y :: l, p => upd (Env.set e x.1 (.val (val x.2 p.1))) (y :: l) p.2

theorem need_sound {a : Act} {w : World} : ∀ {l : Live} {e e0 : Env} {f : PayL (l.map (·.2)) → Pr}, Ag e a → Ag e0 a → need e l f w → ∃ p, Ag (upd e0 l p) a ∧ f p w
  | [], _, _, _, _, h0, h => ⟨(), h0, h⟩
  | [x], e, e0, f, he, h0, h => by
    obtain ⟨p, hv, h⟩ := getE_sound h
    refine ⟨p, ?_, h⟩
    have hg := he.get x.1 _ hv
    refine ⟨by simpa [upd] using h0.size, fun t u hu => ?_, by simpa [upd] using h0.defers⟩
    simp only [upd, Env.get_set] at hu
    split at hu
    · rename_i ht
      simp only [EV.v?, Option.some.injEq] at hu
      rw [ht.1, hg, hu]
    · exact h0.get t u hu
  | x :: y :: l, e, e0, f, he, h0, h => by
    obtain ⟨p, hv, h⟩ := getE_sound h
    have hg := he.get x.1 _ hv
    have h1 : Ag (Env.set e0 x.1 (.val (val x.2 p))) a := by
      refine ⟨by simpa using h0.size, fun t u hu => ?_, by simpa using h0.defers⟩
      rw [Env.get_set] at hu
      split at hu
      · rename_i ht
        simp only [EV.v?, Option.some.injEq] at hu
        rw [ht.1, hg, hu]
      · exact h0.get t u hu
    obtain ⟨q, hq, h⟩ := need_sound he h1 h
    exact ⟨(p, q), hq, h⟩

/-- outside W the environment is as it was -/
def markN : Nat := 1000000007
def Ext (W : List Nat) (e e' : Env) : Prop := e.length = e'.length ∧ (∀ t, t ∉ W → Env.get e' t = Env.get e t) ∧ (markN ∉ W → e'.ds = e.ds)

theorem Ext.refl (W : List Nat) (e : Env) : Ext W e e := ⟨rfl, fun _ _ => rfl, fun _ => rfl⟩
theorem Ext.trans {W V U : List Nat} {e e1 e2 : Env} (h : Ext W e e1) (h' : Ext V e1 e2) (hw : ∀ t, t ∈ W → t ∈ U) (hv : ∀ t, t ∈ V → t ∈ U) : Ext U e e2 :=
  ⟨h.1.trans h'.1, fun t ht => (h'.2.1 t fun h => ht (hv t h)).trans (h.2.1 t fun h => ht (hw t h)), fun ht => (h'.2.2 fun h => ht (hv _ h)).trans (h.2.2 fun h => ht (hw _ h))⟩
theorem Ext.mono {W U : List Nat} {e e1 : Env} (h : Ext W e e1) (hw : ∀ t, t ∈ W → t ∈ U) : Ext U e e1 := ⟨h.1, fun t ht => h.2.1 t fun h => ht (hw t h), fun ht => h.2.2 fun h => ht (hw _ h)⟩

theorem Ext.put (e : Env) (d : Option Tmp) (v : EV) : Ext d.toList e (Env.put e d v) :=
  ⟨by simp, fun t ht => by
    rw [Env.get_put, if_neg]
    rintro ⟨rfl, _⟩
    simp at ht, fun _ => by simp⟩

theorem Ag.forget {W : List Nat} {e e' : Env} {a : Act} (h : Ag e' a) (hx : Ext W e e') (hm : markN ∉ W) : Ag (Env.forget e W) a := by
  refine ⟨by simpa [hx.1] using h.size, fun t v hv => ?_, by rw [Env.ds_forget, ← hx.2.2 hm]; exact h.defers⟩
  rw [Env.get_forget] at hv
  split at hv
  · simp [EV.v?] at hv
  · rename_i ht
    by_cases hl : t < e.length
    · have htW : t ∉ W := fun h => ht ⟨h, hl⟩
      rw [← hx.2.1 t htW] at hv
      exact h.get t v hv
    · rw [Env.get_none_of_ge e t (by omega)] at hv
      simp [EV.v?] at hv

theorem Ext.upd : ∀ {l : Live} {W : List Nat} {e e0 : Env} {p : PayL (l.map (·.2))}, Ext W e e0 → (∀ x ∈ l, x.1 ∈ W) → Ext W e (upd e0 l p)
  | [], _, _, _, _, h, _ => h
  | [x], W, e, e0, p, h, hl => by
    refine ⟨by simpa [Eng.upd] using h.1, fun t ht => ?_, fun ht => by simpa [Eng.upd] using h.2.2 ht⟩
    rw [Eng.upd, Env.get_set, if_neg]
    · exact h.2.1 t ht
    · rintro ⟨rfl, _⟩; exact ht (hl x (by simp))
  | x :: y :: l, W, e, e0, p, h, hl => by
    refine Ext.upd (l := y :: l) (e0 := Env.set e0 x.1 (.val (val x.2 p.1))) ?_ (fun z hz => hl z (by simp [hz]))
    refine ⟨by simpa using h.1, fun t ht => ?_, fun ht => by simpa using h.2.2 ht⟩
    rw [Env.get_set, if_neg]
    · exact h.2.1 t ht
    · rintro ⟨rfl, _⟩; exact ht (hl x (by simp))

theorem Ext.forget (e : Env) (W : List Nat) : Ext W e (Env.forget e W) :=
  ⟨by simp, fun t ht => by rw [Env.get_forget, if_neg (fun h => ht h.1)], fun _ => by simp⟩

end Go.Eng
