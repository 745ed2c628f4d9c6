import Derived.Test.YtlenkeefncbmcaaE1
set_option linter.unusedVariables false
set_option linter.unusedSimpArgs false
set_option linter.unusedSectionVars false
/-! The engine, part 2: what each operation asks. -/
namespace Go.Eng

section
variable (P : Program)

/-- the cells' shapes of a type -/
def cellsFuel : Nat → TypeId → Option (List CS)
  | 0, _ => none
  | d + 1, t =>
    match P.underlying t with
    | some .bool => some [.bool]
    | some (.int k) => some [.int k]
    | some .string => some [.str]
    | some (.pointer _) => some [.ptr]
    | some (.slice _) => some [.slice]
    | some (.map _ _) => some [.map]
    | some (.func _ _ _) => some [.any]
    | some (.interface _) => some [.any]
    | some (.struct fs) => fs.toList.foldr (fun f acc => match cellsFuel d f.type, acc with | some l, some r => some (l ++ r) | _, _ => none) (some [])
    | some (.array n e) => match cellsFuel d e with | some l => some (List.replicate n l).flatten | none => none
    | _ => none

def isAggT (t : TypeId) : Bool :=
  match P.underlying t with
  | some (.struct _) | some (.array _ _) => true
  | _ => false

def shOf (t : TypeId) : Option Sh :=
  match isAggT P t with
  | true => match cellsFuel P 10 t with | some l => some (.agg l) | none => none
  | false => match cellsFuel P 1 t with | some [c] => some (.c c) | _ => none

def shsOf : List TypeId → Option (List Sh)
  | [] => some []
  | t :: l => match shOf P t, shsOf l with | some s, some r => some (s :: r) | _, _ => none
end

def nd (x : EV) (f : Value → Pr) : Pr :=
  match x with
  | .val v => f v
  | .lit b => f (.bool b)
  | .nx0 => f (.tuple #[.bool false])
  | .nx1 k v => f (.tuple #[.bool true, k, v])
  | .ent k v => f (.tuple #[k, v])
  | .no => fls

theorem nd_sound {x : EV} {f : Value → Pr} {w : World} (h : nd x f w) : ∃ v, x.v? = some v ∧ f v w := by
  cases x with
  | no => exact h.elim
  | val v => exact ⟨v, rfl, h⟩
  | lit b => exact ⟨_, rfl, h⟩
  | nx0 => exact ⟨_, rfl, h⟩
  | nx1 k v => exact ⟨_, rfl, h⟩
  | ent k v => exact ⟨_, rfl, h⟩

def ndL : List EV → (List Value → Pr) → Pr
  | [], f => f []
  | x :: l, f => nd x fun v => ndL l fun vs => f (v :: vs)

/-- a known option -/
def opt {α : Type} (x : Option α) (f : α → Pr) : Pr :=
  match x with
  | some a => f a
  | none => fls

theorem opt_sound {α : Type} {x : Option α} {f : α → Pr} {w : World} (h : opt x f w) : ∃ a, x = some a ∧ f a w := by
  cases x with
  | some a => exact ⟨a, rfl, h⟩
  | none => exact h.elim

/-- a known condition -/
def cnd (p : Prop) [Decidable p] (f : Pr) : Pr := if p then f else fls

theorem cnd_sound {p : Prop} [Decidable p] {f : Pr} {w : World} (h : cnd p f w) : p ∧ f w := by
  unfold cnd at h
  by_cases hp : p
  · rw [if_pos hp] at h; exact ⟨hp, h⟩
  · rw [if_neg hp] at h; exact h.elim

/-- a known bool -/
def tf (b : Bool) (x y : Pr) : Pr :=
  match b with
  | true => x
  | false => y

theorem tf_sound {b : Bool} {x y : Pr} {w : World} (h : tf b x y w) : (b = true ∧ x w) ∨ (b = false ∧ y w) := by
  cases b with
  | true => exact .inl ⟨rfl, h⟩
  | false => exact .inr ⟨rfl, h⟩

def asAggE (v : Value) (f : Array Value → Pr) : Pr :=
  match v with
  | .agg cs => f cs
  | _ => fls

theorem asAggE_sound {v : Value} {f : Array Value → Pr} {w : World} (h : asAggE v f w) : ∃ cs, v = .agg cs ∧ f cs w := by
  cases v with
  | agg cs => exact ⟨cs, rfl, h⟩
  | _ => exact h.elim

def one? {α : Type} : List α → Option α
  | [c] => some c
  | _ => none

theorem one?_some {α : Type} {l : List α} {c : α} (h : one? l = some c) : l = [c] := by
  match l, h with
  | [c], h => simp [one?] at h; rw [h]

/-! ### integers -/

def bAnd (k : IntKind) (x y : Int) : Int := k.wrap (BitVec.ofInt k.bits x &&& BitVec.ofInt k.bits y).toNat
def bOr (k : IntKind) (x y : Int) : Int := k.wrap (BitVec.ofInt k.bits x ||| BitVec.ofInt k.bits y).toNat
def bXor (k : IntKind) (x y : Int) : Int := k.wrap (BitVec.ofInt k.bits x ^^^ BitVec.ofInt k.bits y).toNat
def bAndNot (k : IntKind) (x y : Int) : Int := k.wrap (BitVec.ofInt k.bits x &&& ~~~(BitVec.ofInt k.bits y)).toNat
def bShl (k : IntKind) (x y : Int) : Int := k.wrap (x * 2 ^ (min y.toNat k.bits))
def bShr (k : IntKind) (x y : Int) : Int := x.fdiv (2 ^ (min y.toNat k.bits))

def cbin (op : BinOp) (x y : Value) (k : EV → Pr) : Pr :=
  match op, x, y with
  | .shl, .int k1 a, .int _ b => owe (0 ≤ b) (k (.val (.int k1 (bShl k1 a b))))
  | .shr, .int k1 a, .int _ b => owe (0 ≤ b) (k (.val (.int k1 (bShr k1 a b))))
  | .add, .int k1 a, .int k2 b => if k1 = k2 then k (.val (.int k1 (k1.wrap (a + b)))) else fls
  | .sub, .int k1 a, .int k2 b => if k1 = k2 then k (.val (.int k1 (k1.wrap (a - b)))) else fls
  | .mul, .int k1 a, .int k2 b => if k1 = k2 then k (.val (.int k1 (k1.wrap (a * b)))) else fls
  | .quo, .int k1 a, .int k2 b => if k1 = k2 then owe (b ≠ 0) (k (.val (.int k1 (k1.wrap (a.tdiv b))))) else fls
  | .rem, .int k1 a, .int k2 b => if k1 = k2 then owe (b ≠ 0) (k (.val (.int k1 (a.tmod b)))) else fls
  | .and, .int k1 a, .int k2 b => if k1 = k2 then k (.val (.int k1 (bAnd k1 a b))) else fls
  | .or, .int k1 a, .int k2 b => if k1 = k2 then k (.val (.int k1 (bOr k1 a b))) else fls
  | .xor, .int k1 a, .int k2 b => if k1 = k2 then k (.val (.int k1 (bXor k1 a b))) else fls
  | .andNot, .int k1 a, .int k2 b => if k1 = k2 then k (.val (.int k1 (bAndNot k1 a b))) else fls
  | .eql, .int k1 a, .int k2 b => if k1 = k2 then k (.val (.bool (a == b))) else fls
  | .neq, .int k1 a, .int k2 b => if k1 = k2 then k (.val (.bool (a != b))) else fls
  | .lss, .int k1 a, .int k2 b => if k1 = k2 then k (.val (.bool (decide (a < b)))) else fls
  | .leq, .int k1 a, .int k2 b => if k1 = k2 then k (.val (.bool (decide (a ≤ b)))) else fls
  | .gtr, .int k1 a, .int k2 b => if k1 = k2 then k (.val (.bool (decide (a > b)))) else fls
  | .geq, .int k1 a, .int k2 b => if k1 = k2 then k (.val (.bool (decide (a ≥ b)))) else fls
  | .add, .string a, .string b => owe (((a.size + b.size : Nat) : Int) ≤ IntKind.i64.max) (k (.val (.string (a ++ b))))
  | .eql, .string a, .string b => k (.val (.bool (a.toList == b.toList)))
  | .neq, .string a, .string b => k (.val (.bool (!(a.toList == b.toList))))
  | .lss, .string a, .string b => k (.val (.bool (Op.bytesLess a.toList b.toList)))
  | _, _, _ => fls

theorem run_bin {P : Program} {op : BinOp} {t : TypeId} {x y : Value} {k : EV → Pr} {w : World} (h : cbin op x y k w) :
    ∃ v, (binOp op t x y).run P w = .ok v w ∧ k (.val v) w := by
  unfold cbin at h
  split at h <;> first
    | exact h.elim
    | (obtain ⟨h1, h2⟩ := h
       refine ⟨_, ?_, h2⟩
       simp [binOp, Op.shift, show ¬ (_ : Int) < 0 from Int.not_lt.2 h1, bShl, bShr, pure]
       done)
    | (split at h
       · rename_i hk
         first
           | (refine ⟨_, ?_, h⟩
              simp [binOp, hk, Op.intArith, Op.intBits, Op.intCmp, bAnd, bOr, bXor, bAndNot, pure]
              done)
           | (obtain ⟨h1, h2⟩ := h
              refine ⟨_, ?_, h2⟩
              simp [binOp, hk, Op.intDiv, h1, pure]
              done)
       · exact h.elim)
    | exact ⟨_, by simp only [binOp, Op.stringOp]; rw [if_neg (Int.not_lt.2 h.1)]; rfl, h.2⟩
    | (refine ⟨_, ?_, h⟩
       simp [binOp, Op.stringOp, pure]
       done)

/-! ### runs -/

def RT {α : Type} (P : Program) (s : Sem α) (w : World) (Q : α → World → Prop) : Prop := ∃ v w', s.run P w = .ok v w' ∧ Q v w'

section
variable {P : Program} {α β : Type} {w : World}
theorem RT.pure {a : α} {Q : α → World → Prop} (h : Q a w) : RT P (Pure.pure a) w Q := ⟨a, w, rfl, h⟩
theorem RT.bind {s : Sem α} {f : α → Sem β} {Q : β → World → Prop} (h : RT P s w fun v w' => RT P (f v) w' Q) : RT P (s >>= f) w Q := by
  obtain ⟨v, w', h1, v2, w2, h2, h3⟩ := h
  exact ⟨v2, w2, by rw [Sem.run_bind, h1]; exact h2, h3⟩
theorem RT.mono {s : Sem α} {Q Q' : α → World → Prop} (h : RT P s w Q) (hq : ∀ v w', Q v w' → Q' v w') : RT P s w Q' :=
  let ⟨v, w', h1, h2⟩ := h; ⟨v, w', h1, hq _ _ h2⟩
theorem RT.of_run {s : Sem α} {v : α} {w' : World} {Q : α → World → Prop} (h : s.run P w = .ok v w') (hq : Q v w') : RT P s w Q := ⟨v, w', h, hq⟩
theorem RT.underlying {t : TypeId} {d : TypeDesc} {Q : TypeDesc → World → Prop} (h : P.underlying t = some d) (hq : Q d w) : RT P (Go.underlying t) w Q :=
  ⟨d, w, by simp [Go.underlying, h], hq⟩
theorem RT.typeInfo {t : TypeId} {i : TypeInfo} {Q : TypeInfo → World → Prop} (h : P.info? t = some i) (hq : Q i w) : RT P (Go.typeInfo t) w Q :=
  ⟨i, w, by simp [Go.typeInfo, h], hq⟩
theorem RT.sizeOf {t : TypeId} {i : TypeInfo} {Q : Nat → World → Prop} (h : P.info? t = some i) (hq : Q i.size w) : RT P (Go.sizeOf t) w Q :=
  .bind (.typeInfo h (.pure hq))
theorem RT.zeroValue {t : TypeId} {i : TypeInfo} {z : Value} {Q : Value → World → Prop} (h : P.info? t = some i) (hz : i.zero = some z) (hq : Q z w) : RT P (Go.zeroValue t) w Q :=
  .bind (.typeInfo h (by rw [hz]; exact .pure hq))
theorem RT.load {a : Addr} {v : Value} {Q : Value → World → Prop} (h : w.cell? a = some v) (hq : Q v w) : RT P (Go.load a) w Q :=
  ⟨v, w, by simp [h], hq⟩
theorem RT.newObj {o : Obj} {Q : Nat → World → Prop} (hq : Q w.heap.size (w.alloc o)) : RT P (Go.newObj o) w Q := ⟨_, _, rfl, hq⟩

theorem NotAgg.one {v : Value} (h : NotAgg v) : v.oneCell' = true := by cases v <;> simp_all [NotAgg, Value.oneCell']
theorem NotAgg.cells {v : Value} (h : NotAgg v) : v.cells = #[v] := by cases v <;> simp_all [NotAgg, Value.cells]

theorem RT.store {a : Addr} {v : Value} {f : Pr} {Q : Unit → World → Prop} (h : st a v f w) (hq : ∀ w', f w' → Q () w') : RT P (Go.store a v) w Q := by
  obtain ⟨h1, h2, h3, h4⟩ := h
  obtain ⟨u, hu⟩ := Option.isSome_iff_exists.1 h2
  exact ⟨(), _, by rw [run_store P w a v .plain h1.one]; simp [hu, h3], hq _ h4⟩

theorem RT.storeCells {a : Addr} {f : Pr} {Q : Unit → World → Prop} : ∀ {l : List Value} {i : Nat} {w : World}, stL a i l f w → (∀ w', f w' → Q () w') → RT P (Go.storeCells a l i) w Q
  | [], _, _, h, hq => .pure (hq _ h)
  | _ :: _, _, _, h, hq => .bind (.store h fun _ h' => RT.storeCells h' hq)

theorem RT.loadCellsFrom {a : Addr} {Q : Array Value → World → Prop} : ∀ {l : List Value} {i n : Nat} {acc : Array Value}, l.length = n → readsAt w a i l → Q (acc ++ l.toArray) w → RT P (Go.loadCellsFrom a i n acc) w Q
  | [], _, _, acc, rfl, _, hq => .pure (by simpa using hq)
  | v :: l, i, _, acc, rfl, h, hq => by
    simp only [List.length_cons, Go.loadCellsFrom]
    exact .bind (.load h.1 (RT.loadCellsFrom rfl h.2 (by simpa using hq)))

theorem RT.loadCells {a : Addr} {Q : Array Value → World → Prop} {l : List Value} {n : Nat} (hn : l.length = n) (h : readsAt w a 0 l) (hq : Q l.toArray w) : RT P (Go.loadCells a n) w Q :=
  RT.loadCellsFrom hn h (by simpa using hq)
end

theorem valA_length : ∀ (l : List CS) (p : PayA l), (valA l p).length = l.length
  | [], _ => rfl
  | [_], _ => rfl
  | _ :: t :: l, p => by simp only [valA, List.length_cons, valA_length (t :: l)]

section
variable (P : Program)

/-- reading a variable of a type -/
def ldT (t : TypeId) (a : Addr) (k : Value → Pr) : Pr :=
  opt (P.info? t) fun i =>
    tf (isAggT P t)
      (opt (cellsFuel P 10 t) fun l => cnd (l.length = i.size) (ldA l a fun p => k (.agg (valA l p).toArray)))
      (opt (cellsFuel P 1 t) fun l => opt (one? l) fun c => ldC c a fun p => k (valC c p))

/-- writing one -/
def stT (t : TypeId) (a : Addr) (v : Value) (k : Pr) : Pr :=
  opt (P.info? t) fun i =>
    tf (isAggT P t)
      (asAggE v fun cs => cnd (cs.size = i.size) (stL a 0 cs.toList k))
      (cnd (i.size = 1) (st a v k))

/-- a new variable -/
def nwT (t : TypeId) (v : Value) (k : EV → Pr) : Pr :=
  tf (isAggT P t)
    (asAggE v fun cs => nw (.cells cs t) fun r => k (.val (.pointer (some ⟨r, 0, none⟩))))
    (owe (NotAgg v) (nw (.cells #[v] t) fun r => k (.val (.pointer (some ⟨r, 0, none⟩)))))
end

section
variable {P : Program} {w : World}

theorem run_isAgg {t : TypeId} {d : TypeDesc} (h : P.underlying t = some d) : (isAgg t).run P w = .ok (isAggT P t) w := by
  simp only [isAgg, Sem.run_bind, Go.underlying, run_program, Result.andThen_ok, h, Sem.run_pure, isAggT]
  cases d <;> rfl

theorem underlying_of_info {t : TypeId} {i : TypeInfo} (h : P.info? t = some i) (hc : isAggT P t = true ∨ ∃ l, cellsFuel P 1 t = some l) : ∃ d, P.underlying t = some d := by
  cases hu : P.underlying t with
  | some d => exact ⟨d, rfl⟩
  | none =>
    rcases hc with hc | ⟨l, hl⟩
    · simp [isAggT, hu] at hc
    · simp [cellsFuel, hu] at hl

theorem RT.loadVar {t : TypeId} {a : Addr} {k : Value → Pr} {Q : Value → World → Prop} (h : ldT P t a k w) (hq : ∀ v, k v w → Q v w) : RT P (Go.loadVar t a) w Q := by
  obtain ⟨i, hi, h⟩ := opt_sound h
  rcases tf_sound h with ⟨hag, h⟩ | ⟨hag, h⟩
  · obtain ⟨l, hl, h⟩ := opt_sound h
    obtain ⟨hlen, p, hr, hk⟩ := cnd_sound h
    obtain ⟨d, hd⟩ := underlying_of_info hi (.inl hag)
    refine .bind (.of_run (run_isAgg hd) ?_)
    rw [hag, if_pos rfl]
    refine .bind (.sizeOf hi (.bind ?_))
    exact .loadCells (by rw [valA_length, hlen]) hr (.pure (hq _ hk))
  · obtain ⟨l, hl, h⟩ := opt_sound h
    obtain ⟨c, hc, p, hr, hk⟩ := opt_sound h
    obtain ⟨d, hd⟩ := underlying_of_info hi (.inr ⟨_, hl⟩)
    refine .bind (.of_run (run_isAgg hd) ?_)
    rw [hag, if_neg Bool.false_ne_true]
    exact .load hr (hq _ hk)

theorem RT.loadVar' {t : TypeId} {a : Addr} {k : Value → Pr} (h : ldT P t a k w) : RT P (Go.loadVar t a) w k := RT.loadVar h fun _ h => h

theorem RT.storeVar {t : TypeId} {a : Addr} {v : Value} {k : Pr} {Q : Unit → World → Prop} (h : stT P t a v k w) (hq : ∀ w', k w' → Q () w') : RT P (Go.storeVar t a v) w Q := by
  obtain ⟨i, hi, h⟩ := opt_sound h
  rcases tf_sound h with ⟨hag, h⟩ | ⟨hag, h⟩
  · obtain ⟨cs, rfl, h⟩ := asAggE_sound h
    obtain ⟨hlen, h⟩ := cnd_sound h
    refine .bind (.sizeOf hi ?_)
    simp only [Value.cells, hlen, ne_eq, not_true_eq_false, if_false]
    exact .storeCells h hq
  · obtain ⟨hs, h⟩ := cnd_sound h
    refine .bind (.sizeOf hi ?_)
    simp only [h.1.cells, hs, List.size_toArray, List.length_cons, List.length_nil, ne_eq, not_true_eq_false, if_false]
    exact .storeCells (l := [v]) (i := 0) (by simpa [stL, Addr.add] using h) hq

theorem RT.newVar {t : TypeId} {v : Value} {k : EV → Pr} {Q : Addr → World → Prop} (h : nwT P t v k w) (hq : ∀ a w', k (.val (.pointer (some a))) w' → Q a w') : RT P (Go.newVar t v) w Q := by
  unfold Go.newVar Go.newRow
  rcases tf_sound h with ⟨hag, h⟩ | ⟨hag, h⟩
  · obtain ⟨cs, rfl, h⟩ := asAggE_sound h
    exact .bind (.newObj (.pure (hq _ _ h)))
  · obtain ⟨h1, h2⟩ := h
    rw [h1.cells]
    exact .bind (.newObj (.pure (hq _ _ h2)))
end

end Go.Eng
