import Derived.Test.YtlenkeefncbmcaaE2
import Derived.RangeFuncSeq
set_option linter.unusedVariables false
set_option linter.unusedSimpArgs false
set_option linter.unusedSectionVars false
/-! The engine, part 3: one operation. -/
namespace Go.Eng

/-! ### slices -/

/-- 'x[lo:hi:mx]' of a slice whose elements take n cells -/
def slc (n : Nat) (s : Sl) (lo hi mx : Option Int) (k : Sl → Pr) : Pr := fun w =>
  (∀ m, mx = some m → 0 ≤ m ∧ m ≤ (s.cap : Int)) ∧
  (mx.isSome = true → hi.isSome = true) ∧
  (∀ h, hi = some h → 0 ≤ h ∧ h ≤ ((mx.map Int.toNat).getD s.cap : Int)) ∧
  (∀ l, lo = some l → 0 ≤ l ∧ l ≤ ((hi.map Int.toNat).getD s.len : Int)) ∧
  k ⟨if (mx.map Int.toNat).getD s.cap = (lo.map Int.toNat).getD 0 then s.a else s.a.map (·.add ((lo.map Int.toNat).getD 0 * n)),
     (hi.map Int.toNat).getD s.len - (lo.map Int.toNat).getD 0, (mx.map Int.toNat).getD s.cap - (lo.map Int.toNat).getD 0⟩ w

/-- 's[lo:hi]' of a string -/
def slcStr (s : ByteArray) (lo hi : Option Int) (k : ByteArray → Pr) : Pr := fun w =>
  (∀ h, hi = some h → 0 ≤ h ∧ h ≤ (s.size : Int)) ∧
  (∀ l, lo = some l → 0 ≤ l ∧ l ≤ ((hi.map Int.toNat).getD s.size : Int)) ∧
  k (s.extract ((lo.map Int.toNat).getD 0) ((hi.map Int.toNat).getD s.size)) w

/-- cells of a slice, if it has an array -/
def readsO (w : World) (a : Option Addr) (vs : List Value) : Prop :=
  match a with
  | some b => readsAt w b 0 vs
  | none => vs = []

def stO (a : Option Addr) (off : Nat) (vs : List Value) (k : Pr) : Pr :=
  match a with
  | some b => stL (b.add off) 0 vs k
  | none => k

/-- the built-in copy, elements of n cells -/
def cpy (n : Nat) (d s : Sl) (k : Pr) : Pr := fun w =>
  ∃ vs : List Value, (s.a.isSome = true → vs.length = Nat.min s.len d.len * n) ∧ readsO w s.a vs ∧ stO d.a 0 vs k w

def zc (z : List Value) (n : Nat) : List Value := (List.replicate n z).flatten

/-- the built-in append: E the element's type, n its cells, b its bytes, z its zero value's cells -/
def app (E : TypeId) (n b : Nat) (z : List Value) (s x : Sl) (k : Sl → Pr) : Pr := fun w =>
  ∃ new : List Value, (x.a.isSome = true → new.length = x.len * n) ∧ readsO w x.a new ∧
    (s.len + x.len ≤ s.cap → stO s.a (s.len * n) new (k ⟨s.a, s.len + x.len, s.cap⟩) w) ∧
    (s.cap < s.len + x.len → ∃ old : List Value, (s.a.isSome = true → old.length = s.len * n) ∧ readsO w s.a old ∧ (b ≠ 0) ∧
      (Builtin.nextslicecap (s.len + x.len) s.cap * b ≤ 2 ^ 48) ∧ (s.len + x.len < 2 ^ 63) ∧
      ∀ cap, s.len + x.len ≤ cap → cap < 2 ^ 63 →
        k ⟨some ⟨w.heap.size, 0, none⟩, s.len + x.len, cap⟩ (w.drew.alloc (.cells (old ++ new ++ zc z (cap - (s.len + x.len))).toArray E)))

/-- make([]T, l, c) -/
def mkS (E : TypeId) (b : Nat) (z : List Value) (l c : Int) (k : Sl → Pr) : Pr := fun w =>
  0 ≤ l ∧ l ≤ c ∧ (b : Int) * c ≤ 2 ^ 48 ∧ c < 2 ^ 63 ∧
    k ⟨some ⟨w.heap.size, 0, none⟩, l.toNat, c.toNat⟩ (w.alloc (.cells (zc z c.toNat).toArray E))

/-! ### maps -/

def mapES (w : World) (r : Option Nat) (es : Array MapEntry) : Prop :=
  match r with
  | none => es = #[]
  | some b => ∃ clock, w.heap[b]? = some (.map es clock)

def mapAt (kd : TypeDesc) (r : Option Nat) (key : Value) (sh : CS) (zero : Value) (k : PayC sh → Bool → Pr) : Pr := fun w =>
  ∃ es res p, mapES w r es ∧ Instr.findNow kd key es.toList 0 = some res ∧ ((res.map (·.2)).getD zero) = valC sh p ∧ k p res.isSome w

def mapPut (kd : TypeDesc) (r : Option Nat) (key v : Value) (k : Pr) : Pr := fun w =>
  ∃ b es clock res, r = some b ∧ w.heap[b]? = some (.map es clock) ∧ Instr.findNow kd key es.toList 0 = some res ∧
    match res with
    | some (i, _) => Instr.sameBits 10000 (((es[i]?).map (·.key)).getD key) key = true ∧
        k { w with heap := w.heap.setIfInBounds b (.map (es.modify i fun e => { e with key, val := v }) clock) }
    | none => k { w with heap := w.heap.setIfInBounds b (.map (es.push { key, val := v, born := clock }) (clock + 1)) }

def mapDel (kd : TypeDesc) (r : Option Nat) (key : Value) (k : Pr) : Pr := fun w =>
  ∃ b es clock res, r = some b ∧ w.heap[b]? = some (.map es clock) ∧ Instr.findNow kd key es.toList 0 = some res ∧
    k { w with heap := w.heap.setIfInBounds b (.map (match res with | some (i, _) => es.eraseIdxIfInBounds i | none => es) clock) }

def mapLen (r : Option Nat) (k : Int → Pr) : Pr := fun w => ∃ es, mapES w r es ∧ k es.size w

def mrange (r : Option Nat) (k : Nat → Pr) : Pr := fun w =>
  match r with
  | none => k w.heap.size (w.alloc (.mapIter none 0 #[] 0))
  | some m => ∃ es clock, w.heap[m]? = some (.map es clock) ∧ k w.heap.size (w.alloc (.mapIter (some m) clock #[] clock))

def mnext (a : Addr) (k0 : Pr) (k1 : MapEntry → Pr) : Pr := fun w => a.off = 0 ∧
  ((∃ c f d, w.heap[a.block]? = some (.mapIter none c f d) ∧ k0 w) ∨
   ∃ m since seen last es clock, w.heap[a.block]? = some (.mapIter (some m) since seen last) ∧ w.heap[m]? = some (.map es clock) ∧
     (!seen.isEmpty && !es.isEmpty && es.all (·.born ≥ last)) = false ∧
     ∀ w1, (w1 = w ∨ w1 = w.drew) →
       ((∀ e ∈ es.toList, e.born < since → seen.contains e.born = true) → k0 w1) ∧
       ∀ e ∈ es.toList, seen.contains e.born = false → k1 e { w1 with heap := w1.heap.setIfInBounds a.block (.mapIter (some m) since (seen.push e.born) clock) })

def mentry (a : Addr) (k : MapEntry → Pr) : Pr := fun w => a.off = 0 ∧
  ∃ m since seen stepped es clock stamp e, w.heap[a.block]? = some (.mapIter (some m) since seen stepped) ∧ seen.back? = some stamp ∧ w.heap[m]? = some (.map es clock) ∧
    clock = stepped ∧ es.find? (·.born == stamp) = some e ∧ k e w

def simpleKey : TypeDesc → Bool
  | .int _ | .string | .bool => true
  | _ => false

/-! ### strings out of bytes -/

def b2s (s : Sl) (k : ByteArray → Pr) : Pr := fun w =>
  ∃ l : List Int, (s.a.isSome = true → l.length = s.len) ∧ readsO w s.a (l.map (.int .u8)) ∧ k ⟨(l.map fun n => UInt8.ofNat n.toNat).toArray⟩ w

/-! ### calls -/

def callable (P : Program) (f : FuncId) : Bool :=
  match P.funcs[f]? with
  | some fn => fn.body.isSome && !(fn.name == "runtime.NumGoroutine")
  | none => false

def RetT (shs : List Sh) (k : PayL shs → Pr) : Ending → World → Prop := fun e w => ∃ p : PayL shs, e = .returned (valR shs p) ∧ k p w

def callF (P : Program) (f : FuncId) (args : List Value) (shs : List Sh) (k : PayL shs → Pr) : Pr := fun w => Calls P f args.toArray w (RetT shs k)

/-- a call of a function value: a function, a closure, a loop's body -/
def callV (P : Program) (v : Value) (args : List Value) (shs : List Sh) (k : PayL shs → Pr) : Pr := fun w =>
  (∃ f first caps, v = .func (.func f) first caps ∧ callable P f = true ∧ Calls P f (first ++ args.toArray ++ caps) w (RetT shs k)) ∨
  (∃ l caps, v = .func (.yield l) #[] caps ∧ YieldAt Fence.wide 0 P l args.toArray w (RetT shs k))

/-- a function value that is no nil -/
def okFn (v : Value) : Prop :=
  match v with
  | .func (.func _) _ _ => True
  | .func (.yield _) _ _ => True
  | _ => False

def imin (x y : Int) : Int := if y < x then y else x
def imax (x y : Int) : Int := if y > x then y else x

def asIntE (v : Value) (f : Int → Pr) : Pr :=
  match v with
  | .int _ n => f n
  | _ => fls

theorem asIntE_sound {v : Value} {f : Int → Pr} {w : World} (h : asIntE v f w) : ∃ k n, v = .int k n ∧ f n w := by
  cases v with
  | int k n => exact ⟨k, n, rfl, h⟩
  | _ => exact h.elim

def ndO (x : Option EV) (f : Option Int → Pr) : Pr :=
  match x with
  | none => f none
  | some e => nd e fun v => asIntE v fun n => f (some n)

def asPtr (v : Value) (f : Addr → Pr) : Pr :=
  match v with
  | .pointer p => deref p f
  | _ => fls

theorem asPtr_sound {v : Value} {f : Addr → Pr} {w : World} (h : asPtr v f w) : ∃ a, v = .pointer (some a) ∧ f a w := by
  cases v with
  | pointer p => obtain ⟨a, rfl, h1⟩ := (show deref p f w from h); exact ⟨a, rfl, h1⟩
  | _ => exact h.elim

def asSl (v : Value) (f : Sl → Pr) : Pr :=
  match v with
  | .slice a l c => f ⟨a, l, c⟩
  | _ => fls

theorem asSl_sound {v : Value} {f : Sl → Pr} {w : World} (h : asSl v f w) : ∃ a l c, v = .slice a l c ∧ f ⟨a, l, c⟩ w := by
  cases v with
  | slice a l c => exact ⟨a, l, c, rfl, h⟩
  | _ => exact h.elim

def asMap (v : Value) (f : Option Nat → Pr) : Pr :=
  match v with
  | .map r => f r
  | _ => fls

theorem asMap_sound {v : Value} {f : Option Nat → Pr} {w : World} (h : asMap v f w) : ∃ r, v = .map r ∧ f r w := by
  cases v with
  | map r => exact ⟨r, rfl, h⟩
  | _ => exact h.elim

/-! ### comparisons that are no numbers' -/

def isNilF : Value → Bool
  | .nilFunc => true
  | _ => false

/-- pointers, neither nil: told apart where neither block is one that a string shares -/
def ptrEq (p q : Option Addr) (f : Bool → Pr) : Pr := fun w =>
  (∀ a b, p = some a → q = some b → a.block = b.block ∨ (a.block ≠ b.block ∧
    (∃ e n, w.shape? a.block = some (e, n) ∧ 0 < n ∧ w.frozen? a = false ∧ w.frozen? ⟨a.block, n, none⟩ = false) ∧
    (∃ e n, w.shape? b.block = some (e, n) ∧ 0 < n ∧ w.frozen? b = false ∧ w.frozen? ⟨b.block, n, none⟩ = false))) ∧
  f (p == q) w

/-- '==' of values that are no numbers and no strings: what is owed, and the answer -/
def ceqV (d : TypeDesc) (x y : Value) : Option (Prop × Bool) :=
  match d, x, y with
  | .bool, .bool a, .bool b => some (True, a == b)
  | .pointer _, .pointer p, .pointer none => some (True, p.isNone)
  | .pointer _, .pointer none, .pointer q => some (True, q.isNone)
  | .slice _, .slice a _ _, .slice none _ _ => some (True, a.isNone)
  | .map _ _, .map r, .map none => some (True, r.isNone)
  | .func _ _ _, v, .nilFunc => some (okFn v ∨ v = .nilFunc, isNilF v)
  | _, _, _ => none

def ceq (P : Program) (t : TypeId) (x y : Value) (f : Bool → Pr) : Pr :=
  opt (P.underlying t) fun d => opt (ceqV d x y) fun r => owe r.1 (f r.2)

/-! ### one operation -/

def fieldOf (P : Program) (s : TypeId) (i : Nat) : Option Field :=
  match P.underlying s with
  | some (.struct fs) => fs[i]?
  | _ => none

def sliceElem (P : Program) (t : TypeId) : Option TypeId :=
  match P.underlying t with
  | some (.slice e) => some e
  | _ => none

def mapElem (P : Program) (t : TypeId) : Option (TypeId × TypeId) :=
  match P.underlying t with
  | some (.map k e) => some (k, e)
  | _ => none

/-- the parts of a literal, laid into cells -/
def fillL (place : Nat → Option (Nat × Nat)) : List Value → List (Nat × Value) → Option (List Value)
  | cells, [] => some cells
  | cells, (i, v) :: rest =>
    match place i with
    | none => none
    | some (off, size) =>
      match v with
      | .agg cs => if cs.size = size ∧ off + size ≤ cells.length then fillL place (cells.take off ++ cs.toList ++ cells.drop (off + size)) rest else none
      | v => if size = 1 ∧ off + 1 ≤ cells.length then fillL place (cells.set off v) rest else none

def ndParts (e : Env) : List (Nat × Operand) → (List (Nat × Value) → Pr) → Pr
  | [], f => f []
  | (i, x) :: l, f => nd (Env.ev e x) fun v => ndParts e l fun vs => f ((i, v) :: vs)

def placesOf (P : Program) : List Field → Option (List (Nat × Nat))
  | [] => some []
  | f :: l => match P.info? f.type, placesOf P l with
    | some i, some r => some ((f.offset, i.size) :: r)
    | _, _ => none

def zeroOf (P : Program) (t : TypeId) : Option Value :=
  match P.info? t with
  | some i => i.zero
  | none => none

def retShs (P : Program) (t : TypeId) : Option (List Sh) :=
  match P.underlying t with
  | some (.tuple ts) => shsOf P ts.toList
  | some _ => match shOf P t with | some s => some [s] | none => none
  | none => none

def minL : List Value → (Value → Pr) → Pr
  | [.int k x, .int _ y], f => f (.int k (imin x y))
  | [.int k x, .int _ y, .int _ z], f => f (.int k (imin (imin x y) z))
  | _, _ => fls
def maxL : List Value → (Value → Pr) → Pr
  | [.int k x, .int _ y], f => f (.int k (imax x y))
  | [.int k x, .int _ y, .int _ z], f => f (.int k (imax (imax x y) z))
  | _, _ => fls

def isIntT (P : Program) (t : TypeId) : Bool :=
  match P.underlying t with
  | some (.int _) => true
  | _ => false

def cbuiltin (P : Program) (b : Builtin) (ts : List TypeId) (args : List Value) (k : EV → Pr) : Pr :=
  match b, args with
  | .len, [.slice _ n _] => opt (ts[0]?) fun t => opt (sliceElem P t) fun _ => k (.val (.int .i64 n))
  | .len, [.string s] => opt (ts[0]?) fun t => opt (P.underlying t) fun d => match d with | .string => k (.val (.int .i64 s.size)) | _ => fls
  | .len, [.map r] => opt (ts[0]?) fun t => opt (mapElem P t) fun _ => mapLen r fun n => k (.val (.int .i64 n))
  | .cap, [.slice _ _ n] => opt (ts[0]?) fun t => opt (sliceElem P t) fun _ => k (.val (.int .i64 n))
  | .min, l => minL l fun v => k (.val v)
  | .max, l => maxL l fun v => k (.val v)
  | .copy, [.slice da dl dc, .slice sa sl sc] => opt (ts[0]?) fun t => opt (sliceElem P t) fun el => opt (P.info? el) fun i =>
      cpy i.size ⟨da, dl, dc⟩ ⟨sa, sl, sc⟩ (k (.val (.int .i64 (Nat.min sl dl : Nat))))
  | .append, [.slice da dl dc, .slice sa sl sc] => opt (ts[0]?) fun t => opt (ts[1]?) fun t2 => tf (isIntT P t2) fls <| opt (P.underlying t2) fun _ => opt (sliceElem P t) fun el => opt (P.info? el) fun i => opt i.zero fun z =>
      cnd (z.cells.size = i.size) (app el i.size i.bytes z.cells.toList ⟨da, dl, dc⟩ ⟨sa, sl, sc⟩ fun s => k (.val (.slice s.a s.len s.cap)))
  | .delete, [.map r, key] => opt (ts[0]?) fun t => opt (mapElem P t) fun ke => opt (P.underlying ke.1) fun kd => tf (simpleKey kd) (mapDel kd r key (k (.val (.tuple #[])))) fls
  | _, _ => fls

def cconv (P : Program) (src dst : TypeId) (x : Value) (k : EV → Pr) : Pr :=
  opt (P.underlying src) fun s => opt (P.underlying dst) fun d =>
    match s, d, x with
    | .int _, .int kd, .int _ n => k (.val (.int kd (kd.wrap n)))
    | .string, .string, .string b => k (.val (.string b))
    | .slice e, .string, .slice a l c => opt (P.underlying e) fun u => match u with | .int .u8 => b2s ⟨a, l, c⟩ fun b => k (.val (.string b)) | _ => fls
    | _, _, _ => fls

def cun (op : UnOp) (x : EV) (k : EV → Pr) : Pr :=
  match op, x with
  | .not, .lit b => k (.lit (!b))
  | .not, .val (.bool b) => k (.val (.bool !b))
  | .neg, .val (.int kd n) => k (.val (.int kd (kd.wrap (0 - n))))
  | .xor, .val (.int kd n) => k (.val (.int kd (bXor kd (if kd.signed then -1 else kd.max) n)))
  | _, _ => fls

/-- a bool, known or not -/
def cbr (x : EV) (y z : Pr) : Pr :=
  match x with
  | .lit true => y
  | .lit false => z
  | .val (.bool b) => br b y z
  | _ => fls

theorem cbr_sound {x : EV} {y z : Pr} {w : World} (h : cbr x y z w) : ∃ b, x.v? = some (.bool b) ∧ ((b = true ∧ y w) ∨ (b = false ∧ z w)) := by
  unfold cbr at h
  split at h
  · exact ⟨true, rfl, .inl ⟨rfl, h⟩⟩
  · exact ⟨false, rfl, .inr ⟨rfl, h⟩⟩
  · rename_i b
    refine ⟨b, rfl, ?_⟩
    unfold br at h
    cases b with
    | true => exact .inl ⟨rfl, by simpa using h⟩
    | false => exact .inr ⟨rfl, by simpa using h⟩
  · exact h.elim

def cpick (e : Env) (c a b : Operand) (k : EV → Pr) : Pr :=
  cbr (Env.ev e c) (nd (Env.ev e a) fun _ => k (Env.ev e a)) (nd (Env.ev e b) fun _ => k (Env.ev e b))

def numStr (v u : Value) : Bool :=
  match v, u with
  | .int _ _, .int _ _ => true
  | .string _, .string _ => true
  | _, _ => false

def eqOp (op : BinOp) (f : Bool → Pr) : Pr :=
  match op with
  | .eql => f false
  | .neq => f true
  | _ => fls

/-- a value is of a shape -/
def sayC (s : CS) (v : Value) (f : PayC s → Pr) : Pr := fun w => ∃ p, v = valC s p ∧ f p w

/-- the shape of a type of one cell -/
def shOne (P : Program) (t : TypeId) (f : CS → Pr) : Pr := opt (cellsFuel P 1 t) fun l => opt (one? l) f

def cext (P : Program) (ty : TypeId) (x : EV) (ix : Nat) (k : EV → Pr) : Pr :=
  match x with
  | .nx0 => (match ix with
    | 0 => k (.lit false)
    | _ => fls)
  | .nx1 a b => (match ix with
    | 0 => k (.lit true)
    | 1 => k (.val a)
    | 2 => k (.val b)
    | _ => fls)
  | .ent a b => (match ix with
    | 0 => shOne P ty fun s => sayC s a fun p => k (.val (valC s p))
    | 1 => shOne P ty fun s => sayC s b fun p => k (.val (valC s p))
    | _ => fls)
  | x => nd x fun v => match v with
    | .tuple vs => opt (vs[ix]?) fun x => k (.val x)
    | _ => fls

def cop (P : Program) (o : Oper) (e : Env) (k : EV → Pr) : Pr :=
  match o.op with
  | .move x | .assign x => nd (Env.ev e x) fun _ => k (Env.ev e x)
  | .pick c a b => cpick e c a b k
  | .alloc t => opt (zeroOf P t) fun z => nwT P t z k
  | .box t x => nd (Env.ev e x) fun v => nwT P t v k
  | .build t parts => opt (zeroOf P t) fun z => ndParts e parts.toList fun ps =>
      opt (P.underlying t) fun d => match d with
        | .struct fs => opt (placesOf P fs.toList) fun pl => opt (fillL (pl[·]?) z.cells.toList ps) fun cs => k (.val (.agg cs.toArray))
        | .array _ el => opt (P.info? el) fun i => opt (fillL (fun j => some (j * i.size, i.size)) z.cells.toList ps) fun cs => k (.val (.agg cs.toArray))
        | _ => fls
  | .buildSlice t len parts => ndParts e parts.toList fun ps =>
      opt (sliceElem P t) fun el => opt (P.info? el) fun i => opt i.zero fun z => cnd (z.cells.size = i.size ∧ i.size ≠ 0 ∧ len * i.size ≤ 2 ^ 24)
        (opt (fillL (fun j => some (j * i.size, i.size)) (zc z.cells.toList len) ps) fun cs =>
          nw (.cells cs.toArray el) fun r => k (.val (.slice (some ⟨r, 0, none⟩) len len)))
  | .load t a => nd (Env.ev e a) fun p => asPtr p fun ad => ldT P t ad fun v => k (.val v)
  | .store t a x => nd (Env.ev e a) fun p => asPtr p fun ad => nd (Env.ev e x) fun v => stT P t ad v (k .no)
  | .nilCheck x => nd (Env.ev e x) fun v => match v with
      | .pointer p => deref p fun ad => k (.val (.pointer (some ad)))
      | .func fn a b => owe (okFn (.func fn a b)) (k (.val (.func fn a b)))
      | .int _ _ | .bool _ | .string _ | .nilIface | .slice _ _ _ | .map _ => fls
      | v => owe (okFn v) (k (.val v))
  | .binOp op t x y _ => nd (Env.ev e x) fun u => nd (Env.ev e y) fun v => tf (numStr v u) (cbin op u v k)
      (eqOp op fun neg => ceq P t u v fun b => k (.val (.bool (if neg then !b else b))))
  | .unOp op _ x => cun op (Env.ev e x) k
  | .convert s d x => nd (Env.ev e x) fun v => cconv P s d v k
  | .makeFunc fn first caps => ndL (first.toList.map (Env.ev e)) fun fs => ndL (caps.toList.map (Env.ev e)) fun cs => k (.val (.func fn fs.toArray cs.toArray))
  | .makeMap _ none => nw (.map #[] 0) fun r => k (.val (.map (some r)))
  | .makeSlice t l c => opt (sliceElem P t) fun el => opt (P.info? el) fun i => opt i.zero fun z => cnd (z.cells.size = i.size ∧ i.size ≠ 0)
      (nd (Env.ev e l) fun lv => asIntE lv fun ln => nd (Env.ev e c) fun cv => asIntE cv fun cn => mkS el i.bytes z.cells.toList ln cn fun s => k (.val (.slice s.a s.len s.cap)))
  | .slice t x lo hi mx => nd (Env.ev e x) fun v => ndO (lo.map (Env.ev e)) fun l => ndO (hi.map (Env.ev e)) fun h => ndO (mx.map (Env.ev e)) fun m => match v with
      | .slice a ln c => opt (sliceElem P t) fun el => opt (P.info? el) fun i => slc i.size ⟨a, ln, c⟩ l h m fun s => k (.val (.slice s.a s.len s.cap))
      | .string s => opt (P.underlying t) fun d => match d, m with | .string, none => slcStr s l h fun r => k (.val (.string r)) | _, _ => fls
      | _ => fls
  | .fieldAddr s x f => nd (Env.ev e x) fun p => asPtr p fun ad => opt (fieldOf P s f) fun fl => opt (P.info? fl.type) fun i => cnd (i.size ≠ 0) (k (.val (.pointer (some (ad.add fl.offset)))))
  | .field s x f => nd (Env.ev e x) fun v => asAggE v fun cs => opt (fieldOf P s f) fun fl => opt (P.info? fl.type) fun i => opt (P.underlying fl.type) fun _ =>
      tf (isAggT P fl.type) (k (.val (.agg (cs.extract fl.offset (fl.offset + i.size))))) (opt (cs[fl.offset]?) fun c => k (.val c))
  | .indexAddr t x ix => nd (Env.ev e x) fun v => nd (Env.ev e ix) fun iv => asIntE iv fun n => match v with
      | .slice a ln _ => opt (sliceElem P t) fun el => opt (P.info? el) fun i => owe (0 ≤ n ∧ n < (ln : Int)) (deref a fun ad => k (.val (.pointer (some (ad.add (n.toNat * i.size))))))
      | .pointer p => opt (P.underlying t) fun d => match d with
          | .array ln el => opt (P.info? el) fun i => owe (0 ≤ n ∧ n < (ln : Int)) (deref p fun ad => k (.val (.pointer (some (ad.add (n.toNat * i.size))))))
          | _ => fls
      | _ => fls
  | .index t x ix => nd (Env.ev e x) fun v => nd (Env.ev e ix) fun iv => asIntE iv fun n => match v with
      | .string s => opt (P.underlying t) fun d => match d with | .string => owe (0 ≤ n ∧ n < (s.size : Int)) (k (.val (.int .u8 ((s[n.toNat]?).getD 0).toNat))) | _ => fls
      | _ => fls
  | .lookup t x ix ok => nd (Env.ev e x) fun v => nd (Env.ev e ix) fun key => asMap v fun r => opt (mapElem P t) fun ke => opt (P.underlying ke.1) fun kd => tf (simpleKey kd)
      (opt (cellsFuel P 1 ke.2) fun l => opt (one? l) fun sh => opt (zeroOf P ke.2) fun z => mapAt kd r key sh z fun p b => tf ok (k (.val (.tuple #[valC sh p, .bool b]))) (k (.val (valC sh p)))) fls
  | .mapUpdate t m ky x => nd (Env.ev e m) fun mv => nd (Env.ev e ky) fun key => nd (Env.ev e x) fun v => asMap mv fun r => opt (mapElem P t) fun ke => opt (P.underlying ke.1) fun kd => tf (simpleKey kd)
      (mapPut kd r key v (k .no)) fls
  | .extract t ix => cext P o.type (Env.ev e t) ix k
  | .range t x => nd (Env.ev e x) fun v => asMap v fun r => opt (mapElem P t) fun _ => mrange r fun b => k (.val (.pointer (some ⟨b, 0, none⟩)))
  | .next it str => tf str fls (nd (Env.ev e it) fun v => asPtr v fun ad => mnext ad (k .nx0) fun en => k (.nx1 en.key en.val))
  | .entry it => nd (Env.ev e it) fun v => asPtr v fun ad => mentry ad fun en => k (.ent en.key en.val)
  | .call c => ndL (c.args.toList.map (Env.ev e)) fun args => match c.callee with
      | .value (.func f) => tf (callable P f) (opt (retShs P o.type) fun shs => callF P f args shs fun p => k (.val (valR shs p))) fls
      | .value x => nd (Env.ev e x) fun fv => opt (retShs P o.type) fun shs => callV P fv args shs fun p => k (.val (valR shs p))
      | .builtin b => cbuiltin P b c.argTypes.toList args k
      | .invoke _ _ => fls
  | _ => fls

end Go.Eng
