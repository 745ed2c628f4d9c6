import Derived.Test.YtlenkeefncbmcaaEA
import Derived.Laws.Alloc2
import Derived.Laws.Strings
import Derived.RangeFuncBound
set_option linter.unusedVariables false
set_option linter.unusedSimpArgs false
set_option linter.unusedSectionVars false
/-! Words and lemmas for proofs over the shallow forms. -/
namespace Go.Eng

/-! ### addresses -/

@[simp] theorem add_zero' (a : Addr) : a.add 0 = a := by simp [Addr.add]
@[simp] theorem add_block (a : Addr) (n : Nat) : (a.add n).block = a.block := by unfold Addr.add; split <;> rfl
@[simp] theorem add_add (a : Addr) (m n : Nat) : (a.add m).add n = a.add (m + n) := by
  unfold Addr.add
  by_cases hm : m = 0
  · subst hm; simp
  · by_cases hn : n = 0
    · subst hn; simp [hm]
    · simp [hm, hn, Nat.add_assoc]
@[simp] theorem add_mk (b o n : Nat) : (⟨b, o, none⟩ : Addr).add n = ⟨b, o + n, none⟩ := by
  unfold Addr.add
  by_cases hn : n = 0
  · subst hn; simp
  · simp [hn]

/-! ### stepping -/

section
variable {w : World}
@[simp] theorem deref_some (a : Addr) (f : Addr → Pr) : deref (some a) f w = f a w := by simp [deref]
@[simp] theorem nw_def (o : Obj) (f : Nat → Pr) : nw o f w = f w.heap.size (w.alloc o) := rfl
@[simp] theorem br_def (b : Bool) (x y : Pr) : br b x y w = if b = true then x w else y w := rfl
@[simp] theorem owe_def (p : Prop) (f : Pr) : owe p f w = (p ∧ f w) := rfl
@[simp] theorem drw_def (f : Pr) : drw f w = f w.drew := rfl
@[simp] theorem both_def (x y : Pr) : both x y w = (x w ∧ y w) := rfl
@[simp] theorem tru_def : tru w = True := rfl
@[simp] theorem fls_def : fls w = False := rfl

theorem ldC_of {s : CS} {a : Addr} {p : PayC s} {f : PayC s → Pr} (h : w.cell? a = some (valC s p)) (hf : f p w) : ldC s a f w := ⟨p, h, hf⟩
theorem ldA_of {l : List CS} {a : Addr} {p : PayA l} {f : PayA l → Pr} (h : readsAt w a 0 (valA l p)) (hf : f p w) : ldA l a f w := ⟨p, h, hf⟩
theorem st_of {a : Addr} {v u : Value} {f : Pr} (hv : NotAgg v) (h : w.cell? a = some u) (hz : w.frozen? a = false) (hf : f (w.setCell a v)) : st a v f w := ⟨hv, by rw [h]; rfl, hz, hf⟩
theorem br_of {b : Bool} {x y : Pr} (h1 : b = true → x w) (h2 : b = false → y w) : br b x y w := by
  cases b with
  | true => simpa using h1 rfl
  | false => simpa using h2 rfl
theorem br_t {b : Bool} {x y : Pr} (hb : b = true) (h : x w) : br b x y w := by rw [br_def, if_pos hb]; exact h
theorem br_f {b : Bool} {x y : Pr} (hb : b = false) (h : y w) : br b x y w := by rw [br_def, if_neg (by simp [hb])]; exact h
theorem jn_of {S : Type} {f : (S → Pr) → Pr} {k : S → Pr} (R : S → Pr) (h : f R w) (hk : ∀ s w', R s w' → k s w') : jn f k w := ⟨R, h, hk⟩
theorem loop_of {S : Type} {G : (S → Pr) → S → Pr} {s : S} (I : S → Pr) (μ : S → World → Nat) (h0 : I s w) (h : ∀ s w, I s w → G (fun s' w' => I s' w' ∧ μ s' w' < μ s w) s w) : loopE G s w := ⟨I, μ, h0, h⟩
theorem callF_of {P : Program} {f : FuncId} {args : List Value} {shs : List Sh} {k : PayL shs → Pr} {post : PayL shs → Pr} (h : Calls P f args.toArray w (RetT shs post)) (hk : ∀ r w', post r w' → k r w') : callF P f args shs k w :=
  h.mono fun _ _ ⟨p, he, hp⟩ => ⟨p, he, hk _ _ hp⟩
end

@[simp] theorem valC_int (k : IntKind) (n : Int) : valC (.int k) n = .int k n := rfl
@[simp] theorem valC_bool (b : Bool) : valC .bool b = .bool b := rfl
@[simp] theorem valC_ptr (p : Option Addr) : valC .ptr p = .pointer p := rfl
@[simp] theorem valC_slice (s : Sl) : valC .slice s = .slice s.a s.len s.cap := rfl
@[simp] theorem valC_map (r : Option Nat) : valC .map r = .map r := rfl
@[simp] theorem valC_any (v : Value) : valC .any v = v := rfl
@[simp] theorem valC_str (v : ByteArray) : valC .str v = .string v := rfl
@[simp] theorem NotAgg_int (k : IntKind) (n : Int) : NotAgg (.int k n) = True := rfl
@[simp] theorem NotAgg_bool (b : Bool) : NotAgg (.bool b) = True := rfl
@[simp] theorem NotAgg_ptr (p : Option Addr) : NotAgg (.pointer p) = True := rfl
@[simp] theorem NotAgg_slice (a : Option Addr) (l c : Nat) : NotAgg (.slice a l c) = True := rfl
@[simp] theorem NotAgg_map (r : Option Nat) : NotAgg (.map r) = True := rfl
@[simp] theorem NotAgg_func (f : Fn) (x y : Array Value) : NotAgg (.func f x y) = True := rfl

/-! ### what may have changed -/

structure Mod (S : Nat → Prop) (w w' : World) : Prop where
  size : w.heap.size ≤ w'.heap.size
  same : ∀ b, b < w.heap.size → ¬ S b → w'.heap[b]? = w.heap[b]?
  rest : w'.os = w.os ∧ w'.tape = w.tape ∧ w'.output = w.output

abbrev Grow : World → World → Prop := Mod fun _ => False

section
variable {S T : Nat → Prop} {w w1 w2 : World}
theorem Mod.refl (S : Nat → Prop) (w : World) : Mod S w w := ⟨Nat.le_refl _, fun _ _ _ => rfl, rfl, rfl, rfl⟩
theorem Mod.trans (h : Mod S w w1) (h' : Mod T w1 w2) (hT : ∀ b, b < w.heap.size → T b → S b) : Mod S w w2 :=
  ⟨Nat.le_trans h.size h'.size, fun b hb hs => (h'.same b (Nat.lt_of_lt_of_le hb h.size) fun ht => hs (hT b hb ht)).trans (h.same b hb hs), h'.rest.1.trans h.rest.1, h'.rest.2.1.trans h.rest.2.1, h'.rest.2.2.trans h.rest.2.2⟩
theorem Mod.mono (h : Mod S w w1) (hT : ∀ b, b < w.heap.size → S b → T b) : Mod T w w1 := ⟨h.size, fun b hb hs => h.same b hb fun ht => hs (hT b hb ht), h.rest⟩
theorem Grow.trans (h : Grow w w1) (h' : Grow w1 w2) : Grow w w2 := Mod.trans h h' fun _ _ h => h
theorem Grow.mod (h : Grow w w1) : Mod S w w1 := h.mono fun _ _ h => h.elim
theorem Mod.alloc (h : Mod S w w1) (o : Obj) : Mod S w (w1.alloc o) :=
  ⟨by have := h.size; simp; omega, fun b hb hs => by
    rw [← h.same b hb hs]
    have : b < w1.heap.size := Nat.lt_of_lt_of_le hb h.size
    show (w1.heap.push o)[b]? = w1.heap[b]?
    rw [Array.getElem?_push, if_neg (Nat.ne_of_lt this)], h.rest⟩
theorem Mod.drew (h : Mod S w w1) : Mod S w w1.drew := ⟨h.size, h.same, h.rest⟩
theorem heap_setCell_ne (w : World) {a : Addr} {v : Value} {b : Nat} (hb : a.block ≠ b) : (w.setCell a v).heap[b]? = w.heap[b]? := by
  simp [World.setCell, Array.getElem?_modify, hb]
theorem Mod.setCell (h : Mod S w w1) {a : Addr} {v : Value} (ha : S a.block ∨ w.heap.size ≤ a.block) : Mod S w (w1.setCell a v) :=
  ⟨by have := h.size; simpa using this, fun b hb hs => by
    rw [← h.same b hb hs]
    refine heap_setCell_ne w1 ?_
    rintro rfl
    rcases ha with ha | ha
    · exact hs ha
    · omega, h.rest⟩
theorem Mod.putObj (h : Mod S w w1) {b : Nat} {o : Obj} (ha : S b ∨ w.heap.size ≤ b) : Mod S w { w1 with heap := w1.heap.setIfInBounds b o } :=
  ⟨by have := h.size; simpa using this, fun c hc hs => by
    rw [← h.same c hc hs]
    have hne : b ≠ c := by
      rintro rfl
      rcases ha with ha | ha
      · exact hs ha
      · omega
    simp [Array.getElem?_setIfInBounds_ne hne], h.rest⟩

theorem cell_of_heap {w w' : World} {a : Addr} (h : w'.heap[a.block]? = w.heap[a.block]?) : w'.cell? a = w.cell? a := by
  simp only [World.cell?, h]
theorem frozen_of_heap {w w' : World} {a : Addr} (h : w'.heap[a.block]? = w.heap[a.block]?) : w'.frozen? a = w.frozen? a := by
  simp only [World.frozen?, h]
end

/-! ### rows of cells -/

theorem readsAt_iff {w : World} {a : Addr} : ∀ {vs : List Value} {i : Nat}, readsAt w a i vs ↔ ∀ j v, vs[j]? = some v → w.cell? (a.add (i + j)) = some v
  | [], i => by simp [readsAt]
  | x :: vs, i => by
    simp only [readsAt, readsAt_iff (vs := vs)]
    constructor
    · rintro ⟨h1, h2⟩ j v hj
      cases j with
      | zero => simp only [List.getElem?_cons_zero, Option.some.injEq] at hj; subst hj; exact h1
      | succ j => have := h2 j v (by simpa using hj); rwa [show i + 1 + j = i + (j + 1) by omega] at this
    · intro h
      refine ⟨by simpa using h 0 x rfl, fun j v hj => ?_⟩
      have := h (j + 1) v (by simpa using hj)
      rwa [show i + (j + 1) = i + 1 + j by omega] at this

/-- cells in a row from a on -/
def Row (w : World) (a : Addr) (vs : List Value) : Prop := ∀ j v, vs[j]? = some v → w.cell? (a.add j) = some v

theorem readsAt_row {w : World} {a : Addr} {vs : List Value} : readsAt w a 0 vs ↔ Row w a vs := by
  rw [readsAt_iff]; simp [Row]

theorem readsAt_row' {w : World} {a : Addr} {vs : List Value} {i : Nat} : readsAt w a i vs ↔ Row w (a.add i) vs := by
  rw [readsAt_iff]; simp [Row]

theorem Row.get {w : World} {a : Addr} {vs : List Value} (h : Row w a vs) {j : Nat} {v : Value} (hj : vs[j]? = some v) : w.cell? (a.add j) = some v := h j v hj
theorem Row.nil (w : World) (a : Addr) : Row w a [] := fun j v h => by simp at h
theorem Row.append {w : World} {a : Addr} {vs us : List Value} : Row w a (vs ++ us) ↔ Row w a vs ∧ Row w (a.add vs.length) us := by
  constructor
  · intro h
    refine ⟨fun j v hj => h j v ?_, fun j v hj => ?_⟩
    · have hlt : j < vs.length := by
        rcases Nat.lt_or_ge j vs.length with h' | h'
        · exact h'
        · rw [List.getElem?_eq_none h'] at hj; cases hj
      rw [List.getElem?_append_left hlt]; exact hj
    · rw [add_add]
      refine h _ v ?_
      rw [List.getElem?_append_right (by omega)]
      simpa using hj
  · rintro ⟨h1, h2⟩ j v hj
    rcases Nat.lt_or_ge j vs.length with h' | h'
    · exact h1 j v (by rwa [List.getElem?_append_left h'] at hj)
    · rw [List.getElem?_append_right h'] at hj
      have := h2 _ v hj
      rwa [add_add, show vs.length + (j - vs.length) = j by omega] at this
theorem Row.take {w : World} {a : Addr} {vs : List Value} (h : Row w a vs) (n : Nat) : Row w a (vs.take n) := fun j v hj => by
  rw [List.getElem?_take] at hj
  split at hj
  · exact h j v hj
  · cases hj
theorem Row.drop {w : World} {a : Addr} {vs : List Value} (h : Row w a vs) (n : Nat) : Row w (a.add n) (vs.drop n) := fun j v hj => by
  rw [add_add]
  exact h _ v (by rwa [List.getElem?_drop] at hj)
theorem Row.of_heap {w w' : World} {a : Addr} {vs : List Value} (h : Row w a vs) (he : w'.heap[a.block]? = w.heap[a.block]?) : Row w' a vs := fun j v hj => by
  rw [cell_of_heap (w := w) (by simpa using he)]; exact h j v hj
theorem Row.block_lt {w : World} {a : Addr} {vs : List Value} (h : Row w a vs) (hne : vs ≠ []) : a.block < w.heap.size := by
  cases vs with
  | nil => exact absurd rfl hne
  | cons v vs => have := World.block_lt_of_cell? w _ (h 0 v rfl); simpa using this
theorem Row.mod {S : Nat → Prop} {w w' : World} {a : Addr} {vs : List Value} (h : Row w a vs) (hm : Mod S w w') (hs : ¬ S a.block) : Row w' a vs := by
  by_cases hv : vs = []
  · subst hv; exact Row.nil _ _
  · exact h.of_heap (hm.same _ (h.block_lt hv) hs)

/-- the cells of a slice -/
def RowO (w : World) (a : Option Addr) (vs : List Value) : Prop := readsO w a vs

theorem RowO.some {w : World} {a : Addr} {vs : List Value} : readsO w (some a) vs ↔ Row w a vs := readsAt_row


theorem exS {p : Sl → Prop} {a : Option Addr} {l c : Nat} : (∃ s : Sl, (a = s.a ∧ l = s.len ∧ c = s.cap) ∧ p s) ↔ p ⟨a, l, c⟩ := by
  constructor
  · rintro ⟨⟨a', l', c'⟩, ⟨rfl, rfl, rfl⟩, h⟩; exact h
  · intro h; exact ⟨⟨a, l, c⟩, ⟨rfl, rfl, rfl⟩, h⟩

@[simp] theorem Sl.eta (s : Sl) : (⟨s.a, s.len, s.cap⟩ : Sl) = s := rfl

@[simp] theorem setCell_new (w : World) (c : Array Value) (t : TypeId) (i : Nat) (v : Value) : (w.alloc (.cells c t)).setCell ⟨w.heap.size, i, none⟩ v = w.alloc (.cells (c.setIfInBounds i v) t) :=
  World.setCell_alloc_new (w := w) c t i v

@[simp] theorem heap_alloc_new (w : World) (o : Obj) : (w.alloc o).heap[w.heap.size]? = some o := by
  show (w.heap.push o)[w.heap.size]? = some o
  simp

theorem heap_alloc_lt {w : World} {o : Obj} {b : Nat} (h : b < w.heap.size) : (w.alloc o).heap[b]? = w.heap[b]? := by
  show (w.heap.push o)[b]? = w.heap[b]?
  rw [Array.getElem?_push, if_neg (Nat.ne_of_lt h)]

@[simp] theorem heap_drew (w : World) : w.drew.heap = w.heap := rfl

/-! ### integers -/

theorem wrap_i64 {n : Int} (h : -9223372036854775808 ≤ n ∧ n ≤ 9223372036854775807) : IntKind.wrap .i64 n = n := by
  simp only [IntKind.wrap, IntKind.signed, IntKind.bits]
  simp
  omega

theorem wrap_u8 {n : Int} (h : 0 ≤ n ∧ n ≤ 255) : IntKind.wrap .u8 n = n := by
  simp only [IntKind.wrap, IntKind.signed, IntKind.bits]
  simp
  omega

end Go.Eng

/-! Slices: what they hold, what is owned; the built-ins over them. -/
namespace Go.Eng

def ub (b : UInt8) : Value := .int .u8 (b.toNat : Int)

theorem ub_inj {a b : UInt8} (h : ub a = ub b) : a = b := by
  simp only [ub, Value.int.injEq, true_and] at h
  exact UInt8.toNat_inj.1 (by omega)

/-- a slice of bytes reads as l -/
structure BS (w : World) (s : Sl) (l : List UInt8) : Prop where
  len : s.len = l.length
  row : readsO w s.a (l.map ub)

section
variable {w w' w1 : World} {s x : Sl} {l : List UInt8}

theorem readsO_row {a : Option Addr} {vs : List Value} (h : ∀ ad, a = some ad → Row w ad vs) (h0 : a = none → vs = []) : readsO w a vs := by
  cases a with
  | none => exact h0 rfl
  | some ad => exact readsAt_row.2 (h ad rfl)

theorem readsO.row {ad : Addr} {vs : List Value} (h : readsO w (some ad) vs) : Row w ad vs := readsAt_row.1 h

theorem readsO.of_heap {a : Option Addr} {vs : List Value} (h : readsO w a vs) (he : ∀ ad, a = some ad → vs ≠ [] → w'.heap[ad.block]? = w.heap[ad.block]?) : readsO w' a vs := by
  cases a with
  | none => exact h
  | some ad =>
    by_cases hv : vs = []
    · subst hv; exact readsAt_row.2 (Row.nil _ _)
    · exact readsAt_row.2 ((readsAt_row.1 h).of_heap (he ad rfl hv))

theorem readsO.mod {S : Nat → Prop} {a : Option Addr} {vs : List Value} (h : readsO w a vs) (hm : Mod S w w') (hs : ∀ ad, a = some ad → vs ≠ [] → ¬ S ad.block) : readsO w' a vs := by
  cases a with
  | none => exact h
  | some ad =>
    by_cases hv : vs = []
    · subst hv; exact readsAt_row.2 (Row.nil _ _)
    · exact readsAt_row.2 ((readsAt_row.1 h).mod hm (hs ad rfl hv))

theorem readsO.grow {a : Option Addr} {vs : List Value} (h : readsO w a vs) (hm : Grow w w') : readsO w' a vs := h.mod hm fun _ _ _ h => h

theorem readsO.lt {ad : Addr} {vs : List Value} (h : readsO w (some ad) vs) (hv : vs ≠ []) : ad.block < w.heap.size := (readsAt_row.1 h).block_lt hv

theorem BS.grow (h : BS w s l) (hm : Grow w w') : BS w' s l := ⟨h.len, h.row.grow hm⟩
theorem BS.mod {S : Nat → Prop} (h : BS w s l) (hm : Mod S w w') (hs : ∀ ad, s.a = some ad → l ≠ [] → ¬ S ad.block) : BS w' s l :=
  ⟨h.len, h.row.mod hm fun ad ha hv => hs ad ha (by simpa using hv)⟩
theorem BS.nil (w : World) (c : Nat) : BS w ⟨none, 0, c⟩ [] := ⟨rfl, rfl⟩

theorem BS.get (h : BS w s l) {j : Nat} {b : UInt8} (hj : l[j]? = some b) : ∃ ad, s.a = some ad ∧ w.cell? (ad.add j) = some (ub b) := by
  obtain ⟨h1, h2⟩ := h
  cases ha : s.a with
  | none =>
    rw [ha] at h2
    have : l.map ub = [] := h2
    simp at this
    subst this
    simp at hj
  | some ad =>
    rw [ha] at h2
    exact ⟨ad, rfl, (readsAt_row.1 h2).get (by simp [hj])⟩

/-- no cell of the block is shared with a string -/
def Unf (w : World) (b : Nat) : Prop := ∀ o, w.frozen? ⟨b, o, none⟩ = false

theorem Unf.add {b : Nat} (h : Unf w b) {a : Addr} (ha : a.block = b) (hs : a.spot = none) (n : Nat) : w.frozen? (a.add n) = false := by
  obtain ⟨b', o, sp⟩ := a
  dsimp only at ha hs
  subst ha hs
  rw [add_mk]
  exact h _

/-! ### writing a row -/

theorem Row.setCell_ne {a c : Addr} {v : Value} {vs : List Value} (h : Row w a vs) (hne : ∀ j, j < vs.length → c ≠ a.add j) : Row w (a) vs → Row (w.setCell c v) a vs := fun _ j u hj => by
  rw [World.cell?_setCell_other]
  · exact h j u hj
  · refine hne j ?_
    rcases Nat.lt_or_ge j vs.length with h' | h'
    · exact h'
    · rw [List.getElem?_eq_none h'] at hj; cases hj

theorem add_inj {a : Addr} (hs : a.spot = none) {i j : Nat} (h : a.add i = a.add j) : i = j := by
  obtain ⟨b, o, sp⟩ := a
  dsimp only at hs
  subst hs
  rw [add_mk, add_mk] at h
  simp at h
  exact h

/-- one cell of a row is written -/
theorem Row.set {a : Addr} {vs : List Value} (h : Row w a vs) (hs : a.spot = none) {i : Nat} {v : Value} : Row (w.setCell (a.add i) v) a (vs.set i v) := fun j u hj => by
  rw [List.getElem?_set] at hj
  by_cases hij : i = j
  · subst hij
    simp only [if_true] at hj
    split at hj
    · rename_i hlt
      simp only [Option.some.injEq] at hj
      subst hj
      have h0 := h i vs[i] (by simp [hlt])
      exact World.cell?_setCell_same _ _ _ h0
    · cases hj
  · rw [if_neg hij] at hj
    rw [World.cell?_setCell_other]
    · exact h j u hj
    · exact fun he => hij (add_inj hs he)

theorem stL_shift {a : Addr} {m : Nat} {k : Pr} : ∀ {l : List Value} {i : Nat}, stL (a.add m) i l k = stL a (m + i) l k
  | [], _ => rfl
  | v :: l, i => by simp only [stL, add_add, stL_shift (l := l), Nat.add_assoc]

theorem stL_of {a : Addr} {k : Pr} (hs : a.spot = none) : ∀ {new : List Value} {i : Nat} {vs : List Value} {w : World}, Row w a vs → i + new.length ≤ vs.length → (∀ v ∈ new, NotAgg v) → Unf w a.block →
    (∀ w', Row w' a (vs.take i ++ new ++ vs.drop (i + new.length)) → Mod (· = a.block) w w' → w'.heap.size = w.heap.size → (∀ b, Unf w b → Unf w' b) → k w') → stL a i new k w
  | [], i, vs, w, hr, hl, hn, hu, hk => hk w (by simpa using hr) (Mod.refl _ _) rfl (fun _ h => h)
  | v :: new, i, vs, w, hr, hl, hn, hu, hk => by
    simp only [List.length_cons] at hl
    have hlt : i < vs.length := by omega
    refine st_of (u := vs[i]) (hn v (by simp)) (hr i _ (by simp [hlt])) (hu.add rfl hs i) ?_
    refine stL_of hs (vs := vs.set i v) (hr.set hs) (by simp; omega) (fun u hu => hn u (by simp [hu])) (fun o => by rw [World.frozen?_setCell]; exact hu o) ?_
    intro w' h1 h2 h3 h4
    refine hk w' ?_ (((Mod.refl _ w).setCell (.inl (by simp))).trans h2 fun _ _ h => h) (by simpa using h3) (fun b hb => h4 b (fun o => by rw [World.frozen?_setCell]; exact hb o))
    have e1 : (vs.set i v).take (i + 1) = vs.take i ++ [v] := by
      rw [List.take_add_one]
      simp [List.take_set_of_le, hlt]
    have e2 : (vs.set i v).drop (i + 1 + new.length) = vs.drop (i + (new.length + 1)) := by
      rw [List.drop_set_of_lt (by omega)]
      congr 1; omega
    rw [e1, e2] at h1
    simpa using h1

/-! ### owned slices -/

/-- a slice whose array was made at or behind block n0, that may be written, of elements of n cells -/
structure OwnS (w : World) (n0 n : Nat) (s : Sl) (vs : List Value) : Prop where
  len : vs.length = s.len * n
  le : s.len ≤ s.cap
  row : (s.a = none ∧ s.len = 0 ∧ s.cap = 0) ∨ ∃ b off spare, s.a = some ⟨b, off, none⟩ ∧ n0 ≤ b ∧ b < w.heap.size ∧ Unf w b ∧ Row w ⟨b, off, none⟩ (vs ++ spare) ∧ (vs ++ spare).length = s.cap * n

theorem OwnS.nil (w : World) (n0 n : Nat) : OwnS w n0 n ⟨none, 0, 0⟩ [] := ⟨by simp, by simp, .inl ⟨rfl, rfl, rfl⟩⟩

theorem OwnS.reads {n0 n : Nat} {vs : List Value} (h : OwnS w n0 n s vs) : readsO w s.a vs := by
  rcases h.row with ⟨h1, h2, h3⟩ | ⟨b, off, spare, h1, _, _, _, h2, _⟩
  · rw [h1]
    have := h.len
    rw [h2] at this
    simp at this
    exact this
  · rw [h1]; exact readsAt_row.2 (Row.append.1 h2).1

theorem OwnS.some_len {n0 n : Nat} {vs : List Value} (h : OwnS w n0 n s vs) : s.a.isSome = true → vs.length = s.len * n := fun _ => h.len

theorem Unf.of_heap {b : Nat} (h : Unf w b) (he : w'.heap[b]? = w.heap[b]?) : Unf w' b := fun o => by
  rw [frozen_of_heap (w := w) he]; exact h o

theorem OwnS.mod {S : Nat → Prop} {n0 n : Nat} {vs : List Value} (h : OwnS w n0 n s vs) (hm : Mod S w w') (hs : ∀ ad, s.a = some ad → ¬ S ad.block) : OwnS w' n0 n s vs := by
  refine ⟨h.len, h.le, ?_⟩
  rcases h.row with h1 | ⟨b, off, spare, h1, h2, h3, h4, h5, h6⟩
  · exact .inl h1
  · have hsb : ¬ S b := hs _ h1
    exact .inr ⟨b, off, spare, h1, h2, Nat.lt_of_lt_of_le h3 hm.size, h4.of_heap (hm.same b h3 hsb), h5.of_heap (hm.same b h3 hsb), h6⟩

theorem OwnS.grow {n0 n : Nat} {vs : List Value} (h : OwnS w n0 n s vs) (hm : Grow w w') : OwnS w' n0 n s vs := h.mod hm fun _ _ h => h

theorem OwnS.le_block {n0 n : Nat} {vs : List Value} (h : OwnS w n0 n s vs) {ad : Addr} (ha : s.a = some ad) : n0 ≤ ad.block ∧ ad.block < w.heap.size ∧ ad.spot = none ∧ Unf w ad.block := by
  rcases h.row with ⟨h1, _⟩ | ⟨b, off, spare, h1, h2, h3, h4, _⟩
  · rw [h1] at ha; cases ha
  · rw [h1] at ha; simp only [Option.some.injEq] at ha; subst ha; exact ⟨h2, h3, rfl, h4⟩

theorem OwnS.weaken {n0 n1 n : Nat} {vs : List Value} (h : OwnS w n0 n s vs) (hn : n1 ≤ n0) : OwnS w n1 n s vs := by
  refine ⟨h.len, h.le, ?_⟩
  rcases h.row with h1 | ⟨b, off, spare, h1, h2, rest⟩
  · exact .inl h1
  · exact .inr ⟨b, off, spare, h1, Nat.le_trans hn h2, rest⟩

/-- the blocks of a slice -/
def Sl.blk (s : Sl) (b : Nat) : Prop := ∃ ad, s.a = some ad ∧ ad.block = b

theorem growBy_le (n : Nat) : ∀ (r c m : Nat), c ≤ m → n ≤ m → Builtin.growBy n r c ≤ m + (m + 768) / 4
  | 0, c, m, hc, _ => by simp only [Builtin.growBy]; omega
  | r + 1, c, m, hc, hn => by
    simp only [Builtin.growBy]
    split
    · omega
    · rename_i hlt
      by_cases h2 : c + (c + 768) / 4 ≤ m
      · exact growBy_le n r _ m h2 hn
      · -- the next round stops at once
        cases r with
        | zero => simp only [Builtin.growBy]; omega
        | succ r =>
          simp only [Builtin.growBy]
          rw [if_pos (by omega)]
          omega

theorem nextslicecap_le {n c : Nat} (h : c < n) : Builtin.nextslicecap n c ≤ 2 * n + 192 := by
  unfold Builtin.nextslicecap
  split
  · omega
  · split
    · omega
    · have := growBy_le n 4 c n (by omega) (Nat.le_refl _)
      omega

theorem zc_length (z : List Value) (n : Nat) : (zc z n).length = n * z.length := by simp [zc]

/-- append onto an owned slice -/
theorem app_own2 {E n b n0 : Nat} {z : List Value} {vs new : List Value} {k : Sl → Pr} (h : OwnS w n0 n s vs) (hn0 : n0 ≤ w.heap.size) (hxl : x.a.isSome = true → new.length = x.len * n) (hx0 : x.a = none → x.len = 0) (hx : readsO w x.a new)
    (hna : ∀ v ∈ new, NotAgg v) (hz : z.length = n) (hb : b ≠ 0) (hbd : (2 * (s.len + x.len) + 192) * b ≤ 2 ^ 48)
    (hk : ∀ r w', OwnS w' n0 n r (vs ++ new) → r.len = s.len + x.len → (s.a.isSome = true ∨ 0 < x.len → r.a.isSome = true) → (s.a = none → x.len = 0 → r.a = none) → Mod s.blk w w' → (∀ b, r.blk b → s.blk b ∨ w.heap.size ≤ b) → k r w') : app E n b z s x k w := by
  have hnl : new.length = x.len * n := by
    cases hxa : x.a with
    | some _ => exact hxl (by simp [hxa])
    | none =>
      rw [hxa] at hx
      have : new = [] := hx
      rw [this, hx0 hxa]; simp
  refine ⟨new, fun _ => hnl, hx, ?_, ?_⟩
  · intro hroom
    rcases h.row with ⟨h1, h2, h3⟩ | ⟨bb, off, spare, h1, h2, h3, h4, h5, h6⟩
    · rw [h1]
      have hx00 : x.len = 0 := by omega
      have hnew : new = [] := by
        apply List.eq_nil_of_length_eq_zero
        rw [hnl, hx00]; simp
      refine hk _ _ ?_ rfl ?_ ?_ (Mod.refl _ _) ?_
      · rw [hnew, List.append_nil]
        exact ⟨by simp [h.len, hx00], by simp; omega, .inl ⟨by simp, by simp; omega, h3⟩⟩
      · rintro (h | h)
        · simp [h1] at h
        · omega
      · intro _ _; rfl
      · rintro b ⟨ad, hh, _⟩; cases hh
    · rw [h1]
      have hlen := h.len
      have hspl : (vs ++ spare).length = vs.length + spare.length := List.length_append
      have hle : s.len * n + new.length ≤ (vs ++ spare).length := by
        rw [hnl, h6, ← Nat.add_mul]
        exact Nat.mul_le_mul_right n hroom
      show stL _ 0 new _ w
      rw [stL_shift, Nat.add_zero, ← hlen]
      refine stL_of rfl h5 (by rw [hlen]; exact hle) hna h4 ?_
      intro w' g1 g2 g3 g4
      have e1 : (vs ++ spare).take vs.length = vs := by simp
      have e2 : (vs ++ spare).drop (vs.length + new.length) = spare.drop new.length := by
        rw [List.drop_append, List.drop_eq_nil_of_le (by omega), List.nil_append]
        congr 1; omega
      rw [e1, e2] at g1
      refine hk _ _ ⟨?_, hroom, .inr ⟨bb, off, spare.drop new.length, rfl, h2, by rw [g3]; exact h3, g4 _ h4, g1, ?_⟩⟩ rfl ?_ ?_ ?_ ?_
      · rw [List.length_append, hlen, hnl, Nat.add_mul]
      · simp only [List.length_append, List.length_drop] at *
        omega
      · intro _; rfl
      · intro h; rw [h1] at h; cases h
      · exact g2.mono fun c _ hc => ⟨_, h1, hc.symm⟩
      · rintro c ⟨ad, hh, hc⟩
        simp only [Option.some.injEq] at hh
        exact .inl ⟨_, h1, by rw [← hc, ← hh]⟩
  · intro hgrow
    have hold := h.reads
    refine ⟨vs, fun _ => h.len, hold, hb, ?_, ?_, ?_⟩
    · exact Nat.le_trans (Nat.mul_le_mul_right b (nextslicecap_le hgrow)) hbd
    · have : (2 * (s.len + x.len) + 192) * 1 ≤ (2 * (s.len + x.len) + 192) * b := Nat.mul_le_mul_left _ (by omega)
      omega
    · intro cap hc1 hc2
      have hl : (vs ++ new ++ zc z (cap - (s.len + x.len))).length = cap * n := by
        simp only [List.length_append, zc_length, h.len, hnl, hz]
        rw [← Nat.add_mul, ← Nat.add_mul]
        congr 1; omega
      refine hk _ _ ⟨?_, hc1, .inr ⟨w.heap.size, 0, zc z (cap - (s.len + x.len)), rfl, hn0, ?_, ?_, ?_, hl⟩⟩ rfl (fun _ => rfl) ?_ ((Mod.refl _ w).drew.alloc _) ?_
      · simp only [List.length_append, h.len, hnl, Nat.add_mul]
      · simp
      · intro o
        exact World.frozen?_alloc_new w.drew _ E o
      · intro j v hj
        rw [add_mk, Nat.zero_add]
        have := World.cell?_alloc_new w.drew (vs ++ new ++ zc z (cap - (s.len + x.len))).toArray E j
        rw [World.size_drew] at this
        rw [this]
        simpa using hj
      · intro hsa hx0'
        exfalso
        rcases h.row with ⟨_, g2, g3⟩ | ⟨bb, _, _, g1, _⟩
        · omega
        · rw [g1] at hsa; cases hsa
      · rintro c ⟨ad, hh, hc⟩
        simp only [Option.some.injEq] at hh
        refine .inr ?_
        rw [← hc, ← hh]
        exact Nat.le_refl _

theorem app_own {E n b n0 : Nat} {z : List Value} {vs new : List Value} {k : Sl → Pr} (h : OwnS w n0 n s vs) (hn0 : n0 ≤ w.heap.size) (hxl : x.a.isSome = true → new.length = x.len * n) (hx0 : x.a = none → x.len = 0) (hx : readsO w x.a new)
    (hna : ∀ v ∈ new, NotAgg v) (hz : z.length = n) (hb : b ≠ 0) (hbd : (2 * (s.len + x.len) + 192) * b ≤ 2 ^ 48)
    (hk : ∀ r w', OwnS w' n0 n r (vs ++ new) → r.len = s.len + x.len → (s.a.isSome = true ∨ 0 < x.len → r.a.isSome = true) → (s.a = none → x.len = 0 → r.a = none) → Mod s.blk w w' → k r w') : app E n b z s x k w :=
  app_own2 h hn0 hxl hx0 hx hna hz hb hbd fun r w' h1 h2 h3 h4 h5 _ => hk r w' h1 h2 h3 h4 h5
end
end Go.Eng

/-! Slices of structs; bytes as strings. -/
namespace Go.Eng

theorem flatMap_row {α : Type} {f : α → List Value} {n : Nat} (hf : ∀ r, (f r).length = n) : ∀ {rs : List α} {w : World} {a : Addr}, Row w a (rs.flatMap f) ↔ ∀ i r, rs[i]? = some r → Row w (a.add (i * n)) (f r)
  | [], w, a => by simp [Row.nil]
  | x :: rs, w, a => by
    rw [List.flatMap_cons, Row.append, flatMap_row hf (rs := rs), hf]
    constructor
    · rintro ⟨h1, h2⟩ i r hi
      cases i with
      | zero => simp only [List.getElem?_cons_zero, Option.some.injEq] at hi; subst hi; simpa using h1
      | succ i =>
        have := h2 i r (by simpa using hi)
        rwa [add_add, show n + i * n = (i + 1) * n by rw [Nat.add_mul]; omega] at this
    · intro h
      refine ⟨by simpa using h 0 x rfl, fun i r hi => ?_⟩
      have := h (i + 1) r (by simpa using hi)
      rwa [show (i + 1) * n = n + i * n by rw [Nat.add_mul]; omega, ← add_add] at this

theorem flatMap_len {α : Type} {f : α → List Value} {n : Nat} (hf : ∀ r, (f r).length = n) (rs : List α) : (rs.flatMap f).length = rs.length * n := by
  induction rs with
  | nil => simp
  | cons x rs ih => rw [List.flatMap_cons, List.length_append, ih, hf, List.length_cons, Nat.add_mul]; omega

/-- a slice whose elements' cells are f of rs -/
structure SS {α : Type} (f : α → List Value) (w : World) (s : Sl) (rs : List α) : Prop where
  len : s.len = rs.length
  row : readsO w s.a (rs.flatMap f)

section
variable {α : Type} {f : α → List Value} {n : Nat} {w w' : World} {s : Sl} {rs : List α}

theorem SS.get (hf : ∀ r, (f r).length = n) (h : SS f w s rs) {i : Nat} {r : α} (hi : rs[i]? = some r) (hn : n ≠ 0) : ∃ ad, s.a = some ad ∧ Row w (ad.add (i * n)) (f r) := by
  obtain ⟨h1, h2⟩ := h
  cases ha : s.a with
  | none =>
    rw [ha] at h2
    have h3 : rs.flatMap f = [] := h2
    have h4 := flatMap_len hf rs
    rw [h3] at h4
    simp only [List.length_nil] at h4
    have : rs.length = 0 := (Nat.mul_eq_zero.1 h4.symm).resolve_right hn
    have : rs = [] := List.eq_nil_of_length_eq_zero this
    subst this
    simp at hi
  | some ad =>
    rw [ha] at h2
    exact ⟨ad, rfl, (flatMap_row hf).1 (readsAt_row.1 h2) i r hi⟩
theorem SS.grow (h : SS f w s rs) (hm : Grow w w') : SS f w' s rs := ⟨h.len, h.row.grow hm⟩
theorem SS.mod {S : Nat → Prop} (h : SS f w s rs) (hm : Mod S w w') (hs : ∀ ad, s.a = some ad → ¬ S ad.block) : SS f w' s rs := ⟨h.len, h.row.mod hm fun ad ha _ => hs ad ha⟩
theorem SS.nil (w : World) (c : Nat) : SS f w ⟨none, 0, c⟩ [] := ⟨rfl, rfl⟩
theorem SS.none_len (hf : ∀ r, (f r).length = n) (hn : n ≠ 0) (h : SS f w s rs) (ha : s.a = none) : s.len = 0 := by
  rw [h.len]
  have h2 := h.row
  rw [ha] at h2
  have h3 : rs.flatMap f = [] := h2
  have h4 := flatMap_len hf rs
  rw [h3] at h4
  simp only [List.length_nil] at h4
  exact (Nat.mul_eq_zero.1 h4.symm).resolve_right hn
end

theorem BS.none_len {w : World} {s : Sl} {l : List UInt8} (h : BS w s l) (ha : s.a = none) : s.len = 0 := by
  have h2 := h.row
  rw [ha] at h2
  have : l.map ub = [] := h2
  simp at this
  rw [h.len, this]; rfl

/-! ### bytes as a string -/

def bytesOf (l : List UInt8) : ByteArray := ⟨l.toArray⟩

@[simp] theorem bytesOf_toList (l : List UInt8) : (bytesOf l).toList = l := by
  rw [ByteArray.toList_eq]; rfl

theorem b2s_of {w : World} {s : Sl} {l : List UInt8} {k : ByteArray → Pr} (h : BS w s l) (hk : k (bytesOf l) w) : b2s s k w := by
  refine ⟨l.map fun b => (b.toNat : Int), fun _ => by simp [h.len], ?_, ?_⟩
  · rw [List.map_map]
    exact h.row
  · have : (l.map fun b => (b.toNat : Int)).map (fun n => UInt8.ofNat n.toNat) = l := by
      rw [List.map_map]
      conv => rhs; rw [← List.map_id l]
      apply List.map_congr_left
      intro b _
      simp
    rw [this]
    exact hk

theorem OwnS.bs {w : World} {n0 : Nat} {s : Sl} {l : List UInt8} (h : OwnS w n0 1 s (l.map ub)) : BS w s l :=
  ⟨by have := h.len; simp at this; exact this.symm, h.reads⟩

theorem OwnS.ss {α : Type} {f : α → List Value} {n : Nat} (hf : ∀ r, (f r).length = n) (hn : n ≠ 0) {w : World} {n0 : Nat} {s : Sl} {rs : List α} (h : OwnS w n0 n s (rs.flatMap f)) : SS f w s rs :=
  ⟨by have := h.len; rw [flatMap_len hf] at this; exact (Nat.eq_of_mul_eq_mul_right (Nat.pos_of_ne_zero hn) this).symm, h.reads⟩

theorem NotAgg_ub {l : List UInt8} : ∀ v ∈ l.map ub, NotAgg v := by
  intro v hv
  obtain ⟨b, _, rfl⟩ := List.mem_map.1 hv
  trivial

/-! ### one cell of an owned slice -/

theorem OwnS.put {w : World} {n0 n : Nat} {s : Sl} {vs : List Value} (h : OwnS w n0 n s vs) {i : Nat} {v : Value} {k : Pr} (hi : i < vs.length) (hv : NotAgg v)
    (hk : ∀ w', OwnS w' n0 n s (vs.set i v) → Mod s.blk w w' → w'.heap.size = w.heap.size → k w') : ∃ ad, s.a = some ad ∧ st (ad.add i) v k w := by
  rcases h.row with ⟨_, h2, _⟩ | ⟨b, off, spare, h1, h2, h3, h4, h5, h6⟩
  · have := h.len; rw [h2] at this; simp at this; subst this; simp at hi
  · refine ⟨_, h1, st_of (u := vs[i]) hv ?_ (h4.add rfl rfl i) ?_⟩
    · exact h5 i _ (by rw [List.getElem?_append_left hi]; simp [hi])
    · refine hk _ ⟨by simpa using h.len, h.le, .inr ⟨b, off, spare, h1, h2, by simpa using h3, fun o => by rw [World.frozen?_setCell]; exact h4 o, ?_, by simpa using h6⟩⟩ ?_ (by simp)
      · have := h5.set rfl (i := i) (v := v)
        rwa [List.set_append_left _ _ hi] at this
      · exact (Mod.refl _ w).setCell (.inl ⟨_, h1, by simp⟩)


/-! ### copy into a part of an owned slice -/

theorem stO_nil {a : Option Addr} {off : Nat} {k : Pr} : stO a off [] k = k := by cases a <;> rfl

theorem cpy_own {w : World} {n0 n : Nat} {t s' src : Sl} {vs new : List Value} {k : Pr} {o : Nat} (h : OwnS w n0 n t vs) (ho : o ≤ t.len) (ha : s'.a = t.a.map (·.add (o * n)) ∨ s'.len = 0) (hl : s'.len = t.len - o)
    (hr : readsO w src.a new) (hn : src.a.isSome = true → new.length = src.len * n) (hn0 : src.a = none → src.len = 0) (hle : src.len ≤ s'.len) (hna : ∀ v ∈ new, NotAgg v)
    (hk : ∀ w', OwnS w' n0 n t (vs.take (o * n) ++ new ++ vs.drop (o * n + new.length)) → Mod t.blk w w' → w'.heap.size = w.heap.size → k w') : cpy n s' src k w := by
  have hnl : new.length = src.len * n := by
    cases hsa : src.a with
    | some _ => exact hn (by simp [hsa])
    | none =>
      rw [hsa] at hr
      have : new = [] := hr
      rw [this, hn0 hsa]; simp
  refine ⟨new, fun _ => by rw [hnl, show Nat.min src.len s'.len = src.len from Nat.min_eq_left hle], hr, ?_⟩
  by_cases hz : new = []
  · subst hz
    rw [stO_nil]
    refine hk w ?_ (Mod.refl _ _) rfl
    simpa using h
  · have hpos : src.len ≠ 0 := by
      intro h0
      rw [h0] at hnl
      simp at hnl
      exact hz hnl
    have ha' : s'.a = t.a.map (·.add (o * n)) := ha.resolve_right (by omega)
    rcases h.row with ⟨h1, h2, h3⟩ | ⟨b, off, spare, h1, h2, h3, h4, h5, h6⟩
    · omega
    · rw [ha', h1]
      show stL ((Addr.add ⟨b, off, none⟩ (o * n)).add 0) 0 new k w
      rw [add_zero', stL_shift, Nat.add_zero]
      have hlen := h.len
      have hb : o * n + new.length ≤ vs.length := by
        rw [hnl, hlen, ← Nat.add_mul]
        exact Nat.mul_le_mul_right n (by omega)
      refine stL_of rfl h5 (by rw [List.length_append]; omega) hna h4 ?_
      intro w' g1 g2 g3 g4
      refine hk w' ⟨?_, h.le, .inr ⟨b, off, spare, h1, h2, by rw [g3]; exact h3, g4 _ h4, ?_, ?_⟩⟩ (g2.mono fun c _ hc => ⟨_, h1, hc.symm⟩) g3
      · simp only [List.length_append, List.length_take, List.length_drop]
        omega
      · rw [List.take_append_of_le_length (by omega), List.drop_append_of_le_length (by omega)] at g1
        simpa [List.append_assoc] using g1
      · simp only [List.length_append, List.length_take, List.length_drop] at *
        omega

theorem slc_lo {w : World} {n : Nat} {s : Sl} {o : Int} {k : Sl → Pr} (h0 : 0 ≤ o) (h1 : o ≤ (s.len : Int))
    (hk : k ⟨if s.cap = o.toNat then s.a else s.a.map (·.add (o.toNat * n)), s.len - o.toNat, s.cap - o.toNat⟩ w) : slc n s (some o) none none k w := by
  refine ⟨by simp, by simp, by simp, fun l hl => ?_, by simpa using hk⟩
  simp only [Option.some.injEq] at hl
  subst hl
  simpa using ⟨h0, h1⟩

theorem slc_hi {w : World} {n : Nat} {s : Sl} {o : Int} {k : Sl → Pr} (h0 : 0 ≤ o) (h1 : o ≤ (s.cap : Int))
    (hk : k ⟨if s.cap = 0 then s.a else s.a.map (·.add 0), o.toNat, s.cap⟩ w) : slc n s none (some o) none k w := by
  refine ⟨by simp, by simp, fun l hl => ?_, by simp, by simpa using hk⟩
  simp only [Option.some.injEq] at hl
  subst hl
  simpa using ⟨h0, h1⟩

theorem map_add_zero (a : Option Addr) : a.map (·.add 0) = a := by cases a <;> simp

end Go.Eng

/-! Reading a byte; a part of a slice of bytes. -/
namespace Go.Eng

section
variable {w w' : World} {s : Sl} {l : List UInt8}

theorem at_of {i : Int} {b : UInt8} {k : Int → Pr} (h : BS w s l) (h0 : 0 ≤ i) (hb : l[i.toNat]? = some b) (hk : k (b.toNat : Int) w) :
    (owe ((0 : Int) ≤ i ∧ i < (s.len : Int)) <| deref s.a fun a => deref (some (a.add (Int.toNat i * 1))) fun a1 => ldC (.int .u8) a1 k) w := by
  obtain ⟨ad, h1, h2⟩ := h.get hb
  have hl := h.len
  have hlt : i.toNat < l.length := by
    rcases Nat.lt_or_ge i.toNat l.length with h' | h'
    · exact h'
    · rw [List.getElem?_eq_none h'] at hb; cases hb
  refine ⟨⟨h0, by omega⟩, ?_⟩
  rw [h1]
  simp only [deref_some, Nat.mul_one]
  exact ldC_of (s := .int .u8) (p := (b.toNat : Int)) h2 hk

theorem slc_bs {i e : Int} {k : Sl → Pr} (h : BS w s l) (hle : s.len ≤ s.cap) (h0 : 0 ≤ i) (h1 : i ≤ e) (h2 : e ≤ (s.len : Int)) (hk : ∀ r, BS w r ((l.take e.toNat).drop i.toNat) → r.len = e.toNat - i.toNat → k r w) : slc 1 s (some i) (some e) none k w := by
  have hl := h.len
  refine ⟨by simp, by simp, fun x hx => ?_, fun x hx => ?_, ?_⟩
  · simp only [Option.some.injEq] at hx; subst hx; simp; omega
  · simp only [Option.some.injEq] at hx; subst hx; simp; omega
  · simp only [Option.map_none, Option.map_some, Option.getD_none, Option.getD_some]
    refine hk _ ⟨?_, ?_⟩ rfl
    · simp; omega
    · have hrow := h.row
      have hr : ∀ ad, s.a = some ad → Row w (ad.add (i.toNat * 1)) (((l.take e.toNat).drop i.toNat).map ub) := by
        intro ad had
        rw [had] at hrow
        have := ((readsAt_row.1 hrow).take e.toNat).drop i.toNat
        simpa [List.map_take, List.map_drop] using this
      split
      · have : (l.take e.toNat).drop i.toNat = [] := by apply List.eq_nil_of_length_eq_zero; simp; omega
        rw [this]
        cases s.a with
        | none => rfl
        | some ad => exact readsAt_row.2 (Row.nil _ _)
      · cases ha : s.a with
        | none =>
          have h0 := h.none_len ha
          have : (l.take e.toNat).drop i.toNat = [] := by apply List.eq_nil_of_length_eq_zero; simp; omega
          rw [this]; rfl
        | some ad => exact readsAt_row.2 (hr ad ha)

theorem toNat_beq (a b : UInt8) : (((a.toNat : Int)) == ((b.toNat : Int))) = decide (a = b) := by
  rw [Bool.eq_iff_iff]
  simp only [beq_iff_eq, decide_eq_true_eq]
  constructor
  · intro h; exact UInt8.toNat_inj.1 (by omega)
  · rintro rfl; rfl
end
end Go.Eng
namespace Go.Eng
/-- a copy by append onto nothing -/
theorem clone_app {w : World} {s : Sl} {l : List UInt8} {k : Sl → Pr} (h : BS w s l) (hl : s.len ≤ 100000000000000)
    (hk : ∀ r w', OwnS w' w.heap.size 1 r (l.map ub) → Grow w w' → k r w') : app 5 1 1 [.int .u8 0] ⟨none, 0, 0⟩ s k w := by
  have hn := h.len
  refine app_own (n0 := w.heap.size) (vs := []) (new := l.map ub) (OwnS.nil _ _ _) (Nat.le_refl _) (fun _ => by simp; omega) h.none_len h.row NotAgg_ub rfl (by decide) (by simp; omega) ?_
  intro r w' h1 _ _ _ h5
  refine hk r w' (by simpa using h1) (h5.mono fun b _ hb => ?_)
  obtain ⟨ad, had, _⟩ := hb
  cases had
end Go.Eng
namespace Go.Eng
/-- a block of our own: its cells -/
structure Box (w : World) (b : Nat) (vs : List Value) : Prop where
  lt : b < w.heap.size
  unf : Unf w b
  row : Row w ⟨b, 0, none⟩ vs

section
variable {w w' : World} {b : Nat} {vs : List Value}
theorem Box.mod {S : Nat → Prop} (h : Box w b vs) (hm : Mod S w w') (hs : ¬ S b) : Box w' b vs :=
  ⟨Nat.lt_of_lt_of_le h.lt hm.size, h.unf.of_heap (hm.same b h.lt hs), h.row.mod hm hs⟩
theorem Box.grow (h : Box w b vs) (hm : Grow w w') : Box w' b vs := h.mod hm fun h => h
theorem nw_of {cs : Array Value} {T : TypeId} {f : Nat → Pr} (h : ∀ b w2, Grow w w2 → b = w.heap.size → w2.heap.size = w.heap.size + 1 → Box w2 b cs.toList → f b w2) : nw (.cells cs T) f w := by
  rw [nw_def]
  refine h _ _ ((Mod.refl _ w).alloc _) rfl (by simp) ⟨by simp, fun o => World.frozen?_alloc_new _ _ _ _, fun j v hj => ?_⟩
  rw [add_mk, Nat.zero_add, World.cell?_alloc_new]
  simpa using hj
theorem Box.ld (h : Box w b vs) {s : CS} {p : PayC s} {k : PayC s → Pr} {i : Nat} (hi : vs[i]? = some (valC s p)) (hk : k p w) : ldC s (Addr.add ⟨b, 0, none⟩ i) k w := ldC_of (h.row.get hi) hk
theorem Box.ldA {l : List CS} {p : PayA l} {k : PayA l → Pr} (h : Box w b (valA l p)) (hk : k p w) : ldA l ⟨b, 0, none⟩ k w := ldA_of (readsAt_row.2 h.row) hk
theorem Box.st (h : Box w b vs) {i : Nat} {v : Value} {k : Pr} (hi : i < vs.length) (hv : NotAgg v) (hk : ∀ w', Box w' b (vs.set i v) → Mod (· = b) w w' → w'.heap.size = w.heap.size → k w') : st (Addr.add ⟨b, 0, none⟩ i) v k w := by
  refine st_of (u := vs[i]) hv (h.row.get (by simp [hi])) (h.unf.add rfl rfl i) ?_
  refine hk _ ⟨by simpa using h.lt, fun o => by rw [World.frozen?_setCell]; exact h.unf o, h.row.set rfl⟩ ((Mod.refl _ w).setCell (.inl (by simp))) (by simp)
end
end Go.Eng
namespace Go.Eng
theorem deref_some' (a : Addr) (f : Addr → Pr) : deref (some a) f = f a := by funext w; exact deref_some a f
theorem deref_some'' (a : Addr) (f : Pr) : (deref (some a) fun _ => f) = f := by funext w; exact deref_some a _
end Go.Eng
namespace Go.Eng
theorem callV_mono {P : Program} {v : Value} {args : List Value} {shs : List Sh} {k k' : PayL shs → Pr} {w : World} (h : ∀ p w', k p w' → k' p w') (hh : callV P v args shs k w) : callV P v args shs k' w := by
  rcases hh with ⟨f, first, caps, h1, h2, h3⟩ | ⟨l, caps, h1, h2⟩
  · exact .inl ⟨f, first, caps, h1, h2, h3.mono fun e w' ⟨p, he, hp⟩ => ⟨p, he, h p w' hp⟩⟩
  · exact .inr ⟨l, caps, h1, h2.mono fun e w' ⟨p, he, hp⟩ => ⟨p, he, h p w' hp⟩⟩
end Go.Eng

/-! Owned things, each with its blocks; what a world has of them. -/
namespace Go.Eng

/-- an owned thing: what it says of a world, and the blocks that it takes -/
structure HA where
  is : World → (Nat → Prop) → Prop
  lt : ∀ {w : World} {F : Nat → Prop} {b : Nat}, is w F → F b → b < w.heap.size
  mod : ∀ {w w' : World} {F S : Nat → Prop}, is w F → Mod S w w' → (∀ b, F b → ¬ S b) → is w' F

def Has : List HA → World → (Nat → Prop) → Prop
  | [], _, F => ∀ b, ¬ F b
  | A :: l, w, F => ∃ G H, A.is w G ∧ Has l w H ∧ (∀ b, G b → ¬ H b) ∧ ∀ b, F b ↔ G b ∨ H b

theorem fext {F G : Nat → Prop} (h : ∀ b, F b ↔ G b) : F = G := funext fun b => propext (h b)

theorem Has.lt : ∀ {l : List HA} {w : World} {F : Nat → Prop} {b : Nat}, Has l w F → F b → b < w.heap.size
  | [], _, _, b, h, hb => (h b hb).elim
  | A :: l, _, _, b, ⟨G, H, h1, h2, _, h4⟩, hb => ((h4 b).1 hb).elim (fun h => A.lt h1 h) fun h => Has.lt h2 h

theorem Has.mod : ∀ {l : List HA} {w w' : World} {F S : Nat → Prop}, Has l w F → Mod S w w' → (∀ b, F b → ¬ S b) → Has l w' F
  | [], _, _, _, _, h, _, _ => h
  | A :: l, _, _, _, _, ⟨G, H, h1, h2, h3, h4⟩, hm, hs =>
    ⟨G, H, A.mod h1 hm fun b hb => hs b ((h4 b).2 (.inl hb)), Has.mod h2 hm fun b hb => hs b ((h4 b).2 (.inr hb)), h3, h4⟩

theorem Has.append : ∀ {l m : List HA} {w : World} {F : Nat → Prop}, Has (l ++ m) w F ↔ ∃ G H, Has l w G ∧ Has m w H ∧ (∀ b, G b → ¬ H b) ∧ ∀ b, F b ↔ G b ∨ H b
  | [], m, w, F => by
    constructor
    · intro h
      exact ⟨fun _ => False, F, fun _ h => h, h, fun _ h => h.elim, fun b => by simp⟩
    · rintro ⟨G, H, h1, h2, _, h4⟩
      have : F = H := fext fun b => by rw [h4 b]; exact ⟨fun h => h.elim (fun h => (h1 b h).elim) id, .inr⟩
      rw [this]; exact h2
  | A :: l, m, w, F => by
    constructor
    · rintro ⟨G, H, h1, h2, h3, h4⟩
      obtain ⟨G', H', h5, h6, h7, h8⟩ := Has.append.1 h2
      refine ⟨fun b => G b ∨ G' b, H', ⟨G, G', h1, h5, fun b hb hb' => h3 b hb ((h8 b).2 (.inl hb')), fun b => Iff.rfl⟩, h6, ?_, ?_⟩
      · rintro b (hb | hb) hb'
        · exact h3 b hb ((h8 b).2 (.inr hb'))
        · exact h7 b hb hb'
      · intro b
        rw [h4 b, h8 b, or_assoc]
    · rintro ⟨G, H, ⟨G1, G2, h1, h2, h3, h4⟩, h5, h6, h7⟩
      refine ⟨G1, fun b => G2 b ∨ H b, h1, Has.append.2 ⟨G2, H, h2, h5, fun b hb => h6 b ((h4 b).2 (.inr hb)), fun b => Iff.rfl⟩, ?_, ?_⟩
      · rintro b hb (hb' | hb')
        · exact h3 b hb hb'
        · exact h6 b ((h4 b).2 (.inl hb)) hb'
      · intro b
        rw [h7 b, h4 b, or_assoc]

theorem Has.perm {l m : List HA} (h : l.Perm m) : ∀ {w : World} {F : Nat → Prop}, Has l w F → Has m w F := by
  induction h with
  | nil => exact fun h => h
  | cons A _ ih => rintro w F ⟨G, H, h1, h2, h3, h4⟩; exact ⟨G, H, h1, ih h2, h3, h4⟩
  | swap A B l =>
    rintro w F ⟨G, H, h1, ⟨G', H', h5, h6, h7, h8⟩, h3, h4⟩
    refine ⟨G', fun b => G b ∨ H' b, h5, ⟨G, H', h1, h6, fun b hb hb' => h3 b hb ((h8 b).2 (.inr hb')), fun b => Iff.rfl⟩, ?_, ?_⟩
    · rintro b hb (hb' | hb')
      · exact h3 b hb' ((h8 b).2 (.inl hb))
      · exact h7 b hb hb'
    · intro b
      rw [h4 b, h8 b]
      constructor
      · rintro (h | h | h)
        · exact .inr (.inl h)
        · exact .inl h
        · exact .inr (.inr h)
      · rintro (h | h | h)
        · exact .inr (.inl h)
        · exact .inl h
        · exact .inr (.inr h)
  | trans _ _ ih1 ih2 => exact fun h => ih2 (ih1 h)

def bring : Nat → List HA → List HA
  | _, [] => []
  | 0, A :: l => A :: l
  | n + 1, A :: l =>
    match bring n l with
    | [] => [A]
    | B :: m => B :: A :: m

theorem bring_perm : ∀ (n : Nat) (l : List HA), l.Perm (bring n l)
  | 0, [] => .refl _
  | _ + 1, [] => .refl _
  | 0, A :: l => .refl _
  | n + 1, A :: l => by
    have h := bring_perm n l
    unfold bring
    split
    · rename_i h2
      rw [h2] at h
      rw [h.eq_nil]
    · rename_i B m h2
      rw [h2] at h
      exact (h.cons A).trans (.swap B A m)

/-! ### what a function's walk has -/

/-- from w0 on, where F0 was owned: w has l, and nothing else of the old has changed -/
def St (F0 : Nat → Prop) (w0 w : World) (l : List HA) : Prop := Mod F0 w0 w ∧ ∃ F, Has l w F ∧ ∀ b, F b → F0 b ∨ w0.heap.size ≤ b

abbrev noF : Nat → Prop := fun _ => False

section
variable {F0 : Nat → Prop} {w0 w w' : World} {l m : List HA} {A B : HA}

theorem St.init {F : Nat → Prop} (h : Has l w F) : St F w w l := ⟨Mod.refl _ _, F, h, fun _ h => .inl h⟩
theorem St.init0 (w : World) : St noF w w [] := ⟨Mod.refl _ _, noF, fun _ h => h, fun _ h => h.elim⟩
theorem St.modd (h : St F0 w0 w l) : Mod F0 w0 w := h.1
theorem St.gro (h : St noF w0 w l) : Grow w0 w := h.1
theorem St.perm (h : St F0 w0 w l) (hp : l.Perm m) : St F0 w0 w m := let ⟨h1, F, h2, h3⟩ := h; ⟨h1, F, h2.perm hp, h3⟩
theorem St.bring (n : Nat) (h : St F0 w0 w l) : St F0 w0 w (Eng.bring n l) := h.perm (bring_perm n l)
theorem St.drop (h : St F0 w0 w (A :: l)) : St F0 w0 w l := by
  obtain ⟨h1, F, ⟨G, H, _, h5, _, h7⟩, h3⟩ := h
  exact ⟨h1, H, h5, fun b hb => h3 b ((h7 b).2 (.inr hb))⟩
theorem St.dropL (h : St F0 w0 w (l ++ m)) : St F0 w0 w m := by
  obtain ⟨h1, F, h2, h3⟩ := h
  obtain ⟨G, H, _, h5, _, h7⟩ := Has.append.1 h2
  exact ⟨h1, H, h5, fun b hb => h3 b ((h7 b).2 (.inr hb))⟩
theorem St.dropR (h : St F0 w0 w (l ++ m)) : St F0 w0 w l := by
  obtain ⟨h1, F, h2, h3⟩ := h
  obtain ⟨G, H, h4, _, _, h7⟩ := Has.append.1 h2
  exact ⟨h1, G, h4, fun b hb => h3 b ((h7 b).2 (.inl hb))⟩

/-- a call that is handed the first ones -/
theorem St.call (As : List HA) (h : St F0 w0 w (As ++ l)) : ∃ F H, Has As w F ∧ Has l w H ∧ (∀ b, F b → ¬ H b) ∧ (∀ b, F b → F0 b ∨ w0.heap.size ≤ b) ∧ ∀ w' l', St F w w' l' → St F0 w0 w' (l' ++ l) := by
  obtain ⟨h1, F, h2, h3⟩ := h
  obtain ⟨G, H, h4, h5, h6, h7⟩ := Has.append.1 h2
  refine ⟨G, H, h4, h5, h6, fun b hb => h3 b ((h7 b).2 (.inl hb)), ?_⟩
  rintro w' l' ⟨k1, F', k2, k3⟩
  have hsz := h1.size
  refine ⟨h1.trans k1 ?_, fun b => F' b ∨ H b, Has.append.2 ⟨F', H, k2, h5.mod k1 fun b hb hg => h6 b hg hb, ?_, fun b => Iff.rfl⟩, ?_⟩
  · intro b hb hg
    rcases h3 b ((h7 b).2 (.inl hg)) with h | h
    · exact h
    · omega
  · intro b hb hb'
    rcases k3 b hb with h | h
    · exact h6 b h hb'
    · have := h5.lt hb'; omega
  · rintro b (hb | hb)
    · rcases k3 b hb with h | h
      · exact h3 b ((h7 b).2 (.inl h))
      · exact .inr (Nat.le_trans hsz h)
    · exact h3 b ((h7 b).2 (.inr hb))

/-- a call that is handed the first one -/
theorem St.call1 (h : St F0 w0 w (A :: l)) : ∃ F H, A.is w F ∧ Has [A] w F ∧ Has l w H ∧ (∀ b, F b → ¬ H b) ∧ (∀ b, F b → F0 b ∨ w0.heap.size ≤ b) ∧ ∀ w' l', St F w w' l' → St F0 w0 w' (l' ++ l) := by
  obtain ⟨F, H, h1, h2, h3, h4, h5⟩ := St.call [A] h
  have h1' := h1
  obtain ⟨G, K, k1, k2, _, k4⟩ := h1'
  have : F = G := fext fun b => by rw [k4 b]; exact ⟨fun h => h.elim id fun h => (k2 b h).elim, .inl⟩
  subst this
  exact ⟨F, H, k1, h1, h2, h3, h4, h5⟩

theorem Has.one {F : Nat → Prop} (h : Has [A] w F) : A.is w F := by
  obtain ⟨G, K, k1, k2, _, k4⟩ := h
  have : F = G := fext fun b => by rw [k4 b]; exact ⟨fun h => h.elim id fun h => (k2 b h).elim, .inl⟩
  subst this
  exact k1
theorem Has.mk1 {F : Nat → Prop} (h : A.is w F) : Has [A] w F := ⟨F, noF, h, fun _ h => h, fun _ _ h => h, fun b => by simp⟩

/-- a call that owns nothing of ours -/
theorem St.call0 (h : St F0 w0 w l) (k : St noF w w' m) : St F0 w0 w' (m ++ l) := by
  obtain ⟨F, H, h1, h2, h3, h4, h5⟩ := St.call [] (l := l) h
  have : F = noF := fext fun b => ⟨fun hb => h1 b hb, fun h => h.elim⟩
  subst this
  exact h5 w' m k
theorem St.grow (h : St F0 w0 w l) (k : Grow w w') : St F0 w0 w' l := St.call0 (m := []) h ⟨k, noF, fun _ h => h, fun _ h => h.elim⟩
theorem St.drew (h : St F0 w0 w l) : St F0 w0 w.drew l := h.grow (Mod.refl _ w).drew

/-- the first one is changed -/
theorem St.upd (h : St F0 w0 w (A :: l)) : ∃ G H, A.is w G ∧ Has l w H ∧ (∀ b, G b → ¬ H b) ∧ (∀ b, G b → F0 b ∨ w0.heap.size ≤ b) ∧ ∀ w' (B : HA) G', B.is w' G' → Mod G w w' → (∀ b, G' b → G b ∨ w.heap.size ≤ b) → St F0 w0 w' (B :: l) := by
  obtain ⟨F, H, h1, _, h2, h3, h4, h5⟩ := St.call1 h
  exact ⟨F, H, h1, h2, h3, h4, fun w' B G' k1 k2 k3 => h5 w' [B] ⟨k2, G', Has.mk1 k1, k3⟩⟩

/-- the first one says something else as well -/
theorem St.conv (h : St F0 w0 w (A :: l)) (hk : ∀ F, A.is w F → Has m w F) : St F0 w0 w (m ++ l) := by
  obtain ⟨F, H, h1, _, h2, h3, h4, h5⟩ := St.call1 h
  exact h5 w m ⟨Mod.refl _ _, F, hk F h1, fun _ h => .inl h⟩
theorem St.conv1 (As : List HA) (h : St F0 w0 w (As ++ l)) (hk : ∀ F, Has As w F → B.is w F) : St F0 w0 w (B :: l) := by
  obtain ⟨F, H, h1, h2, h3, h4, h5⟩ := St.call As h
  exact h5 w [B] ⟨Mod.refl _ _, F, Has.mk1 (hk F h1), fun _ h => .inl h⟩
end

/-! ### owned things -/

/-- a block of cells -/
def BoxA (b : Nat) (vs : List Value) : HA where
  is w F := Box w b vs ∧ ∀ c, F c ↔ c = b
  lt := fun h hb => by rw [(h.2 _).1 hb]; exact h.1.lt
  mod := fun h hm hs => ⟨h.1.mod hm (hs _ ((h.2 _).2 rfl)), h.2⟩

/-- an object -/
def ObjA (b : Nat) (o : Obj) : HA where
  is w F := w.heap[b]? = some o ∧ ∀ c, F c ↔ c = b
  lt := fun {w F c} h hb => by
    rw [(h.2 _).1 hb]
    rcases Nat.lt_or_ge b w.heap.size with h' | h'
    · exact h'
    · have := h.1; rw [Array.getElem?_eq_none h'] at this; cases this
  mod := fun {w w' F S} h hm hs => by
    have hlt : b < w.heap.size := by
      rcases Nat.lt_or_ge b w.heap.size with h' | h'
      · exact h'
      · have := h.1; rw [Array.getElem?_eq_none h'] at this; cases this
    exact ⟨(hm.same b hlt (hs _ ((h.2 _).2 rfl))).trans h.1, h.2⟩

/-- a slice with its array, elements of n cells -/
def SlA (n : Nat) (s : Sl) (vs : List Value) : HA where
  is w F := OwnS w 0 n s vs ∧ ∀ c, F c ↔ s.blk c
  lt := fun h hb => by
    obtain ⟨ad, h1, rfl⟩ := (h.2 _).1 hb
    exact (h.1.le_block h1).2.1
  mod := fun h hm hs => ⟨h.1.mod hm fun ad ha hS => hs _ ((h.2 _).2 ⟨ad, ha, rfl⟩) hS, h.2⟩

/-- one of many -/
def exA {ι : Type} (f : ι → List HA) : HA where
  is w F := ∃ i, Has (f i) w F
  lt := fun ⟨_, h⟩ hb => h.lt hb
  mod := fun ⟨i, h⟩ hm hs => ⟨i, h.mod hm hs⟩

def bigA (xs : List HA) : HA where
  is w F := Has xs w F
  lt := fun h hb => Has.lt h hb
  mod := fun h hm hs => Has.mod h hm hs

def pA (p : Prop) : HA where
  is _ F := p ∧ ∀ b, ¬ F b
  lt := fun h hb => (h.2 _ hb).elim
  mod := fun h _ _ => h

section
variable {F0 : Nat → Prop} {w0 w w' : World} {l : List HA}

theorem St.ex {ι : Type} {f : ι → List HA} (h : St F0 w0 w (exA f :: l)) : ∃ i, St F0 w0 w (f i ++ l) := by
  obtain ⟨F, H, ⟨i, h1⟩, _, h2, h3, h4, h5⟩ := St.call1 h
  exact ⟨i, h5 w (f i) ⟨Mod.refl _ _, F, h1, fun _ h => .inl h⟩⟩
theorem St.mkex {ι : Type} {f : ι → List HA} (i : ι) (h : St F0 w0 w (f i ++ l)) : St F0 w0 w (exA f :: l) := h.conv1 (f i) fun _ h => ⟨i, h⟩
theorem St.big {xs : List HA} (h : St F0 w0 w (bigA xs :: l)) : St F0 w0 w (xs ++ l) := h.conv fun _ h => h
theorem St.mkbig {xs : List HA} (h : St F0 w0 w (xs ++ l)) : St F0 w0 w (bigA xs :: l) := h.conv1 xs fun _ h => h
theorem St.p {p : Prop} (h : St F0 w0 w (pA p :: l)) : p ∧ St F0 w0 w l := ⟨by obtain ⟨F, H, h1, _⟩ := St.call1 h; exact h1.1, h.drop⟩
theorem St.mkp {p : Prop} (h : St F0 w0 w l) (hp : p) : St F0 w0 w (pA p :: l) := St.conv1 [] h fun _ h => ⟨hp, h⟩

theorem split_at {α : Type} {xs : List α} {i : Nat} {x : α} (h : xs[i]? = some x) : xs = xs.take i ++ x :: xs.drop (i + 1) ∧ i < xs.length := by
  have hi : i < xs.length := by
    rcases Nat.lt_or_ge i xs.length with h' | h'
    · exact h'
    · rw [List.getElem?_eq_none h'] at h; cases h
  refine ⟨?_, hi⟩
  rw [List.getElem?_eq_getElem hi, Option.some.injEq] at h
  rw [← h, ← List.drop_eq_getElem_cons hi, List.take_append_drop]

/-- one of a row of things -/
theorem St.pick {xs : List HA} {i : Nat} {A : HA} (h : St F0 w0 w (bigA xs :: l)) (hi : xs[i]? = some A) : St F0 w0 w (A :: bigA (xs.eraseIdx i) :: l) := by
  have h1 := split_at hi
  have h2 := h.big
  have hp : (xs ++ l).Perm (A :: (xs.eraseIdx i ++ l)) := by
    rw [List.eraseIdx_eq_take_drop_succ]
    conv => lhs; rw [h1.1]
    simp only [List.append_assoc, List.cons_append]
    exact List.perm_middle
  have h3 : St F0 w0 w (xs.eraseIdx i ++ (l ++ [A])) := by
    rw [← List.append_assoc]
    exact (h2.perm hp).perm (List.perm_append_comm (l₁ := [A]) (l₂ := xs.eraseIdx i ++ l))
  have h4 := St.mkbig h3
  exact h4.perm (((List.perm_append_comm (l₁ := l) (l₂ := [A])).cons _).trans (.swap _ _ _))

theorem St.unpick {xs : List HA} {i : Nat} {A : HA} (h : St F0 w0 w (A :: bigA (xs.eraseIdx i) :: l)) (hi : i < xs.length) : St F0 w0 w (bigA (xs.set i A) :: l) := by
  have h1 := h.perm (.swap _ _ _)
  have h2 := h1.big
  refine St.mkbig (h2.perm ?_)
  rw [List.eraseIdx_eq_take_drop_succ, List.set_eq_take_append_cons_drop, if_pos hi]
  simp only [List.append_assoc, List.cons_append]
  refine (List.perm_append_left_iff _).2 ?_
  exact List.perm_middle

theorem St.push {xs : List HA} {A : HA} (h : St F0 w0 w (A :: bigA xs :: l)) : St F0 w0 w (bigA (xs ++ [A]) :: l) := by
  have h1 := (h.perm (.swap _ _ _)).big
  refine St.mkbig (h1.perm ?_)
  rw [List.append_assoc]
  exact .refl _
theorem St.nobig (h : St F0 w0 w l) : St F0 w0 w (bigA [] :: l) := St.mkbig (xs := []) h

/-! #### boxes -/

theorem St.box {b : Nat} {vs : List Value} (h : St F0 w0 w (BoxA b vs :: l)) : Box w b vs := by
  obtain ⟨F, H, h1, _⟩ := St.call1 h
  exact h1.1

theorem St.mkbox {b : Nat} {vs : List Value} (h : St F0 w0 w l) (hg : Grow w w') (hb : Box w' b vs) (hn : w.heap.size ≤ b) : St F0 w0 w' (BoxA b vs :: l) :=
  St.call0 (m := [BoxA b vs]) h ⟨hg, (· = b), Has.mk1 ⟨hb, fun _ => Iff.rfl⟩, fun c hc => .inr (by rw [hc]; exact hn)⟩

theorem St.nw {cs : Array Value} {T : TypeId} {f : Nat → Pr} (h : St F0 w0 w l) (hk : ∀ b w2, St F0 w0 w2 (BoxA b cs.toList :: l) → Grow w w2 → b = w.heap.size → f b w2) : nw (.cells cs T) f w :=
  nw_of fun b w2 g e _ bx => hk b w2 (h.mkbox g bx (by omega)) g e

theorem St.ld {b : Nat} {vs : List Value} (h : St F0 w0 w (BoxA b vs :: l)) {s : CS} {p : PayC s} {k : PayC s → Pr} {i : Nat} (hi : vs[i]? = some (valC s p)) (hk : k p w) : ldC s (Addr.add ⟨b, 0, none⟩ i) k w := h.box.ld hi hk
theorem St.ld0 {b : Nat} {v : Value} {vs : List Value} (h : St F0 w0 w (BoxA b (v :: vs) :: l)) {s : CS} {p : PayC s} {k : PayC s → Pr} (hi : v = valC s p) (hk : k p w) : ldC s ⟨b, 0, none⟩ k w := by
  have := h.box.ld (i := 0) (s := s) (p := p) (k := k) (by rw [hi]; rfl) hk
  rwa [add_zero'] at this

theorem St.st {b : Nat} {vs : List Value} (h : St F0 w0 w (BoxA b vs :: l)) {i : Nat} {v : Value} {k : Pr} (hi : i < vs.length) (hv : NotAgg v) (hk : ∀ w', St F0 w0 w' (BoxA b (vs.set i v) :: l) → k w') : Eng.st (Addr.add ⟨b, 0, none⟩ i) v k w := by
  obtain ⟨G, H, ⟨h1, h2⟩, h3, h4, h5, h6⟩ := St.upd h
  refine h1.st hi hv fun w' k1 k2 k3 => hk w' ?_
  refine h6 w' (BoxA b (vs.set i v)) G ⟨k1, h2⟩ (k2.mono fun c _ hc => (h2 c).2 hc) fun _ h => .inl h
theorem St.st0 {b : Nat} {u : Value} {vs : List Value} (h : St F0 w0 w (BoxA b (u :: vs) :: l)) {v : Value} {k : Pr} (hv : NotAgg v) (hk : ∀ w', St F0 w0 w' (BoxA b (v :: vs) :: l) → k w') : Eng.st ⟨b, 0, none⟩ v k w := by
  have := h.st (i := 0) (v := v) (k := k) (by simp) hv fun w' h' => hk w' h'
  rwa [add_zero'] at this

/-! #### objects -/

theorem St.obj {b : Nat} {o : Obj} (h : St F0 w0 w (ObjA b o :: l)) : w.heap[b]? = some o := by
  obtain ⟨F, H, h1, _⟩ := St.call1 h
  exact h1.1
theorem St.mkobj (h : St F0 w0 w l) (o : Obj) : St F0 w0 (w.alloc o) (ObjA w.heap.size o :: l) :=
  St.call0 (m := [ObjA w.heap.size o]) h ⟨(Mod.refl _ w).alloc o, (· = w.heap.size), Has.mk1 ⟨heap_alloc_new w o, fun _ => Iff.rfl⟩, fun c hc => .inr (by rw [hc]; exact Nat.le_refl _)⟩
theorem St.putObj {b : Nat} {o : Obj} (h : St F0 w0 w (ObjA b o :: l)) (o' : Obj) : St F0 w0 (w.putObj b o') (ObjA b o' :: l) := by
  obtain ⟨G, H, ⟨h1, h2⟩, h3, h4, h5, h6⟩ := St.upd h
  have hlt : b < w.heap.size := by
    rcases Nat.lt_or_ge b w.heap.size with h' | h'
    · exact h'
    · rw [Array.getElem?_eq_none h'] at h1; cases h1
  exact h6 _ (ObjA b o') G ⟨World.putObj_heap_same hlt, h2⟩ ((Mod.refl _ w).putObj (.inl ((h2 b).2 rfl))) fun _ h => .inl h

/-! #### slices -/

theorem OwnS.to0 {n0 n : Nat} {s : Sl} {vs : List Value} (h : OwnS w n0 n s vs) : OwnS w 0 n s vs := h.weaken (Nat.zero_le _)

theorem St.sl {n : Nat} {s : Sl} {vs : List Value} (h : St F0 w0 w (SlA n s vs :: l)) : OwnS w 0 n s vs := by
  obtain ⟨F, H, h1, _⟩ := St.call1 h
  exact h1.1
theorem St.mksl {n : Nat} {s : Sl} {vs : List Value} (h : St F0 w0 w l) (hg : Grow w w') (ho : OwnS w' w.heap.size n s vs) : St F0 w0 w' (SlA n s vs :: l) :=
  St.call0 (m := [SlA n s vs]) h ⟨hg, s.blk, Has.mk1 ⟨ho.to0, fun _ => Iff.rfl⟩, fun c hc => .inr (by obtain ⟨ad, h1, rfl⟩ := hc; exact (ho.le_block h1).1)⟩
theorem St.nosl (h : St F0 w0 w l) (n : Nat) : St F0 w0 w (SlA n ⟨none, 0, 0⟩ [] :: l) := h.mksl (Mod.refl _ _) (OwnS.nil _ _ _)

/-- the array of the first one is written by a step that keeps to it -/
theorem St.slm {n : Nat} {s r : Sl} {vs us : List Value} (h : St F0 w0 w (SlA n s vs :: l)) (hm : Mod s.blk w w') (ho : OwnS w' 0 n r us) (hb : ∀ b, r.blk b → s.blk b ∨ w.heap.size ≤ b) : St F0 w0 w' (SlA n r us :: l) := by
  obtain ⟨G, H, ⟨h1, h2⟩, h3, h4, h5, h6⟩ := St.upd h
  exact h6 _ (SlA n r us) r.blk ⟨ho, fun _ => Iff.rfl⟩ (hm.mono fun c _ hc => (h2 c).2 hc) fun b hb' => (hb b hb').imp (fun h => (h2 b).2 h) id

/-- append -/
theorem St.app {E n b : Nat} {s x : Sl} {z : List Value} {vs new : List Value} {k : Sl → Pr} (h : St F0 w0 w (SlA n s vs :: l)) (hxl : x.a.isSome = true → new.length = x.len * n) (hx0 : x.a = none → x.len = 0) (hx : readsO w x.a new)
    (hna : ∀ v ∈ new, NotAgg v) (hz : z.length = n) (hb : b ≠ 0) (hbd : (2 * (s.len + x.len) + 192) * b ≤ 2 ^ 48)
    (hk : ∀ r w', St F0 w0 w' (SlA n r (vs ++ new) :: l) → r.len = s.len + x.len → k r w') : app E n b z s x k w :=
  app_own2 h.sl (Nat.zero_le _) hxl hx0 hx hna hz hb hbd fun r w' h1 h2 _ _ h5 h6 => hk r w' (h.slm h5 h1 h6) h2

/-- one cell of an element is written -/
theorem St.put {n : Nat} {s : Sl} {vs : List Value} {i : Nat} {v : Value} {k : Pr} (h : St F0 w0 w (SlA n s vs :: l)) (hi : i < vs.length) (hv : NotAgg v)
    (hk : ∀ w', St F0 w0 w' (SlA n s (vs.set i v) :: l) → k w') : ∃ ad, s.a = some ad ∧ Eng.st (ad.add i) v k w :=
  h.sl.put hi hv fun w' h1 h2 _ => hk w' (h.slm h2 h1 fun _ h => .inl h)

/-- one cell of an element is read -/
theorem St.get {n : Nat} {s : Sl} {vs : List Value} {i : Nat} {c : CS} {p : PayC c} {k : PayC c → Pr} (h : St F0 w0 w (SlA n s vs :: l)) (hi : vs[i]? = some (valC c p)) (hk : k p w) : ∃ ad, s.a = some ad ∧ ldC c (ad.add i) k w := by
  have h1 := h.sl
  rcases h1.row with ⟨_, h2, _⟩ | ⟨b, off, spare, h2, _, _, _, h5, _⟩
  · have := h1.len; rw [h2] at this; simp at this; subst this; simp at hi
  · refine ⟨_, h2, ldC_of (h5 i _ ?_) hk⟩
    rw [List.getElem?_append_left (split_at hi).2]
    exact hi
end

/-! ### what is only read -/

/-- bytes that are read and not owned -/
structure Rd (w : World) (F : Nat → Prop) (s : Sl) (l : List UInt8) : Prop where
  bs : BS w s l
  no : ∀ b, l ≠ [] → s.blk b → ¬ F b

section
variable {F0 F : Nat → Prop} {w0 w : World} {L : List HA} {s : Sl} {l : List UInt8}
theorem Rd.at (h : Rd w0 F0 s l) (hs : St F0 w0 w L) : BS w s l := h.bs.mod hs.1 fun ad ha hl hF => h.no _ hl ⟨ad, ha, rfl⟩ hF
theorem Rd.lt (h : Rd w F s l) {b : Nat} (hl : l ≠ []) (hb : s.blk b) : b < w.heap.size := by
  obtain ⟨ad, ha, rfl⟩ := hb
  have h1 := h.bs.row
  rw [ha] at h1
  exact readsO.lt h1 (by simpa using hl)
theorem Rd.go (h : Rd w0 F0 s l) (hs : St F0 w0 w L) (hF : ∀ b, F b → F0 b ∨ w0.heap.size ≤ b) : Rd w F s l := ⟨h.at hs, fun b hl hb hFb => by
  rcases hF b hFb with h1 | h1
  · exact h.no b hl hb h1
  · have := h.lt hl hb; omega⟩
theorem Rd.noF (h : BS w s l) : Rd w noF s l := ⟨h, fun _ _ _ h => h⟩
/-- one of our own, handed on beside others -/
theorem Rd.own {H : Nat → Prop} (h : Has (SlA 1 s (l.map ub) :: L) w H) (hd : ∀ b, F b → ¬ H b) : Rd w F s l := by
  obtain ⟨G, H', ⟨h1, h2⟩, h3, h4, h5⟩ := h
  exact ⟨h1.bs, fun b _ hb hF => hd b hF ((h5 b).2 (.inl ((h2 b).2 hb)))⟩
end
end Go.Eng
namespace Go.Eng
section
variable {w0 w : World} {L : List HA}
theorem St.own {n : Nat} {s : Sl} {vs : List Value} (h : St noF w0 w (SlA n s vs :: L)) : OwnS w w0.heap.size n s vs := by
  obtain ⟨G, H, ⟨h1, h2⟩, _, _, h5, _⟩ := h.upd
  refine ⟨h1.len, h1.le, ?_⟩
  rcases h1.row with h | ⟨b, off, spare, k1, _, k3⟩
  · exact .inl h
  · refine .inr ⟨b, off, spare, k1, ?_, k3⟩
    rcases h5 b ((h2 b).2 ⟨_, k1, rfl⟩) with h | h
    · exact h.elim
    · exact h
theorem takes_of {F0 : Nat → Prop} {D : Nat} {k : Pr} (h : St F0 w0 w (ObjA D (.deferred (some [])) :: L)) (hk : ∀ w', St F0 w0 w' (ObjA D (.deferred none) :: L) → k w') : takes [D] k w :=
  ⟨h.obj, hk _ (h.putObj _)⟩
theorem Box.cell0 {b : Nat} {v : Value} {vs : List Value} (h : Box w b (v :: vs)) : w.cell? ⟨b, 0, none⟩ = some v := by
  have := h.row.get (j := 0) (v := v) rfl
  rwa [add_zero'] at this
end
end Go.Eng
namespace Go.Eng
theorem St.del {F0 : Nat → Prop} {w0 w : World} : ∀ (n : Nat) {l : List HA}, St F0 w0 w l → St F0 w0 w (l.eraseIdx n) := by
  intro n l h
  rw [List.eraseIdx_eq_take_drop_succ]
  rcases Nat.lt_or_ge n l.length with hn | hn
  · have h1 : St F0 w0 w (l.take n ++ l[n] :: l.drop (n + 1)) := by rw [← List.drop_eq_getElem_cons hn, List.take_append_drop]; exact h
    exact (h1.perm List.perm_middle).drop
  · rw [List.take_of_length_le hn, List.drop_eq_nil_of_le (by omega), List.append_nil]; exact h
end Go.Eng
namespace Go.Eng
theorem OwnS.get {w : World} {n0 n : Nat} {s : Sl} {vs : List Value} {i : Nat} {c : CS} {p : PayC c} {k : PayC c → Pr} (h1 : OwnS w n0 n s vs) (hi : vs[i]? = some (valC c p)) (hk : k p w) : ∃ ad, s.a = some ad ∧ ldC c (ad.add i) k w := by
  rcases h1.row with ⟨_, h2, _⟩ | ⟨b, off, spare, h2, _, _, _, h5, _⟩
  · have := h1.len; rw [h2] at this; simp at this; subst this; simp at hi
  · refine ⟨_, h2, ldC_of (h5 i _ ?_) hk⟩
    rw [List.getElem?_append_left (split_at hi).2]
    exact hi
end Go.Eng
namespace Go.Eng
/-- an element of one cell, as it is printed -/
theorem at_own {w : World} {n0 : Nat} {s : Sl} {vs : List Value} {i : Nat} {c : CS} {p : PayC c} {k : PayC c → Pr} (h1 : OwnS w n0 1 s vs) (hi : vs[i]? = some (valC c p)) (hk : k p w) : (deref s.a fun a => ldC c (a.add (i * 1)) k) w := by
  obtain ⟨ad, ha, hld⟩ := h1.get hi hk
  rw [ha, deref_some', Nat.mul_one]
  exact hld
end Go.Eng
namespace Go.Eng
/-! ### picking out of a row of things -/
def nthA : List HA → Nat → Option HA
  | [], _ => none
  | A :: _, 0 => some A
  | _ :: l, n + 1 => nthA l n
def selA (l : List HA) : List Nat → List HA
  | [] => []
  | i :: ix =>
    match nthA l i with
    | some A => A :: selA l ix
    | none => selA l ix

theorem Has.fn : ∀ {l : List HA} {w : World} {F : Nat → Prop}, Has l w F → ∃ f : Nat → Nat → Prop, (∀ i A, nthA l i = some A → A.is w (f i)) ∧ (∀ i j b, i ≠ j → f i b → ¬ f j b) ∧ ∀ i b, f i b → F b
  | [], _, _, _ => ⟨fun _ _ => False, fun _ _ h => by simp [nthA] at h, fun _ _ _ _ h => h.elim, fun _ _ h => h.elim⟩
  | A :: l, w, F, ⟨G, H, h1, h2, h3, h4⟩ => by
    obtain ⟨f, f1, f2, f3⟩ := Has.fn h2
    refine ⟨fun i => match i with | 0 => G | i + 1 => f i, ?_, ?_, ?_⟩
    · intro i B hB
      cases i with
      | zero => simp only [nthA, Option.some.injEq] at hB; subst hB; exact h1
      | succ i => exact f1 i B hB
    · intro i j b hij hi hj
      cases i with
      | zero =>
        cases j with
        | zero => exact hij rfl
        | succ j => exact h3 b hi (f3 j b hj)
      | succ i =>
        cases j with
        | zero => exact h3 b hj (f3 i b hi)
        | succ j => exact f2 i j b (by omega) hi hj
    · intro i b hb
      cases i with
      | zero => exact (h4 b).2 (.inl hb)
      | succ i => exact (h4 b).2 (.inr (f3 i b hb))

theorem Has.selA {l : List HA} {w : World} {f : Nat → Nat → Prop} (f1 : ∀ i A, nthA l i = some A → A.is w (f i)) (f2 : ∀ i j b, i ≠ j → f i b → ¬ f j b) :
    ∀ {ix : List Nat}, ix.Nodup → Has (Eng.selA l ix) w fun b => ∃ i ∈ ix, (nthA l i).isSome = true ∧ f i b
  | [], _ => fun b ⟨i, h, _⟩ => by cases h
  | i :: ix, hn => by
    rw [List.nodup_cons] at hn
    have ih := Has.selA f1 f2 (ix := ix) hn.2
    unfold Eng.selA
    split
    · rename_i A hA
      refine ⟨f i, _, f1 i A hA, ih, ?_, ?_⟩
      · rintro b hb ⟨j, hj, _, hjb⟩
        exact f2 i j b (fun h => hn.1 (h ▸ hj)) hb hjb
      · intro b
        constructor
        · rintro ⟨j, hj, h1, h2⟩
          rcases List.mem_cons.1 hj with rfl | hj
          · exact .inl h2
          · exact .inr ⟨j, hj, h1, h2⟩
        · rintro (h | ⟨j, hj, h1, h2⟩)
          · exact ⟨i, by simp, by rw [hA]; rfl, h⟩
          · exact ⟨j, by simp [hj], h1, h2⟩
    · rename_i hA
      have : (fun b => ∃ j ∈ i :: ix, (nthA l j).isSome = true ∧ f j b) = fun b => ∃ j ∈ ix, (nthA l j).isSome = true ∧ f j b := fext fun b => by
        constructor
        · rintro ⟨j, hj, h1, h2⟩
          rcases List.mem_cons.1 hj with rfl | hj
          · rw [hA] at h1; cases h1
          · exact ⟨j, hj, h1, h2⟩
        · rintro ⟨j, hj, h1, h2⟩
          exact ⟨j, by simp [hj], h1, h2⟩
      rw [this]
      exact ih

/-- those of the first n that are named, in that order, and all behind -/
theorem St.sel {F0 : Nat → Prop} {w0 w : World} {l : List HA} (ix : List Nat) (n : Nat) (h : St F0 w0 w l) (hn : ix.Nodup := by decide) : St F0 w0 w (selA (l.take n) ix ++ l.drop n) := by
  obtain ⟨h1, F, h2, h3⟩ := h
  rw [← List.take_append_drop n l] at h2
  obtain ⟨G, H, h4, h5, h6, h7⟩ := Has.append.1 h2
  obtain ⟨f, f1, f2, f3⟩ := h4.fn
  refine ⟨h1, _, Has.append.2 ⟨_, H, Has.selA f1 f2 hn, h5, ?_, fun b => Iff.rfl⟩, ?_⟩
  · rintro b ⟨i, _, _, hb⟩ hb'
    exact h6 b (f3 i b hb) hb'
  · rintro b (⟨i, _, _, hb⟩ | hb)
    · exact h3 b ((h7 b).2 (.inl (f3 i b hb)))
    · exact h3 b ((h7 b).2 (.inr hb))
end Go.Eng
namespace Go.Eng
theorem zc_one (v : Value) (n : Nat) : zc [v] n = List.replicate n v := by
  unfold zc
  induction n with
  | zero => rfl
  | succ n ih => rw [List.replicate_succ, List.flatten_cons, ih, List.replicate_succ]; rfl
/-- make -/
theorem St.mkS {F0 : Nat → Prop} {w0 w : World} {l : List HA} {E b k : Nat} {z : List Value} {n : Nat} {f : Sl → Pr} (h : St F0 w0 w l) (hz : z.length = k) (hb : b * n ≤ 2 ^ 48) (hn : n ≤ 2 ^ 48)
    (hk : ∀ r w', St F0 w0 w' (SlA k r (zc z n) :: l) → r.len = n → f r w') : Eng.mkS E b z (n : Int) (n : Int) f w := by
  refine ⟨by omega, by omega, by exact_mod_cast hb, by omega, ?_⟩
  simp only [Int.toNat_natCast]
  refine hk _ _ (h.mksl ((Mod.refl _ w).alloc _) ⟨by rw [zc_length, hz], by simp, .inr ⟨w.heap.size, 0, [], rfl, Nat.le_refl _, by simp, fun o => World.frozen?_alloc_new w _ _ o, ?_, by rw [List.append_nil, zc_length, hz]⟩⟩) rfl
  intro j v hj
  rw [add_mk, Nat.zero_add, World.cell?_alloc_new]
  simpa using hj
/-- an element of one cell is written, as it is printed -/
theorem put_own {F0 : Nat → Prop} {w0 w : World} {l : List HA} {s : Sl} {vs : List Value} {i : Nat} {v : Value} {k : Pr} (h : St F0 w0 w (SlA 1 s vs :: l)) (hi : i < vs.length) (hv : NotAgg v)
    (hk : ∀ w', St F0 w0 w' (SlA 1 s (vs.set i v) :: l) → k w') : (deref s.a fun a => Eng.st (a.add (i * 1)) v k) w := by
  obtain ⟨ad, ha, hst⟩ := h.put hi hv hk
  rw [ha, deref_some', Nat.mul_one]
  exact hst
end Go.Eng
namespace Go.Eng
theorem St.mkSi {F0 : Nat → Prop} {w0 w : World} {l : List HA} {E b k : Nat} {z : List Value} {N : Int} {f : Sl → Pr} (n : Nat) (h : St F0 w0 w l) (hN : N = (n : Int)) (hz : z.length = k) (hb : b * n ≤ 2 ^ 48) (hn : n ≤ 2 ^ 48)
    (hk : ∀ r w', St F0 w0 w' (SlA k r (zc z n) :: l) → r.len = n → f r w') : Eng.mkS E b z N N f w := by
  subst hN
  exact h.mkS hz hb hn hk
end Go.Eng

/-! Maps that are owned: looking up, putting, deleting, going through. -/
namespace Go.Eng

/-- how keys are -/
structure KT (K : Type) [DecidableEq K] where
  kd : TypeDesc
  enc : K → Value
  same : ∀ a b, Instr.sameNow kd (enc a) (enc b) = some (decide (a = b))
  bits : ∀ a, Instr.sameBits 10000 (enc a) (enc a) = true

def intKT : KT Int where
  kd := .int .i64
  enc := .int .i64
  same a b := by
    simp only [Instr.sameNow, if_true, Option.some.injEq]
    rw [Bool.eq_iff_iff]; simp
  bits a := by simp [Instr.sameBits]

section
variable {K : Type} [DecidableEq K] (T : KT K)

/-- the entries of a map whose keys and values are kv -/
structure Ents (es : Array MapEntry) (clock : Nat) (kv : List (K × Value)) : Prop where
  born : ∀ e ∈ es.toList, e.born < clock
  nod : (es.toList.map (·.born)).Nodup
  kvs : es.toList.map (fun e => (e.key, e.val)) = kv.map fun x => (T.enc x.1, x.2)

/-- an owned map, in the order of coming -/
def MapA (m : Nat) (kv : List (K × Value)) : HA := exA fun i : Array MapEntry × Nat => [pA (Ents T i.1 i.2 kv), ObjA m (.map i.1 i.2)]

def lkp (k : K) : List (K × Value) → Option Value
  | [] => none
  | x :: l => if k = x.1 then some x.2 else lkp k l

variable {T}

theorem find_kv (k : K) : ∀ (es : List MapEntry) (kv : List (K × Value)) (i : Nat), es.map (fun e => (e.key, e.val)) = kv.map (fun x => (T.enc x.1, x.2)) →
    (k ∉ kv.map (·.1) ∧ lkp k kv = none ∧ Instr.findNow T.kd (T.enc k) es i = some none) ∨
    ∃ j v, kv[j]? = some (k, v) ∧ (∀ l x, l < j → kv[l]? = some x → x.1 ≠ k) ∧ lkp k kv = some v ∧ Instr.findNow T.kd (T.enc k) es i = some (some (i + j, v))
  | [], kv, i, h => by
    have : kv = [] := by
      have := congrArg List.length h
      simp at this
      exact List.eq_nil_of_length_eq_zero this.symm
    subst this
    exact .inl ⟨by simp, rfl, rfl⟩
  | e :: es, [], i, h => by simp at h
  | e :: es, x :: kv, i, h => by
    simp only [List.map_cons, List.cons.injEq, Prod.mk.injEq] at h
    unfold Instr.findNow
    rw [h.1.1, T.same]
    by_cases hk : k = x.1
    · subst hk
      refine .inr ⟨0, x.2, rfl, fun l _ hl => by omega, by simp [lkp], ?_⟩
      simp only [decide_true, Nat.add_zero]
      rw [h.1.2]
    · rw [decide_eq_false hk]
      rcases find_kv k es kv (i + 1) h.2 with ⟨h1, h2, h3⟩ | ⟨j, v, h1, h2, h3, h4⟩
      · exact .inl ⟨by simp [hk]; simpa using h1, by simp [lkp, hk, h2], h3⟩
      · refine .inr ⟨j + 1, v, by simpa using h1, fun l y hl hy => ?_, by simp [lkp, hk, h3], by dsimp only; rw [h4]; congr 3; omega⟩
        cases l with
        | zero => simp only [List.getElem?_cons_zero, Option.some.injEq] at hy; subst hy; exact fun h => hk h.symm
        | succ l => exact h2 l y (by omega) (by simpa using hy)

variable {F0 : Nat → Prop} {w0 w : World} {L : List HA} {m : Nat} {kv : List (K × Value)}

theorem St.mapOpen (h : St F0 w0 w (MapA T m kv :: L)) : ∃ es clock, Ents T es clock kv ∧ St F0 w0 w (ObjA m (.map es clock) :: L) := by
  obtain ⟨i, h⟩ := h.ex
  obtain ⟨h1, h⟩ := h.p
  exact ⟨i.1, i.2, h1, h⟩
theorem St.mapClose {es : Array MapEntry} {clock : Nat} (h : St F0 w0 w (ObjA m (.map es clock) :: L)) (he : Ents T es clock kv) : St F0 w0 w (MapA T m kv :: L) :=
  St.mkex (es, clock) (h.mkp he)

theorem St.newMap {f : Nat → Pr} (h : St F0 w0 w L) (hk : ∀ m w', St F0 w0 w' (MapA T m [] :: L) → f m w') : Eng.nw (.map #[] 0) f w := by
  rw [nw_def]
  exact hk _ _ ((h.mkobj (Obj.map #[] 0)).mapClose ⟨by simp, by simp, rfl⟩)

theorem mapAt_of {es : Array MapEntry} {clock : Nat} (he : Ents T es clock kv) (hm : w.heap[m]? = some (.map es clock)) {k : K} {sh : CS} {zero : Value} {f : PayC sh → Bool → Pr}
    (h1 : ∀ v, lkp k kv = some v → ∃ p, v = valC sh p ∧ f p true w) (h2 : lkp k kv = none → ∃ p, zero = valC sh p ∧ f p false w) : mapAt T.kd (some m) (T.enc k) sh zero f w := by
  rcases find_kv k es.toList kv 0 he.kvs with ⟨_, g2, g3⟩ | ⟨j, v, _, _, g3, g4⟩
  · obtain ⟨p, hp, hf⟩ := h2 g2
    exact ⟨es, none, p, ⟨clock, hm⟩, g3, hp, hf⟩
  · obtain ⟨p, hp, hf⟩ := h1 v g3
    exact ⟨es, some (0 + j, v), p, ⟨clock, hm⟩, g4, hp, hf⟩

theorem St.mapAt (h : St F0 w0 w (MapA T m kv :: L)) {k : K} {sh : CS} {zero : Value} {f : PayC sh → Bool → Pr}
    (h1 : ∀ v, lkp k kv = some v → ∃ p, v = valC sh p ∧ f p true w) (h2 : lkp k kv = none → ∃ p, zero = valC sh p ∧ f p false w) : Eng.mapAt T.kd (some m) (T.enc k) sh zero f w := by
  obtain ⟨es, clock, he, h⟩ := h.mapOpen
  exact mapAt_of he h.obj h1 h2

theorem Ents.len {es : Array MapEntry} {clock : Nat} (he : Ents T es clock kv) : es.size = kv.length := by
  have := congrArg List.length he.kvs
  simpa using this

theorem St.mapLen (h : St F0 w0 w (MapA T m kv :: L)) {f : Int → Pr} (h1 : f kv.length w) : Eng.mapLen (some m) f w := by
  obtain ⟨es, clock, he, h⟩ := h.mapOpen
  exact ⟨es, ⟨clock, h.obj⟩, by rw [he.len]; exact h1⟩

theorem eraseIdx_map {α β : Type} (f : α → β) (l : List α) (j : Nat) : (l.eraseIdx j).map f = (l.map f).eraseIdx j := by
  rw [List.eraseIdx_eq_take_drop_succ, List.eraseIdx_eq_take_drop_succ, List.map_append, List.map_take, List.map_drop]

theorem St.mapDel (h : St F0 w0 w (MapA T m kv :: L)) {k : K} {f : Pr} (h1 : ∀ j v w', kv[j]? = some (k, v) → (∀ l x, l < j → kv[l]? = some x → x.1 ≠ k) → St F0 w0 w' (MapA T m (kv.eraseIdx j) :: L) → f w')
    (h2 : k ∉ kv.map (·.1) → ∀ w', St F0 w0 w' (MapA T m kv :: L) → f w') : Eng.mapDel T.kd (some m) (T.enc k) f w := by
  obtain ⟨es, clock, he, h⟩ := h.mapOpen
  rcases find_kv k es.toList kv 0 he.kvs with ⟨g1, _, g3⟩ | ⟨j, v, g1, g2, _, g4⟩
  · exact ⟨m, es, clock, none, rfl, h.obj, g3, h2 g1 _ ((h.putObj (.map es clock)).mapClose he)⟩
  · refine ⟨m, es, clock, some (0 + j, v), rfl, h.obj, g4, h1 j v _ g1 g2 ((h.putObj (.map (es.eraseIdxIfInBounds (0 + j)) clock)).mapClose ?_)⟩
    have hl : (es.eraseIdxIfInBounds (0 + j)).toList = es.toList.eraseIdx j := by rw [Nat.zero_add, Array.toList_eraseIdxIfInBounds]
    refine ⟨fun e he' => ?_, ?_, ?_⟩
    · rw [hl] at he'
      exact he.born e (List.mem_of_mem_eraseIdx he')
    · rw [hl, eraseIdx_map]
      exact he.nod.sublist (List.eraseIdx_sublist _ _)
    · rw [hl, eraseIdx_map, he.kvs, eraseIdx_map]

theorem St.mapPut (h : St F0 w0 w (MapA T m kv :: L)) {k : K} {v : Value} {f : Pr} (h1 : ∀ j u w', kv[j]? = some (k, u) → (∀ l x, l < j → kv[l]? = some x → x.1 ≠ k) → St F0 w0 w' (MapA T m (kv.set j (k, v)) :: L) → f w')
    (h2 : k ∉ kv.map (·.1) → ∀ w', St F0 w0 w' (MapA T m (kv ++ [(k, v)]) :: L) → f w') : Eng.mapPut T.kd (some m) (T.enc k) v f w := by
  obtain ⟨es, clock, he, h⟩ := h.mapOpen
  rcases find_kv k es.toList kv 0 he.kvs with ⟨g1, _, g3⟩ | ⟨j, u, g1, g2, _, g4⟩
  · refine ⟨m, es, clock, none, rfl, h.obj, g3, h2 g1 _ ((h.putObj (.map (es.push { key := T.enc k, val := v, born := clock }) (clock + 1))).mapClose ⟨?_, ?_, ?_⟩)⟩
    · intro e he'
      rw [Array.toList_push] at he'
      rcases List.mem_append.1 he' with h' | h'
      · have := he.born e h'; omega
      · rw [List.mem_singleton] at h'; subst h'; exact Nat.lt_succ_self _
    · rw [Array.toList_push, List.map_append, List.nodup_append]
      refine ⟨he.nod, by simp, fun a ha b hb => ?_⟩
      obtain ⟨e, he', rfl⟩ := List.mem_map.1 ha
      have := he.born e he'
      simp at hb
      omega
    · rw [Array.toList_push, List.map_append, he.kvs, List.map_append]; rfl
  · have hjl : j < es.toList.length := by
      have h1 := congrArg List.length he.kvs
      have h2 := (split_at g1).2
      simp at h1 h2 ⊢; omega
    have hej : es[0 + j]? = some es.toList[j] := by rw [Nat.zero_add]; simp at hjl ⊢
    have hkj : es.toList[j].key = T.enc k := by
      have h3 := congrArg (·[j]?) he.kvs
      simp only [List.getElem?_map, g1, Option.map_some, List.getElem?_eq_getElem hjl, Option.some.injEq, Prod.mk.injEq] at h3
      exact h3.1
    refine ⟨m, es, clock, some (0 + j, u), rfl, h.obj, g4, ?_, h1 j u _ g1 g2 ((h.putObj (.map (es.modify (0 + j) fun e => { e with key := T.enc k, val := v }) clock)).mapClose ?_)⟩
    · rw [hej]
      simp only [Option.map_some, Option.getD_some, hkj]
      exact T.bits k
    · have hl : ∀ {β : Type} (f : MapEntry → β) (b : β), f { es.toList[j] with key := T.enc k, val := v } = b → (es.modify (0 + j) fun e => { e with key := T.enc k, val := v }).toList.map f = (es.toList.map f).set j b := by
        intro β f b hb
        refine List.ext_getElem? fun i => ?_
        rw [Nat.zero_add, List.getElem?_set, List.getElem?_map, Array.getElem?_toList, Array.getElem?_modify]
        by_cases hij : j = i
        · subst hij
          rw [if_pos rfl, if_pos rfl, if_pos (by simpa using hjl)]
          have : es[j]? = some es.toList[j] := by simp
          rw [this]
          simp only [Option.map_some, Option.some.injEq]
          exact hb
        · rw [if_neg hij, if_neg hij, List.getElem?_map, Array.getElem?_toList]
      refine ⟨fun e he' => ?_, ?_, ?_⟩
      · have h4 : e.born ∈ ((es.modify (0 + j) fun e => { e with key := T.enc k, val := v }).toList.map (·.born)) := List.mem_map.2 ⟨e, he', rfl⟩
        rw [hl (·.born) es.toList[j].born rfl] at h4
        rcases List.mem_or_eq_of_mem_set h4 with h5 | h5
        · obtain ⟨e2, h6, h7⟩ := List.mem_map.1 h5
          have := he.born e2 h6; omega
        · have := he.born _ (List.getElem_mem hjl); omega
      · rw [hl (·.born) es.toList[j].born rfl]
        have : (es.toList.map (·.born)).set j es.toList[j].born = es.toList.map (·.born) := by
          refine List.ext_getElem? fun i => ?_
          rw [List.getElem?_set]
          by_cases hij : j = i
          · subst hij
            rw [if_pos rfl, if_pos (by simpa using hjl), List.getElem?_map, List.getElem?_eq_getElem hjl]; rfl
          · rw [if_neg hij]
        rw [this]
        exact he.nod
      · rw [hl (fun e => (e.key, e.val)) (T.enc k, v) rfl, he.kvs, List.map_set]

/-! ### going through -/

def seenOf (es : Array MapEntry) (done : List Nat) : List Nat := done.map fun j => ((es[j]?).map (·.born)).getD 0

variable (T) in
/-- a map that is being gone through: those at the places done have come -/
def MapItA (m it : Nat) (kv : List (K × Value)) (done : List Nat) : HA :=
  exA fun i : Array MapEntry × Nat × Array Nat => [pA (Ents T i.1 i.2.1 kv ∧ i.2.2.toList = seenOf i.1 done ∧ (∀ j ∈ done, j < kv.length) ∧ done.Nodup), ObjA m (.map i.1 i.2.1), ObjA it (.mapIter (some m) i.2.1 i.2.2 i.2.1)]

def itSeen (it : Nat) (w : World) : Nat :=
  match w.heap[it]? with
  | some (.mapIter _ _ seen _) => seen.size
  | _ => 0

theorem St.itOpen {it : Nat} {done : List Nat} (h : St F0 w0 w (MapItA T m it kv done :: L)) :
    ∃ es clock seen, Ents T es clock kv ∧ seen.toList = seenOf es done ∧ (∀ j ∈ done, j < kv.length) ∧ done.Nodup ∧ St F0 w0 w (ObjA m (.map es clock) :: ObjA it (.mapIter (some m) clock seen clock) :: L) := by
  obtain ⟨i, h⟩ := h.ex
  obtain ⟨⟨h1, h2, h3, h4⟩, h⟩ := h.p
  exact ⟨_, _, _, h1, h2, h3, h4, h⟩

theorem St.itSeen {it : Nat} {done : List Nat} (h : St F0 w0 w (MapItA T m it kv done :: L)) : Eng.itSeen it w = done.length := by
  obtain ⟨es, clock, seen, _, h2, _, _, h⟩ := h.itOpen
  unfold Eng.itSeen
  rw [(h.bring 1).obj]
  have := congrArg List.length h2
  simpa [seenOf] using this

theorem St.itMap {it : Nat} {done : List Nat} (h : St F0 w0 w (MapItA T m it kv done :: L)) : St F0 w0 w (MapA T m kv :: L) := by
  obtain ⟨es, clock, seen, h1, h2, _, _, h⟩ := h.itOpen
  exact (h.del 1).mapClose h1

theorem St.mrange (h : St F0 w0 w (MapA T m kv :: L)) {k : Nat → Pr} (hk : ∀ it w', St F0 w0 w' (MapItA T m it kv [] :: L) → k it w') : Eng.mrange (some m) k w := by
  obtain ⟨es, clock, he, h⟩ := h.mapOpen
  refine ⟨es, clock, h.obj, hk _ _ ?_⟩
  have h2 := h.mkobj (.mapIter (some m) clock #[] clock)
  exact St.mkex (f := fun i : Array MapEntry × Nat × Array Nat => [pA (Ents T i.1 i.2.1 kv ∧ i.2.2.toList = seenOf i.1 [] ∧ (∀ j ∈ ([] : List Nat), j < kv.length) ∧ ([] : List Nat).Nodup), ObjA m (.map i.1 i.2.1), ObjA _ (.mapIter (some m) i.2.1 i.2.2 i.2.1)]) (es, clock, #[]) ((h2.bring 1).mkp ⟨he, rfl, by simp, by simp⟩)

theorem seen_mem {es : Array MapEntry} {clock : Nat} (he : Ents T es clock kv) {done : List Nat} (hd : ∀ j ∈ done, j < kv.length) {i : Nat} (hi : i < kv.length) {e : MapEntry} (hie : es.toList[i]? = some e) : e.born ∈ seenOf es done ↔ i ∈ done := by
  have hsz := he.len
  unfold seenOf
  rw [List.mem_map]
  constructor
  · rintro ⟨j, hj, hb⟩
    have hjl := hd j hj
    have hjl3 : j < es.size := by omega
    have hj2 : es[j]? = some es[j] := by simp
    rw [hj2] at hb
    simp only [Option.map_some, Option.getD_some] at hb
    have h1 : (es.toList.map (·.born))[j]? = some e.born := by rw [List.getElem?_map, Array.getElem?_toList, hj2]; simp [hb]
    have h2 : (es.toList.map (·.born))[i]? = some e.born := by rw [List.getElem?_map, hie]; rfl
    have := (List.getElem?_inj (by simpa using (show j < es.size by omega)) he.nod).1 (h1.trans h2.symm)
    subst this
    exact hj
  · intro h
    refine ⟨i, h, ?_⟩
    have : es[i]? = some e := by rw [← Array.getElem?_toList]; exact hie
    rw [this]; rfl

theorem nodup_full : ∀ {n : Nat} {l : List Nat}, l.Nodup → (∀ j ∈ l, j < n) → (∀ j, j < n → j ∈ l) → l.Perm (List.range n) := by
  intro n l h1 h2 h3
  refine (List.perm_ext_iff_of_nodup h1 List.nodup_range).2 fun j => ?_
  rw [List.mem_range]
  exact ⟨h2 j, h3 j⟩

theorem St.mnext {it : Nat} {done : List Nat} {k0 : Pr} {k1 : MapEntry → Pr} (h : St F0 w0 w (MapItA T m it kv done :: L)) (h0 : done.Perm (List.range kv.length) → ∀ w', St F0 w0 w' (MapItA T m it kv done :: L) → k0 w')
    (h1 : ∀ i en w', i < kv.length → i ∉ done → St F0 w0 w' (MapItA T m it kv (done ++ [i]) :: L) → k1 en w') : Eng.mnext ⟨it, 0, none⟩ k0 k1 w := by
  obtain ⟨es, clock, seen, he, hs, hd, hn, st⟩ := h.itOpen
  have hsz := he.len
  refine ⟨rfl, .inr ⟨m, clock, seen, clock, es, clock, (st.bring 1).obj, st.obj, ?_, fun w1 hw1 => ?_⟩⟩
  · cases hes : es.toList with
    | nil =>
      have : es = #[] := by apply Array.ext'; simpa using hes
      simp [this]
    | cons e l =>
      have h1 := he.born e (by rw [hes]; simp)
      have : es.all (fun x => decide (x.born ≥ clock)) = false := by
        rw [← Array.all_toList, hes, List.all_cons, decide_eq_false (by omega), Bool.false_and]
      rw [this, Bool.and_false]
  have st1 : St F0 w0 w1 (ObjA m (.map es clock) :: ObjA it (.mapIter (some m) clock seen clock) :: L) := by rcases hw1 with rfl | rfl; exact st; exact st.drew
  refine ⟨fun hall => h0 ?_ w1 ?_, fun e hes hns => ?_⟩
  · refine nodup_full hn hd fun j hj => ?_
    have hjl3 : j < es.toList.length := by rw [Array.length_toList]; omega
    have hj2 : es.toList[j]? = some es.toList[j] := by simp
    refine (seen_mem he hd hj hj2).1 ?_
    have := hall es.toList[j] (by simp) (he.born _ (by simp))
    rw [← hs, Array.mem_toList_iff, ← Array.contains_iff_mem]
    exact this
  · exact St.mkex (es, clock, seen) (st1.mkp ⟨he, hs, hd, hn⟩)
  · obtain ⟨i, hi, hie⟩ := List.getElem_of_mem hes
    have hie2 : es.toList[i]? = some e := by rw [List.getElem?_eq_getElem hi, hie]
    have hil : i < kv.length := by simpa [hsz] using hi
    have hnd : i ∉ done := fun hc => by
      have h3 := (seen_mem he hd hil hie2).2 hc
      rw [← hs, Array.mem_toList_iff, ← Array.contains_iff_mem, hns] at h3
      cases h3
    refine h1 i e _ hil hnd ?_
    have st2 := ((st1.bring 1).putObj (.mapIter (some m) clock (seen.push e.born) clock)).bring 1
    refine St.mkex (es, clock, seen.push e.born) (st2.mkp ⟨he, ?_, ?_, ?_⟩)
    · rw [Array.toList_push, hs]
      unfold seenOf
      rw [List.map_append]
      have : es[i]? = some e := by rw [← Array.getElem?_toList]; exact hie2
      simp [this]
    · intro j hj
      rcases List.mem_append.1 hj with h4 | h4
      · exact hd j h4
      · rw [List.mem_singleton] at h4; subst h4; exact hil
    · rw [List.nodup_append]
      refine ⟨hn, by simp, fun a ha b hb => ?_⟩
      rw [List.mem_singleton] at hb
      subst hb
      exact fun h => hnd (h ▸ ha)

theorem St.mentry {it : Nat} {done : List Nat} {i : Nat} {k : MapEntry → Pr} (h : St F0 w0 w (MapItA T m it kv (done ++ [i]) :: L)) (hk : ∀ en x, kv[i]? = some x → en.key = T.enc x.1 → en.val = x.2 → k en w) : Eng.mentry ⟨it, 0, none⟩ k w := by
  obtain ⟨es, clock, seen, he, hs, hd, hn, st⟩ := h.itOpen
  have hsz := he.len
  have hil : i < kv.length := hd i (by simp)
  have hil2 : i < es.toList.length := by rw [Array.length_toList]; omega
  have hie : es.toList[i]? = some es.toList[i] := by simp
  have hee : es[i]? = some es.toList[i] := by rw [← Array.getElem?_toList]; exact hie
  have hkv : kv[i]? = some kv[i] := by simp
  have hkve := congrArg (·[i]?) he.kvs
  simp only [List.getElem?_map, hkv, hie, Option.map_some, Option.some.injEq, Prod.mk.injEq] at hkve
  refine ⟨rfl, m, clock, seen, clock, es, clock, es.toList[i].born, es.toList[i], (st.bring 1).obj, ?_, st.obj, rfl, ?_, hk _ _ hkv hkve.1 hkve.2⟩
  · have : seen.back? = seen.toList.getLast? := by simp
    rw [this, hs]
    unfold seenOf
    rw [List.map_append]
    simp [hee]
  · rw [← Array.find?_toList]
    refine find_uniq (List.getElem_mem _) (by simp) fun x hx hb => ?_
    obtain ⟨j, hj, hjx⟩ := List.getElem_of_mem hx
    have h1 : (es.toList.map (·.born))[j]? = some es.toList[i].born := by
      rw [List.getElem?_map, List.getElem?_eq_getElem hj, hjx]
      simp at hb
      simp [hb]
    have h2 : (es.toList.map (·.born))[i]? = some es.toList[i].born := by rw [List.getElem?_map, hie]; rfl
    have := (List.getElem?_inj (by simpa using hj) he.nod).1 (h1.trans h2.symm)
    subst this
    rw [← hjx]
where
  find_uniq {α : Type} {p : α → Bool} {e : α} : ∀ {l : List α}, e ∈ l → p e = true → (∀ x ∈ l, p x = true → x = e) → l.find? p = some e
    | [], h, _, _ => by cases h
    | x :: l, h, hp, hu => by
      rw [List.find?_cons]
      cases hx : p x with
      | true => simp [hu x (by simp) hx]
      | false =>
        rcases List.mem_cons.1 h with rfl | h
        · rw [hp] at hx; cases hx
        · exact find_uniq h hp fun y hy => hu y (by simp [hy])
end
end Go.Eng
