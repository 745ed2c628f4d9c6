import Derived.Test.YtlenkeefncbmcaaEA
import Derived.Laws.Alloc2
import Derived.Laws.Strings
import Derived.RangeFuncBound
set_option linter.unusedVariables false
set_option linter.unusedSimpArgs false
set_option linter.unusedSectionVars false
/-! Words and lemmas for proofs over the shallow forms. -/
namespace Go.Eng

/-! ### addresses -/

@[simp] theorem add_zero' (a : Addr) : a.add 0 = a := by simp [Addr.add]
@[simp] theorem add_block (a : Addr) (n : Nat) : (a.add n).block = a.block := by unfold Addr.add; split <;> rfl
@[simp] theorem add_add (a : Addr) (m n : Nat) : (a.add m).add n = a.add (m + n) := by
  unfold Addr.add
  by_cases hm : m = 0
  · subst hm; simp
  · by_cases hn : n = 0
    · subst hn; simp [hm]
    · simp [hm, hn, Nat.add_assoc]
@[simp] theorem add_mk (b o n : Nat) : (⟨b, o, none⟩ : Addr).add n = ⟨b, o + n, none⟩ := by
  unfold Addr.add
  by_cases hn : n = 0
  · subst hn; simp
  · simp [hn]

/-! ### stepping -/

section
variable {w : World}
@[simp] theorem deref_some (a : Addr) (f : Addr → Pr) : deref (some a) f w = f a w := by simp [deref]
@[simp] theorem nw_def (o : Obj) (f : Nat → Pr) : nw o f w = f w.heap.size (w.alloc o) := rfl
@[simp] theorem br_def (b : Bool) (x y : Pr) : br b x y w = if b = true then x w else y w := rfl
@[simp] theorem owe_def (p : Prop) (f : Pr) : owe p f w = (p ∧ f w) := rfl
@[simp] theorem drw_def (f : Pr) : drw f w = f w.drew := rfl
@[simp] theorem both_def (x y : Pr) : both x y w = (x w ∧ y w) := rfl
@[simp] theorem tru_def : tru w = True := rfl
@[simp] theorem fls_def : fls w = False := rfl

theorem ldC_of {s : CS} {a : Addr} {p : PayC s} {f : PayC s → Pr} (h : w.cell? a = some (valC s p)) (hf : f p w) : ldC s a f w := ⟨p, h, hf⟩
theorem ldA_of {l : List CS} {a : Addr} {p : PayA l} {f : PayA l → Pr} (h : readsAt w a 0 (valA l p)) (hf : f p w) : ldA l a f w := ⟨p, h, hf⟩
theorem st_of {a : Addr} {v u : Value} {f : Pr} (hv : NotAgg v) (h : w.cell? a = some u) (hz : w.frozen? a = false) (hf : f (w.setCell a v)) : st a v f w := ⟨hv, by rw [h]; rfl, hz, hf⟩
theorem br_of {b : Bool} {x y : Pr} (h1 : b = true → x w) (h2 : b = false → y w) : br b x y w := by
  cases b with
  | true => simpa using h1 rfl
  | false => simpa using h2 rfl
theorem br_t {b : Bool} {x y : Pr} (hb : b = true) (h : x w) : br b x y w := by rw [br_def, if_pos hb]; exact h
theorem br_f {b : Bool} {x y : Pr} (hb : b = false) (h : y w) : br b x y w := by rw [br_def, if_neg (by simp [hb])]; exact h
theorem jn_of {S : Type} {f : (S → Pr) → Pr} {k : S → Pr} (R : S → Pr) (h : f R w) (hk : ∀ s w', R s w' → k s w') : jn f k w := ⟨R, h, hk⟩
theorem loop_of {S : Type} {G : (S → Pr) → S → Pr} {s : S} (I : S → Pr) (μ : S → World → Nat) (h0 : I s w) (h : ∀ s w, I s w → G (fun s' w' => I s' w' ∧ μ s' w' < μ s w) s w) : loopE G s w := ⟨I, μ, h0, h⟩
theorem callF_of {P : Program} {f : FuncId} {args : List Value} {shs : List Sh} {k : PayL shs → Pr} {post : PayL shs → Pr} (h : Calls P f args.toArray w (RetT shs post)) (hk : ∀ r w', post r w' → k r w') : callF P f args shs k w :=
  h.mono fun _ _ ⟨p, he, hp⟩ => ⟨p, he, hk _ _ hp⟩
end

@[simp] theorem valC_int (k : IntKind) (n : Int) : valC (.int k) n = .int k n := rfl
@[simp] theorem valC_bool (b : Bool) : valC .bool b = .bool b := rfl
@[simp] theorem valC_ptr (p : Option Addr) : valC .ptr p = .pointer p := rfl
@[simp] theorem valC_slice (s : Sl) : valC .slice s = .slice s.a s.len s.cap := rfl
@[simp] theorem valC_map (r : Option Nat) : valC .map r = .map r := rfl
@[simp] theorem valC_any (v : Value) : valC .any v = v := rfl
@[simp] theorem valC_str (v : ByteArray) : valC .str v = .string v := rfl
@[simp] theorem NotAgg_int (k : IntKind) (n : Int) : NotAgg (.int k n) = True := rfl
@[simp] theorem NotAgg_bool (b : Bool) : NotAgg (.bool b) = True := rfl
@[simp] theorem NotAgg_ptr (p : Option Addr) : NotAgg (.pointer p) = True := rfl
@[simp] theorem NotAgg_slice (a : Option Addr) (l c : Nat) : NotAgg (.slice a l c) = True := rfl
@[simp] theorem NotAgg_map (r : Option Nat) : NotAgg (.map r) = True := rfl
@[simp] theorem NotAgg_func (f : Fn) (x y : Array Value) : NotAgg (.func f x y) = True := rfl

/-! ### what may have changed -/

structure Mod (S : Nat → Prop) (w w' : World) : Prop where
  size : w.heap.size ≤ w'.heap.size
  same : ∀ b, b < w.heap.size → ¬ S b → w'.heap[b]? = w.heap[b]?
  rest : w'.os = w.os ∧ w'.tape = w.tape ∧ w'.output = w.output

abbrev Grow : World → World → Prop := Mod fun _ => False

section
variable {S T : Nat → Prop} {w w1 w2 : World}
theorem Mod.refl (S : Nat → Prop) (w : World) : Mod S w w := ⟨Nat.le_refl _, fun _ _ _ => rfl, rfl, rfl, rfl⟩
theorem Mod.trans (h : Mod S w w1) (h' : Mod T w1 w2) (hT : ∀ b, b < w.heap.size → T b → S b) : Mod S w w2 :=
  ⟨Nat.le_trans h.size h'.size, fun b hb hs => (h'.same b (Nat.lt_of_lt_of_le hb h.size) fun ht => hs (hT b hb ht)).trans (h.same b hb hs), h'.rest.1.trans h.rest.1, h'.rest.2.1.trans h.rest.2.1, h'.rest.2.2.trans h.rest.2.2⟩
theorem Mod.mono (h : Mod S w w1) (hT : ∀ b, b < w.heap.size → S b → T b) : Mod T w w1 := ⟨h.size, fun b hb hs => h.same b hb fun ht => hs (hT b hb ht), h.rest⟩
theorem Grow.trans (h : Grow w w1) (h' : Grow w1 w2) : Grow w w2 := Mod.trans h h' fun _ _ h => h
theorem Grow.mod (h : Grow w w1) : Mod S w w1 := h.mono fun _ _ h => h.elim
theorem Mod.alloc (h : Mod S w w1) (o : Obj) : Mod S w (w1.alloc o) :=
  ⟨by have := h.size; simp; omega, fun b hb hs => by
    rw [← h.same b hb hs]
    have : b < w1.heap.size := Nat.lt_of_lt_of_le hb h.size
    show (w1.heap.push o)[b]? = w1.heap[b]?
    rw [Array.getElem?_push, if_neg (Nat.ne_of_lt this)], h.rest⟩
theorem Mod.drew (h : Mod S w w1) : Mod S w w1.drew := ⟨h.size, h.same, h.rest⟩
theorem heap_setCell_ne (w : World) {a : Addr} {v : Value} {b : Nat} (hb : a.block ≠ b) : (w.setCell a v).heap[b]? = w.heap[b]? := by
  simp [World.setCell, Array.getElem?_modify, hb]
theorem Mod.setCell (h : Mod S w w1) {a : Addr} {v : Value} (ha : S a.block ∨ w.heap.size ≤ a.block) : Mod S w (w1.setCell a v) :=
  ⟨by have := h.size; simpa using this, fun b hb hs => by
    rw [← h.same b hb hs]
    refine heap_setCell_ne w1 ?_
    rintro rfl
    rcases ha with ha | ha
    · exact hs ha
    · omega, h.rest⟩
theorem Mod.putObj (h : Mod S w w1) {b : Nat} {o : Obj} (ha : S b ∨ w.heap.size ≤ b) : Mod S w { w1 with heap := w1.heap.setIfInBounds b o } :=
  ⟨by have := h.size; simpa using this, fun c hc hs => by
    rw [← h.same c hc hs]
    have hne : b ≠ c := by
      rintro rfl
      rcases ha with ha | ha
      · exact hs ha
      · omega
    simp [Array.getElem?_setIfInBounds_ne hne], h.rest⟩

theorem cell_of_heap {w w' : World} {a : Addr} (h : w'.heap[a.block]? = w.heap[a.block]?) : w'.cell? a = w.cell? a := by
  simp only [World.cell?, h]
theorem frozen_of_heap {w w' : World} {a : Addr} (h : w'.heap[a.block]? = w.heap[a.block]?) : w'.frozen? a = w.frozen? a := by
  simp only [World.frozen?, h]
end

/-! ### rows of cells -/

theorem readsAt_iff {w : World} {a : Addr} : ∀ {vs : List Value} {i : Nat}, readsAt w a i vs ↔ ∀ j v, vs[j]? = some v → w.cell? (a.add (i + j)) = some v
  | [], i => by simp [readsAt]
  | x :: vs, i => by
    simp only [readsAt, readsAt_iff (vs := vs)]
    constructor
    · rintro ⟨h1, h2⟩ j v hj
      cases j with
      | zero => simp only [List.getElem?_cons_zero, Option.some.injEq] at hj; subst hj; exact h1
      | succ j => have := h2 j v (by simpa using hj); rwa [show i + 1 + j = i + (j + 1) by omega] at this
    · intro h
      refine ⟨by simpa using h 0 x rfl, fun j v hj => ?_⟩
      have := h (j + 1) v (by simpa using hj)
      rwa [show i + (j + 1) = i + 1 + j by omega] at this

/-- cells in a row from a on -/
def Row (w : World) (a : Addr) (vs : List Value) : Prop := ∀ j v, vs[j]? = some v → w.cell? (a.add j) = some v

theorem readsAt_row {w : World} {a : Addr} {vs : List Value} : readsAt w a 0 vs ↔ Row w a vs := by
  rw [readsAt_iff]; simp [Row]

theorem readsAt_row' {w : World} {a : Addr} {vs : List Value} {i : Nat} : readsAt w a i vs ↔ Row w (a.add i) vs := by
  rw [readsAt_iff]; simp [Row]

theorem Row.get {w : World} {a : Addr} {vs : List Value} (h : Row w a vs) {j : Nat} {v : Value} (hj : vs[j]? = some v) : w.cell? (a.add j) = some v := h j v hj
theorem Row.nil (w : World) (a : Addr) : Row w a [] := fun j v h => by simp at h
theorem Row.append {w : World} {a : Addr} {vs us : List Value} : Row w a (vs ++ us) ↔ Row w a vs ∧ Row w (a.add vs.length) us := by
  constructor
  · intro h
    refine ⟨fun j v hj => h j v ?_, fun j v hj => ?_⟩
    · have hlt : j < vs.length := by
        rcases Nat.lt_or_ge j vs.length with h' | h'
        · exact h'
        · rw [List.getElem?_eq_none h'] at hj; cases hj
      rw [List.getElem?_append_left hlt]; exact hj
    · rw [add_add]
      refine h _ v ?_
      rw [List.getElem?_append_right (by omega)]
      simpa using hj
  · rintro ⟨h1, h2⟩ j v hj
    rcases Nat.lt_or_ge j vs.length with h' | h'
    · exact h1 j v (by rwa [List.getElem?_append_left h'] at hj)
    · rw [List.getElem?_append_right h'] at hj
      have := h2 _ v hj
      rwa [add_add, show vs.length + (j - vs.length) = j by omega] at this
theorem Row.take {w : World} {a : Addr} {vs : List Value} (h : Row w a vs) (n : Nat) : Row w a (vs.take n) := fun j v hj => by
  rw [List.getElem?_take] at hj
  split at hj
  · exact h j v hj
  · cases hj
theorem Row.drop {w : World} {a : Addr} {vs : List Value} (h : Row w a vs) (n : Nat) : Row w (a.add n) (vs.drop n) := fun j v hj => by
  rw [add_add]
  exact h _ v (by rwa [List.getElem?_drop] at hj)
theorem Row.of_heap {w w' : World} {a : Addr} {vs : List Value} (h : Row w a vs) (he : w'.heap[a.block]? = w.heap[a.block]?) : Row w' a vs := fun j v hj => by
  rw [cell_of_heap (w := w) (by simpa using he)]; exact h j v hj
theorem Row.block_lt {w : World} {a : Addr} {vs : List Value} (h : Row w a vs) (hne : vs ≠ []) : a.block < w.heap.size := by
  cases vs with
  | nil => exact absurd rfl hne
  | cons v vs => have := World.block_lt_of_cell? w _ (h 0 v rfl); simpa using this
theorem Row.mod {S : Nat → Prop} {w w' : World} {a : Addr} {vs : List Value} (h : Row w a vs) (hm : Mod S w w') (hs : ¬ S a.block) : Row w' a vs := by
  by_cases hv : vs = []
  · subst hv; exact Row.nil _ _
  · exact h.of_heap (hm.same _ (h.block_lt hv) hs)

/-- the cells of a slice -/
def RowO (w : World) (a : Option Addr) (vs : List Value) : Prop := readsO w a vs

theorem RowO.some {w : World} {a : Addr} {vs : List Value} : readsO w (some a) vs ↔ Row w a vs := readsAt_row


theorem exS {p : Sl → Prop} {a : Option Addr} {l c : Nat} : (∃ s : Sl, (a = s.a ∧ l = s.len ∧ c = s.cap) ∧ p s) ↔ p ⟨a, l, c⟩ := by
  constructor
  · rintro ⟨⟨a', l', c'⟩, ⟨rfl, rfl, rfl⟩, h⟩; exact h
  · intro h; exact ⟨⟨a, l, c⟩, ⟨rfl, rfl, rfl⟩, h⟩

@[simp] theorem Sl.eta (s : Sl) : (⟨s.a, s.len, s.cap⟩ : Sl) = s := rfl

@[simp] theorem setCell_new (w : World) (c : Array Value) (t : TypeId) (i : Nat) (v : Value) : (w.alloc (.cells c t)).setCell ⟨w.heap.size, i, none⟩ v = w.alloc (.cells (c.setIfInBounds i v) t) :=
  World.setCell_alloc_new (w := w) c t i v

@[simp] theorem heap_alloc_new (w : World) (o : Obj) : (w.alloc o).heap[w.heap.size]? = some o := by
  show (w.heap.push o)[w.heap.size]? = some o
  simp

theorem heap_alloc_lt {w : World} {o : Obj} {b : Nat} (h : b < w.heap.size) : (w.alloc o).heap[b]? = w.heap[b]? := by
  show (w.heap.push o)[b]? = w.heap[b]?
  rw [Array.getElem?_push, if_neg (Nat.ne_of_lt h)]

@[simp] theorem heap_drew (w : World) : w.drew.heap = w.heap := rfl

/-! ### integers -/

theorem wrap_i64 {n : Int} (h : -9223372036854775808 ≤ n ∧ n ≤ 9223372036854775807) : IntKind.wrap .i64 n = n := by
  simp only [IntKind.wrap, IntKind.signed, IntKind.bits]
  simp
  omega

theorem wrap_u8 {n : Int} (h : 0 ≤ n ∧ n ≤ 255) : IntKind.wrap .u8 n = n := by
  simp only [IntKind.wrap, IntKind.signed, IntKind.bits]
  simp
  omega

end Go.Eng

/-! Slices: what they hold, what is owned; the built-ins over them. -/
namespace Go.Eng

def ub (b : UInt8) : Value := .int .u8 (b.toNat : Int)

theorem ub_inj {a b : UInt8} (h : ub a = ub b) : a = b := by
  simp only [ub, Value.int.injEq, true_and] at h
  exact UInt8.toNat_inj.1 (by omega)

/-- a slice of bytes reads as l -/
structure BS (w : World) (s : Sl) (l : List UInt8) : Prop where
  len : s.len = l.length
  row : readsO w s.a (l.map ub)

section
variable {w w' w1 : World} {s x : Sl} {l : List UInt8}

theorem readsO_row {a : Option Addr} {vs : List Value} (h : ∀ ad, a = some ad → Row w ad vs) (h0 : a = none → vs = []) : readsO w a vs := by
  cases a with
  | none => exact h0 rfl
  | some ad => exact readsAt_row.2 (h ad rfl)

theorem readsO.row {ad : Addr} {vs : List Value} (h : readsO w (some ad) vs) : Row w ad vs := readsAt_row.1 h

theorem readsO.of_heap {a : Option Addr} {vs : List Value} (h : readsO w a vs) (he : ∀ ad, a = some ad → vs ≠ [] → w'.heap[ad.block]? = w.heap[ad.block]?) : readsO w' a vs := by
  cases a with
  | none => exact h
  | some ad =>
    by_cases hv : vs = []
    · subst hv; exact readsAt_row.2 (Row.nil _ _)
    · exact readsAt_row.2 ((readsAt_row.1 h).of_heap (he ad rfl hv))

theorem readsO.mod {S : Nat → Prop} {a : Option Addr} {vs : List Value} (h : readsO w a vs) (hm : Mod S w w') (hs : ∀ ad, a = some ad → vs ≠ [] → ¬ S ad.block) : readsO w' a vs := by
  cases a with
  | none => exact h
  | some ad =>
    by_cases hv : vs = []
    · subst hv; exact readsAt_row.2 (Row.nil _ _)
    · exact readsAt_row.2 ((readsAt_row.1 h).mod hm (hs ad rfl hv))

theorem readsO.grow {a : Option Addr} {vs : List Value} (h : readsO w a vs) (hm : Grow w w') : readsO w' a vs := h.mod hm fun _ _ _ h => h

theorem readsO.lt {ad : Addr} {vs : List Value} (h : readsO w (some ad) vs) (hv : vs ≠ []) : ad.block < w.heap.size := (readsAt_row.1 h).block_lt hv

theorem BS.grow (h : BS w s l) (hm : Grow w w') : BS w' s l := ⟨h.len, h.row.grow hm⟩
theorem BS.mod {S : Nat → Prop} (h : BS w s l) (hm : Mod S w w') (hs : ∀ ad, s.a = some ad → l ≠ [] → ¬ S ad.block) : BS w' s l :=
  ⟨h.len, h.row.mod hm fun ad ha hv => hs ad ha (by simpa using hv)⟩
theorem BS.nil (w : World) (c : Nat) : BS w ⟨none, 0, c⟩ [] := ⟨rfl, rfl⟩

theorem BS.get (h : BS w s l) {j : Nat} {b : UInt8} (hj : l[j]? = some b) : ∃ ad, s.a = some ad ∧ w.cell? (ad.add j) = some (ub b) := by
  obtain ⟨h1, h2⟩ := h
  cases ha : s.a with
  | none =>
    rw [ha] at h2
    have : l.map ub = [] := h2
    simp at this
    subst this
    simp at hj
  | some ad =>
    rw [ha] at h2
    exact ⟨ad, rfl, (readsAt_row.1 h2).get (by simp [hj])⟩

/-- no cell of the block is shared with a string -/
def Unf (w : World) (b : Nat) : Prop := ∀ o, w.frozen? ⟨b, o, none⟩ = false

theorem Unf.add {b : Nat} (h : Unf w b) {a : Addr} (ha : a.block = b) (hs : a.spot = none) (n : Nat) : w.frozen? (a.add n) = false := by
  obtain ⟨b', o, sp⟩ := a
  dsimp only at ha hs
  subst ha hs
  rw [add_mk]
  exact h _

/-! ### writing a row -/

theorem Row.setCell_ne {a c : Addr} {v : Value} {vs : List Value} (h : Row w a vs) (hne : ∀ j, j < vs.length → c ≠ a.add j) : Row w (a) vs → Row (w.setCell c v) a vs := fun _ j u hj => by
  rw [World.cell?_setCell_other]
  · exact h j u hj
  · refine hne j ?_
    rcases Nat.lt_or_ge j vs.length with h' | h'
    · exact h'
    · rw [List.getElem?_eq_none h'] at hj; cases hj

theorem add_inj {a : Addr} (hs : a.spot = none) {i j : Nat} (h : a.add i = a.add j) : i = j := by
  obtain ⟨b, o, sp⟩ := a
  dsimp only at hs
  subst hs
  rw [add_mk, add_mk] at h
  simp at h
  exact h

/-- one cell of a row is written -/
theorem Row.set {a : Addr} {vs : List Value} (h : Row w a vs) (hs : a.spot = none) {i : Nat} {v : Value} : Row (w.setCell (a.add i) v) a (vs.set i v) := fun j u hj => by
  rw [List.getElem?_set] at hj
  by_cases hij : i = j
  · subst hij
    simp only [if_true] at hj
    split at hj
    · rename_i hlt
      simp only [Option.some.injEq] at hj
      subst hj
      have h0 := h i vs[i] (by simp [hlt])
      exact World.cell?_setCell_same _ _ _ h0
    · cases hj
  · rw [if_neg hij] at hj
    rw [World.cell?_setCell_other]
    · exact h j u hj
    · exact fun he => hij (add_inj hs he)

theorem stL_shift {a : Addr} {m : Nat} {k : Pr} : ∀ {l : List Value} {i : Nat}, stL (a.add m) i l k = stL a (m + i) l k
  | [], _ => rfl
  | v :: l, i => by simp only [stL, add_add, stL_shift (l := l), Nat.add_assoc]

theorem stL_of {a : Addr} {k : Pr} (hs : a.spot = none) : ∀ {new : List Value} {i : Nat} {vs : List Value} {w : World}, Row w a vs → i + new.length ≤ vs.length → (∀ v ∈ new, NotAgg v) → Unf w a.block →
    (∀ w', Row w' a (vs.take i ++ new ++ vs.drop (i + new.length)) → Mod (· = a.block) w w' → w'.heap.size = w.heap.size → (∀ b, Unf w b → Unf w' b) → k w') → stL a i new k w
  | [], i, vs, w, hr, hl, hn, hu, hk => hk w (by simpa using hr) (Mod.refl _ _) rfl (fun _ h => h)
  | v :: new, i, vs, w, hr, hl, hn, hu, hk => by
    simp only [List.length_cons] at hl
    have hlt : i < vs.length := by omega
    refine st_of (u := vs[i]) (hn v (by simp)) (hr i _ (by simp [hlt])) (hu.add rfl hs i) ?_
    refine stL_of hs (vs := vs.set i v) (hr.set hs) (by simp; omega) (fun u hu => hn u (by simp [hu])) (fun o => by rw [World.frozen?_setCell]; exact hu o) ?_
    intro w' h1 h2 h3 h4
    refine hk w' ?_ (((Mod.refl _ w).setCell (.inl (by simp))).trans h2 fun _ _ h => h) (by simpa using h3) (fun b hb => h4 b (fun o => by rw [World.frozen?_setCell]; exact hb o))
    have e1 : (vs.set i v).take (i + 1) = vs.take i ++ [v] := by
      rw [List.take_add_one]
      simp [List.take_set_of_le, hlt]
    have e2 : (vs.set i v).drop (i + 1 + new.length) = vs.drop (i + (new.length + 1)) := by
      rw [List.drop_set_of_lt (by omega)]
      congr 1; omega
    rw [e1, e2] at h1
    simpa using h1

/-! ### owned slices -/

/-- a slice whose array was made at or behind block n0, that may be written, of elements of n cells -/
structure OwnS (w : World) (n0 n : Nat) (s : Sl) (vs : List Value) : Prop where
  len : vs.length = s.len * n
  le : s.len ≤ s.cap
  row : (s.a = none ∧ s.len = 0 ∧ s.cap = 0) ∨ ∃ b off spare, s.a = some ⟨b, off, none⟩ ∧ n0 ≤ b ∧ b < w.heap.size ∧ Unf w b ∧ Row w ⟨b, off, none⟩ (vs ++ spare) ∧ (vs ++ spare).length = s.cap * n

theorem OwnS.nil (w : World) (n0 n : Nat) : OwnS w n0 n ⟨none, 0, 0⟩ [] := ⟨by simp, by simp, .inl ⟨rfl, rfl, rfl⟩⟩

theorem OwnS.reads {n0 n : Nat} {vs : List Value} (h : OwnS w n0 n s vs) : readsO w s.a vs := by
  rcases h.row with ⟨h1, h2, h3⟩ | ⟨b, off, spare, h1, _, _, _, h2, _⟩
  · rw [h1]
    have := h.len
    rw [h2] at this
    simp at this
    exact this
  · rw [h1]; exact readsAt_row.2 (Row.append.1 h2).1

theorem OwnS.some_len {n0 n : Nat} {vs : List Value} (h : OwnS w n0 n s vs) : s.a.isSome = true → vs.length = s.len * n := fun _ => h.len

theorem Unf.of_heap {b : Nat} (h : Unf w b) (he : w'.heap[b]? = w.heap[b]?) : Unf w' b := fun o => by
  rw [frozen_of_heap (w := w) he]; exact h o

theorem OwnS.mod {S : Nat → Prop} {n0 n : Nat} {vs : List Value} (h : OwnS w n0 n s vs) (hm : Mod S w w') (hs : ∀ ad, s.a = some ad → ¬ S ad.block) : OwnS w' n0 n s vs := by
  refine ⟨h.len, h.le, ?_⟩
  rcases h.row with h1 | ⟨b, off, spare, h1, h2, h3, h4, h5, h6⟩
  · exact .inl h1
  · have hsb : ¬ S b := hs _ h1
    exact .inr ⟨b, off, spare, h1, h2, Nat.lt_of_lt_of_le h3 hm.size, h4.of_heap (hm.same b h3 hsb), h5.of_heap (hm.same b h3 hsb), h6⟩

theorem OwnS.grow {n0 n : Nat} {vs : List Value} (h : OwnS w n0 n s vs) (hm : Grow w w') : OwnS w' n0 n s vs := h.mod hm fun _ _ h => h

theorem OwnS.le_block {n0 n : Nat} {vs : List Value} (h : OwnS w n0 n s vs) {ad : Addr} (ha : s.a = some ad) : n0 ≤ ad.block ∧ ad.block < w.heap.size ∧ ad.spot = none ∧ Unf w ad.block := by
  rcases h.row with ⟨h1, _⟩ | ⟨b, off, spare, h1, h2, h3, h4, _⟩
  · rw [h1] at ha; cases ha
  · rw [h1] at ha; simp only [Option.some.injEq] at ha; subst ha; exact ⟨h2, h3, rfl, h4⟩

theorem OwnS.weaken {n0 n1 n : Nat} {vs : List Value} (h : OwnS w n0 n s vs) (hn : n1 ≤ n0) : OwnS w n1 n s vs := by
  refine ⟨h.len, h.le, ?_⟩
  rcases h.row with h1 | ⟨b, off, spare, h1, h2, rest⟩
  · exact .inl h1
  · exact .inr ⟨b, off, spare, h1, Nat.le_trans hn h2, rest⟩

/-- the blocks of a slice -/
def Sl.blk (s : Sl) (b : Nat) : Prop := ∃ ad, s.a = some ad ∧ ad.block = b

theorem growBy_le (n : Nat) : ∀ (r c m : Nat), c ≤ m → n ≤ m → Builtin.growBy n r c ≤ m + (m + 768) / 4
  | 0, c, m, hc, _ => by simp only [Builtin.growBy]; omega
  | r + 1, c, m, hc, hn => by
    simp only [Builtin.growBy]
    split
    · omega
    · rename_i hlt
      by_cases h2 : c + (c + 768) / 4 ≤ m
      · exact growBy_le n r _ m h2 hn
      · -- the next round stops at once
        cases r with
        | zero => simp only [Builtin.growBy]; omega
        | succ r =>
          simp only [Builtin.growBy]
          rw [if_pos (by omega)]
          omega

theorem nextslicecap_le {n c : Nat} (h : c < n) : Builtin.nextslicecap n c ≤ 2 * n + 192 := by
  unfold Builtin.nextslicecap
  split
  · omega
  · split
    · omega
    · have := growBy_le n 4 c n (by omega) (Nat.le_refl _)
      omega

theorem zc_length (z : List Value) (n : Nat) : (zc z n).length = n * z.length := by simp [zc]

/-- append onto an owned slice -/
theorem app_own2 {E n b n0 : Nat} {z : List Value} {vs new : List Value} {k : Sl → Pr} (h : OwnS w n0 n s vs) (hn0 : n0 ≤ w.heap.size) (hxl : x.a.isSome = true → new.length = x.len * n) (hx0 : x.a = none → x.len = 0) (hx : readsO w x.a new)
    (hna : ∀ v ∈ new, NotAgg v) (hz : z.length = n) (hb : b ≠ 0) (hbd : (2 * (s.len + x.len) + 192) * b ≤ 2 ^ 48)
    (hk : ∀ r w', OwnS w' n0 n r (vs ++ new) → r.len = s.len + x.len → (s.a.isSome = true ∨ 0 < x.len → r.a.isSome = true) → (s.a = none → x.len = 0 → r.a = none) → Mod s.blk w w' → (∀ b, r.blk b → s.blk b ∨ w.heap.size ≤ b) → k r w') : app E n b z s x k w := by
  have hnl : new.length = x.len * n := by
    cases hxa : x.a with
    | some _ => exact hxl (by simp [hxa])
    | none =>
      rw [hxa] at hx
      have : new = [] := hx
      rw [this, hx0 hxa]; simp
  refine ⟨new, fun _ => hnl, hx, ?_, ?_⟩
  · intro hroom
    rcases h.row with ⟨h1, h2, h3⟩ | ⟨bb, off, spare, h1, h2, h3, h4, h5, h6⟩
    · rw [h1]
      have hx00 : x.len = 0 := by omega
      have hnew : new = [] := by
        apply List.eq_nil_of_length_eq_zero
        rw [hnl, hx00]; simp
      refine hk _ _ ?_ rfl ?_ ?_ (Mod.refl _ _) ?_
      · rw [hnew, List.append_nil]
        exact ⟨by simp [h.len, hx00], by simp; omega, .inl ⟨by simp, by simp; omega, h3⟩⟩
      · rintro (h | h)
        · simp [h1] at h
        · omega
      · intro _ _; rfl
      · rintro b ⟨ad, hh, _⟩; cases hh
    · rw [h1]
      have hlen := h.len
      have hspl : (vs ++ spare).length = vs.length + spare.length := List.length_append
      have hle : s.len * n + new.length ≤ (vs ++ spare).length := by
        rw [hnl, h6, ← Nat.add_mul]
        exact Nat.mul_le_mul_right n hroom
      show stL _ 0 new _ w
      rw [stL_shift, Nat.add_zero, ← hlen]
      refine stL_of rfl h5 (by rw [hlen]; exact hle) hna h4 ?_
      intro w' g1 g2 g3 g4
      have e1 : (vs ++ spare).take vs.length = vs := by simp
      have e2 : (vs ++ spare).drop (vs.length + new.length) = spare.drop new.length := by
        rw [List.drop_append, List.drop_eq_nil_of_le (by omega), List.nil_append]
        congr 1; omega
      rw [e1, e2] at g1
      refine hk _ _ ⟨?_, hroom, .inr ⟨bb, off, spare.drop new.length, rfl, h2, by rw [g3]; exact h3, g4 _ h4, g1, ?_⟩⟩ rfl ?_ ?_ ?_ ?_
      · rw [List.length_append, hlen, hnl, Nat.add_mul]
      · simp only [List.length_append, List.length_drop] at *
        omega
      · intro _; rfl
      · intro h; rw [h1] at h; cases h
      · exact g2.mono fun c _ hc => ⟨_, h1, hc.symm⟩
      · rintro c ⟨ad, hh, hc⟩
        simp only [Option.some.injEq] at hh
        exact .inl ⟨_, h1, by rw [← hc, ← hh]⟩
  · intro hgrow
    have hold := h.reads
    refine ⟨vs, fun _ => h.len, hold, hb, ?_, ?_, ?_⟩
    · exact Nat.le_trans (Nat.mul_le_mul_right b (nextslicecap_le hgrow)) hbd
    · have : (2 * (s.len + x.len) + 192) * 1 ≤ (2 * (s.len + x.len) + 192) * b := Nat.mul_le_mul_left _ (by omega)
      omega
    · intro cap hc1 hc2
      have hl : (vs ++ new ++ zc z (cap - (s.len + x.len))).length = cap * n := by
        simp only [List.length_append, zc_length, h.len, hnl, hz]
        rw [← Nat.add_mul, ← Nat.add_mul]
        congr 1; omega
      refine hk _ _ ⟨?_, hc1, .inr ⟨w.heap.size, 0, zc z (cap - (s.len + x.len)), rfl, hn0, ?_, ?_, ?_, hl⟩⟩ rfl (fun _ => rfl) ?_ ((Mod.refl _ w).drew.alloc _) ?_
      · simp only [List.length_append, h.len, hnl, Nat.add_mul]
      · simp
      · intro o
        exact World.frozen?_alloc_new w.drew _ E o
      · intro j v hj
        rw [add_mk, Nat.zero_add]
        have := World.cell?_alloc_new w.drew (vs ++ new ++ zc z (cap - (s.len + x.len))).toArray E j
        rw [World.size_drew] at this
        rw [this]
        simpa using hj
      · intro hsa hx0'
        exfalso
        rcases h.row with ⟨_, g2, g3⟩ | ⟨bb, _, _, g1, _⟩
        · omega
        · rw [g1] at hsa; cases hsa
      · rintro c ⟨ad, hh, hc⟩
        simp only [Option.some.injEq] at hh
        refine .inr ?_
        rw [← hc, ← hh]
        exact Nat.le_refl _

theorem app_own {E n b n0 : Nat} {z : List Value} {vs new : List Value} {k : Sl → Pr} (h : OwnS w n0 n s vs) (hn0 : n0 ≤ w.heap.size) (hxl : x.a.isSome = true → new.length = x.len * n) (hx0 : x.a = none → x.len = 0) (hx : readsO w x.a new)
    (hna : ∀ v ∈ new, NotAgg v) (hz : z.length = n) (hb : b ≠ 0) (hbd : (2 * (s.len + x.len) + 192) * b ≤ 2 ^ 48)
    (hk : ∀ r w', OwnS w' n0 n r (vs ++ new) → r.len = s.len + x.len → (s.a.isSome = true ∨ 0 < x.len → r.a.isSome = true) → (s.a = none → x.len = 0 → r.a = none) → Mod s.blk w w' → k r w') : app E n b z s x k w :=
  app_own2 h hn0 hxl hx0 hx hna hz hb hbd fun r w' h1 h2 h3 h4 h5 _ => hk r w' h1 h2 h3 h4 h5
end
end Go.Eng

/-! Slices of structs; bytes as strings. -/
namespace Go.Eng

theorem flatMap_row {α : Type} {f : α → List Value} {n : Nat} (hf : ∀ r, (f r).length = n) : ∀ {rs : List α} {w : World} {a : Addr}, Row w a (rs.flatMap f) ↔ ∀ i r, rs[i]? = some r → Row w (a.add (i * n)) (f r)
  | [], w, a => by simp [Row.nil]
  | x :: rs, w, a => by
    rw [List.flatMap_cons, Row.append, flatMap_row hf (rs := rs), hf]
    constructor
    · rintro ⟨h1, h2⟩ i r hi
      cases i with
      | zero => simp only [List.getElem?_cons_zero, Option.some.injEq] at hi; subst hi; simpa using h1
      | succ i =>
        have := h2 i r (by simpa using hi)
        rwa [add_add, show n + i * n = (i + 1) * n by rw [Nat.add_mul]; omega] at this
    · intro h
      refine ⟨by simpa using h 0 x rfl, fun i r hi => ?_⟩
      have := h (i + 1) r (by simpa using hi)
      rwa [show (i + 1) * n = n + i * n by rw [Nat.add_mul]; omega, ← add_add] at this

theorem flatMap_len {α : Type} {f : α → List Value} {n : Nat} (hf : ∀ r, (f r).length = n) (rs : List α) : (rs.flatMap f).length = rs.length * n := by
  induction rs with
  | nil => simp
  | cons x rs ih => rw [List.flatMap_cons, List.length_append, ih, hf, List.length_cons, Nat.add_mul]; omega

/-- a slice whose elements' cells are f of rs -/
structure SS {α : Type} (f : α → List Value) (w : World) (s : Sl) (rs : List α) : Prop where
  len : s.len = rs.length
  row : readsO w s.a (rs.flatMap f)

section
variable {α : Type} {f : α → List Value} {n : Nat} {w w' : World} {s : Sl} {rs : List α}

theorem SS.get (hf : ∀ r, (f r).length = n) (h : SS f w s rs) {i : Nat} {r : α} (hi : rs[i]? = some r) (hn : n ≠ 0) : ∃ ad, s.a = some ad ∧ Row w (ad.add (i * n)) (f r) := by
  obtain ⟨h1, h2⟩ := h
  cases ha : s.a with
  | none =>
    rw [ha] at h2
    have h3 : rs.flatMap f = [] := h2
    have h4 := flatMap_len hf rs
    rw [h3] at h4
    simp only [List.length_nil] at h4
    have : rs.length = 0 := (Nat.mul_eq_zero.1 h4.symm).resolve_right hn
    have : rs = [] := List.eq_nil_of_length_eq_zero this
    subst this
    simp at hi
  | some ad =>
    rw [ha] at h2
    exact ⟨ad, rfl, (flatMap_row hf).1 (readsAt_row.1 h2) i r hi⟩
theorem SS.grow (h : SS f w s rs) (hm : Grow w w') : SS f w' s rs := ⟨h.len, h.row.grow hm⟩
theorem SS.mod {S : Nat → Prop} (h : SS f w s rs) (hm : Mod S w w') (hs : ∀ ad, s.a = some ad → ¬ S ad.block) : SS f w' s rs := ⟨h.len, h.row.mod hm fun ad ha _ => hs ad ha⟩
theorem SS.nil (w : World) (c : Nat) : SS f w ⟨none, 0, c⟩ [] := ⟨rfl, rfl⟩
theorem SS.none_len (hf : ∀ r, (f r).length = n) (hn : n ≠ 0) (h : SS f w s rs) (ha : s.a = none) : s.len = 0 := by
  rw [h.len]
  have h2 := h.row
  rw [ha] at h2
  have h3 : rs.flatMap f = [] := h2
  have h4 := flatMap_len hf rs
  rw [h3] at h4
  simp only [List.length_nil] at h4
  exact (Nat.mul_eq_zero.1 h4.symm).resolve_right hn
end

theorem BS.none_len {w : World} {s : Sl} {l : List UInt8} (h : BS w s l) (ha : s.a = none) : s.len = 0 := by
  have h2 := h.row
  rw [ha] at h2
  have : l.map ub = [] := h2
  simp at this
  rw [h.len, this]; rfl

/-! ### bytes as a string -/

def bytesOf (l : List UInt8) : ByteArray := ⟨l.toArray⟩

@[simp] theorem bytesOf_toList (l : List UInt8) : (bytesOf l).toList = l := by
  rw [ByteArray.toList_eq]; rfl

theorem b2s_of {w : World} {s : Sl} {l : List UInt8} {k : ByteArray → Pr} (h : BS w s l) (hk : k (bytesOf l) w) : b2s s k w := by
  refine ⟨l.map fun b => (b.toNat : Int), fun _ => by simp [h.len], ?_, ?_⟩
  · rw [List.map_map]
    exact h.row
  · have : (l.map fun b => (b.toNat : Int)).map (fun n => UInt8.ofNat n.toNat) = l := by
      rw [List.map_map]
      conv => rhs; rw [← List.map_id l]
      apply List.map_congr_left
      intro b _
      simp
    rw [this]
    exact hk

theorem OwnS.bs {w : World} {n0 : Nat} {s : Sl} {l : List UInt8} (h : OwnS w n0 1 s (l.map ub)) : BS w s l :=
  ⟨by have := h.len; simp at this; exact this.symm, h.reads⟩

theorem OwnS.ss {α : Type} {f : α → List Value} {n : Nat} (hf : ∀ r, (f r).length = n) (hn : n ≠ 0) {w : World} {n0 : Nat} {s : Sl} {rs : List α} (h : OwnS w n0 n s (rs.flatMap f)) : SS f w s rs :=
  ⟨by have := h.len; rw [flatMap_len hf] at this; exact (Nat.eq_of_mul_eq_mul_right (Nat.pos_of_ne_zero hn) this).symm, h.reads⟩

theorem NotAgg_ub {l : List UInt8} : ∀ v ∈ l.map ub, NotAgg v := by
  intro v hv
  obtain ⟨b, _, rfl⟩ := List.mem_map.1 hv
  trivial

/-! ### one cell of an owned slice -/

theorem OwnS.put {w : World} {n0 n : Nat} {s : Sl} {vs : List Value} (h : OwnS w n0 n s vs) {i : Nat} {v : Value} {k : Pr} (hi : i < vs.length) (hv : NotAgg v)
    (hk : ∀ w', OwnS w' n0 n s (vs.set i v) → Mod s.blk w w' → w'.heap.size = w.heap.size → k w') : ∃ ad, s.a = some ad ∧ st (ad.add i) v k w := by
  rcases h.row with ⟨_, h2, _⟩ | ⟨b, off, spare, h1, h2, h3, h4, h5, h6⟩
  · have := h.len; rw [h2] at this; simp at this; subst this; simp at hi
  · refine ⟨_, h1, st_of (u := vs[i]) hv ?_ (h4.add rfl rfl i) ?_⟩
    · exact h5 i _ (by rw [List.getElem?_append_left hi]; simp [hi])
    · refine hk _ ⟨by simpa using h.len, h.le, .inr ⟨b, off, spare, h1, h2, by simpa using h3, fun o => by rw [World.frozen?_setCell]; exact h4 o, ?_, by simpa using h6⟩⟩ ?_ (by simp)
      · have := h5.set rfl (i := i) (v := v)
        rwa [List.set_append_left _ _ hi] at this
      · exact (Mod.refl _ w).setCell (.inl ⟨_, h1, by simp⟩)


/-! ### copy into a part of an owned slice -/

theorem stO_nil {a : Option Addr} {off : Nat} {k : Pr} : stO a off [] k = k := by cases a <;> rfl

theorem cpy_own {w : World} {n0 n : Nat} {t s' src : Sl} {vs new : List Value} {k : Pr} {o : Nat} (h : OwnS w n0 n t vs) (ho : o ≤ t.len) (ha : s'.a = t.a.map (·.add (o * n)) ∨ s'.len = 0) (hl : s'.len = t.len - o)
    (hr : readsO w src.a new) (hn : src.a.isSome = true → new.length = src.len * n) (hn0 : src.a = none → src.len = 0) (hle : src.len ≤ s'.len) (hna : ∀ v ∈ new, NotAgg v)
    (hk : ∀ w', OwnS w' n0 n t (vs.take (o * n) ++ new ++ vs.drop (o * n + new.length)) → Mod t.blk w w' → w'.heap.size = w.heap.size → k w') : cpy n s' src k w := by
  have hnl : new.length = src.len * n := by
    cases hsa : src.a with
    | some _ => exact hn (by simp [hsa])
    | none =>
      rw [hsa] at hr
      have : new = [] := hr
      rw [this, hn0 hsa]; simp
  refine ⟨new, fun _ => by rw [hnl, show Nat.min src.len s'.len = src.len from Nat.min_eq_left hle], hr, ?_⟩
  by_cases hz : new = []
  · subst hz
    rw [stO_nil]
    refine hk w ?_ (Mod.refl _ _) rfl
    simpa using h
  · have hpos : src.len ≠ 0 := by
      intro h0
      rw [h0] at hnl
      simp at hnl
      exact hz hnl
    have ha' : s'.a = t.a.map (·.add (o * n)) := ha.resolve_right (by omega)
    rcases h.row with ⟨h1, h2, h3⟩ | ⟨b, off, spare, h1, h2, h3, h4, h5, h6⟩
    · omega
    · rw [ha', h1]
      show stL ((Addr.add ⟨b, off, none⟩ (o * n)).add 0) 0 new k w
      rw [add_zero', stL_shift, Nat.add_zero]
      have hlen := h.len
      have hb : o * n + new.length ≤ vs.length := by
        rw [hnl, hlen, ← Nat.add_mul]
        exact Nat.mul_le_mul_right n (by omega)
      refine stL_of rfl h5 (by rw [List.length_append]; omega) hna h4 ?_
      intro w' g1 g2 g3 g4
      refine hk w' ⟨?_, h.le, .inr ⟨b, off, spare, h1, h2, by rw [g3]; exact h3, g4 _ h4, ?_, ?_⟩⟩ (g2.mono fun c _ hc => ⟨_, h1, hc.symm⟩) g3
      · simp only [List.length_append, List.length_take, List.length_drop]
        omega
      · rw [List.take_append_of_le_length (by omega), List.drop_append_of_le_length (by omega)] at g1
        simpa [List.append_assoc] using g1
      · simp only [List.length_append, List.length_take, List.length_drop] at *
        omega

theorem slc_lo {w : World} {n : Nat} {s : Sl} {o : Int} {k : Sl → Pr} (h0 : 0 ≤ o) (h1 : o ≤ (s.len : Int))
    (hk : k ⟨if s.cap = o.toNat then s.a else s.a.map (·.add (o.toNat * n)), s.len - o.toNat, s.cap - o.toNat⟩ w) : slc n s (some o) none none k w := by
  refine ⟨by simp, by simp, by simp, fun l hl => ?_, by simpa using hk⟩
  simp only [Option.some.injEq] at hl
  subst hl
  simpa using ⟨h0, h1⟩

theorem slc_hi {w : World} {n : Nat} {s : Sl} {o : Int} {k : Sl → Pr} (h0 : 0 ≤ o) (h1 : o ≤ (s.cap : Int))
    (hk : k ⟨if s.cap = 0 then s.a else s.a.map (·.add 0), o.toNat, s.cap⟩ w) : slc n s none (some o) none k w := by
  refine ⟨by simp, by simp, fun l hl => ?_, by simp, by simpa using hk⟩
  simp only [Option.some.injEq] at hl
  subst hl
  simpa using ⟨h0, h1⟩

theorem map_add_zero (a : Option Addr) : a.map (·.add 0) = a := by cases a <;> simp

end Go.Eng

/-! Reading a byte; a part of a slice of bytes. -/
namespace Go.Eng

section
variable {w w' : World} {s : Sl} {l : List UInt8}

theorem at_of {i : Int} {b : UInt8} {k : Int → Pr} (h : BS w s l) (h0 : 0 ≤ i) (hb : l[i.toNat]? = some b) (hk : k (b.toNat : Int) w) :
    (owe ((0 : Int) ≤ i ∧ i < (s.len : Int)) <| deref s.a fun a => deref (some (a.add (Int.toNat i * 1))) fun a1 => ldC (.int .u8) a1 k) w := by
  obtain ⟨ad, h1, h2⟩ := h.get hb
  have hl := h.len
  have hlt : i.toNat < l.length := by
    rcases Nat.lt_or_ge i.toNat l.length with h' | h'
    · exact h'
    · rw [List.getElem?_eq_none h'] at hb; cases hb
  refine ⟨⟨h0, by omega⟩, ?_⟩
  rw [h1]
  simp only [deref_some, Nat.mul_one]
  exact ldC_of (s := .int .u8) (p := (b.toNat : Int)) h2 hk

theorem slc_bs {i e : Int} {k : Sl → Pr} (h : BS w s l) (hle : s.len ≤ s.cap) (h0 : 0 ≤ i) (h1 : i ≤ e) (h2 : e ≤ (s.len : Int)) (hk : ∀ r, BS w r ((l.take e.toNat).drop i.toNat) → r.len = e.toNat - i.toNat → k r w) : slc 1 s (some i) (some e) none k w := by
  have hl := h.len
  refine ⟨by simp, by simp, fun x hx => ?_, fun x hx => ?_, ?_⟩
  · simp only [Option.some.injEq] at hx; subst hx; simp; omega
  · simp only [Option.some.injEq] at hx; subst hx; simp; omega
  · simp only [Option.map_none, Option.map_some, Option.getD_none, Option.getD_some]
    refine hk _ ⟨?_, ?_⟩ rfl
    · simp; omega
    · have hrow := h.row
      have hr : ∀ ad, s.a = some ad → Row w (ad.add (i.toNat * 1)) (((l.take e.toNat).drop i.toNat).map ub) := by
        intro ad had
        rw [had] at hrow
        have := ((readsAt_row.1 hrow).take e.toNat).drop i.toNat
        simpa [List.map_take, List.map_drop] using this
      split
      · have : (l.take e.toNat).drop i.toNat = [] := by apply List.eq_nil_of_length_eq_zero; simp; omega
        rw [this]
        cases s.a with
        | none => rfl
        | some ad => exact readsAt_row.2 (Row.nil _ _)
      · cases ha : s.a with
        | none =>
          have h0 := h.none_len ha
          have : (l.take e.toNat).drop i.toNat = [] := by apply List.eq_nil_of_length_eq_zero; simp; omega
          rw [this]; rfl
        | some ad => exact readsAt_row.2 (hr ad ha)

theorem toNat_beq (a b : UInt8) : (((a.toNat : Int)) == ((b.toNat : Int))) = decide (a = b) := by
  rw [Bool.eq_iff_iff]
  simp only [beq_iff_eq, decide_eq_true_eq]
  constructor
  · intro h; exact UInt8.toNat_inj.1 (by omega)
  · rintro rfl; rfl
end
end Go.Eng
namespace Go.Eng
/-- a copy by append onto nothing -/
theorem clone_app {w : World} {s : Sl} {l : List UInt8} {k : Sl → Pr} (h : BS w s l) (hl : s.len ≤ 100000000000000)
    (hk : ∀ r w', OwnS w' w.heap.size 1 r (l.map ub) → Grow w w' → k r w') : app 5 1 1 [.int .u8 0] ⟨none, 0, 0⟩ s k w := by
  have hn := h.len
  refine app_own (n0 := w.heap.size) (vs := []) (new := l.map ub) (OwnS.nil _ _ _) (Nat.le_refl _) (fun _ => by simp; omega) h.none_len h.row NotAgg_ub rfl (by decide) (by simp; omega) ?_
  intro r w' h1 _ _ _ h5
  refine hk r w' (by simpa using h1) (h5.mono fun b _ hb => ?_)
  obtain ⟨ad, had, _⟩ := hb
  cases had
end Go.Eng
namespace Go.Eng
/-- a block of our own: its cells -/
structure Box (w : World) (b : Nat) (vs : List Value) : Prop where
  lt : b < w.heap.size
  unf : Unf w b
  row : Row w ⟨b, 0, none⟩ vs

section
variable {w w' : World} {b : Nat} {vs : List Value}
theorem Box.mod {S : Nat → Prop} (h : Box w b vs) (hm : Mod S w w') (hs : ¬ S b) : Box w' b vs :=
  ⟨Nat.lt_of_lt_of_le h.lt hm.size, h.unf.of_heap (hm.same b h.lt hs), h.row.mod hm hs⟩
theorem Box.grow (h : Box w b vs) (hm : Grow w w') : Box w' b vs := h.mod hm fun h => h
theorem nw_of {cs : Array Value} {T : TypeId} {f : Nat → Pr} (h : ∀ b w2, Grow w w2 → b = w.heap.size → w2.heap.size = w.heap.size + 1 → Box w2 b cs.toList → f b w2) : nw (.cells cs T) f w := by
  rw [nw_def]
  refine h _ _ ((Mod.refl _ w).alloc _) rfl (by simp) ⟨by simp, fun o => World.frozen?_alloc_new _ _ _ _, fun j v hj => ?_⟩
  rw [add_mk, Nat.zero_add, World.cell?_alloc_new]
  simpa using hj
theorem Box.ld (h : Box w b vs) {s : CS} {p : PayC s} {k : PayC s → Pr} {i : Nat} (hi : vs[i]? = some (valC s p)) (hk : k p w) : ldC s (Addr.add ⟨b, 0, none⟩ i) k w := ldC_of (h.row.get hi) hk
theorem Box.ldA {l : List CS} {p : PayA l} {k : PayA l → Pr} (h : Box w b (valA l p)) (hk : k p w) : ldA l ⟨b, 0, none⟩ k w := ldA_of (readsAt_row.2 h.row) hk
theorem Box.st (h : Box w b vs) {i : Nat} {v : Value} {k : Pr} (hi : i < vs.length) (hv : NotAgg v) (hk : ∀ w', Box w' b (vs.set i v) → Mod (· = b) w w' → w'.heap.size = w.heap.size → k w') : st (Addr.add ⟨b, 0, none⟩ i) v k w := by
  refine st_of (u := vs[i]) hv (h.row.get (by simp [hi])) (h.unf.add rfl rfl i) ?_
  refine hk _ ⟨by simpa using h.lt, fun o => by rw [World.frozen?_setCell]; exact h.unf o, h.row.set rfl⟩ ((Mod.refl _ w).setCell (.inl (by simp))) (by simp)
end
end Go.Eng
namespace Go.Eng
theorem deref_some' (a : Addr) (f : Addr → Pr) : deref (some a) f = f a := by funext w; exact deref_some a f
theorem deref_some'' (a : Addr) (f : Pr) : (deref (some a) fun _ => f) = f := by funext w; exact deref_some a _
end Go.Eng
namespace Go.Eng
theorem callV_mono {P : Program} {v : Value} {args : List Value} {shs : List Sh} {k k' : PayL shs → Pr} {w : World} (h : ∀ p w', k p w' → k' p w') (hh : callV P v args shs k w) : callV P v args shs k' w := by
  rcases hh with ⟨f, first, caps, h1, h2, h3⟩ | ⟨l, caps, h1, h2⟩
  · exact .inl ⟨f, first, caps, h1, h2, h3.mono fun e w' ⟨p, he, hp⟩ => ⟨p, he, h p w' hp⟩⟩
  · exact .inr ⟨l, caps, h1, h2.mono fun e w' ⟨p, he, hp⟩ => ⟨p, he, h p w' hp⟩⟩
end Go.Eng
