import Derived.Test.YtlenkeefncbmcaaE14
import Derived.Laws.Alloc2
set_option linter.unusedVariables false
set_option linter.unusedSimpArgs false
set_option linter.unusedSectionVars false
/-! Words and lemmas for proofs over the shallow forms. -/
namespace Go.Eng

/-! ### addresses -/

@[simp] theorem add_zero' (a : Addr) : a.add 0 = a := by simp [Addr.add]
@[simp] theorem add_block (a : Addr) (n : Nat) : (a.add n).block = a.block := by unfold Addr.add; split <;> rfl
@[simp] theorem add_add (a : Addr) (m n : Nat) : (a.add m).add n = a.add (m + n) := by
  unfold Addr.add
  by_cases hm : m = 0
  · subst hm; simp
  · by_cases hn : n = 0
    · subst hn; simp [hm]
    · simp [hm, hn, Nat.add_assoc]
@[simp] theorem add_mk (b o n : Nat) : (⟨b, o, none⟩ : Addr).add n = ⟨b, o + n, none⟩ := by
  unfold Addr.add
  by_cases hn : n = 0
  · subst hn; simp
  · simp [hn]

/-! ### stepping -/

section
variable {w : World}
@[simp] theorem deref_some (a : Addr) (f : Addr → Pr) : deref (some a) f w = f a w := by simp [deref]
@[simp] theorem nw_def (o : Obj) (f : Nat → Pr) : nw o f w = f w.heap.size (w.alloc o) := rfl
@[simp] theorem br_def (b : Bool) (x y : Pr) : br b x y w = if b = true then x w else y w := rfl
@[simp] theorem owe_def (p : Prop) (f : Pr) : owe p f w = (p ∧ f w) := rfl
@[simp] theorem drw_def (f : Pr) : drw f w = f w.drew := rfl
@[simp] theorem both_def (x y : Pr) : both x y w = (x w ∧ y w) := rfl
@[simp] theorem tru_def : tru w = True := rfl
@[simp] theorem fls_def : fls w = False := rfl

theorem ldC_of {s : CS} {a : Addr} {p : PayC s} {f : PayC s → Pr} (h : w.cell? a = some (valC s p)) (hf : f p w) : ldC s a f w := ⟨p, h, hf⟩
theorem ldA_of {l : List CS} {a : Addr} {p : PayA l} {f : PayA l → Pr} (h : readsAt w a 0 (valA l p)) (hf : f p w) : ldA l a f w := ⟨p, h, hf⟩
theorem st_of {a : Addr} {v u : Value} {f : Pr} (hv : NotAgg v) (h : w.cell? a = some u) (hz : w.frozen? a = false) (hf : f (w.setCell a v)) : st a v f w := ⟨hv, by rw [h]; rfl, hz, hf⟩
theorem br_of {b : Bool} {x y : Pr} (h1 : b = true → x w) (h2 : b = false → y w) : br b x y w := by
  cases b with
  | true => simpa using h1 rfl
  | false => simpa using h2 rfl
theorem br_t {b : Bool} {x y : Pr} (hb : b = true) (h : x w) : br b x y w := by rw [br_def, if_pos hb]; exact h
theorem br_f {b : Bool} {x y : Pr} (hb : b = false) (h : y w) : br b x y w := by rw [br_def, if_neg (by simp [hb])]; exact h
theorem jn_of {S : Type} {f : (S → Pr) → Pr} {k : S → Pr} (R : S → Pr) (h : f R w) (hk : ∀ s w', R s w' → k s w') : jn f k w := ⟨R, h, hk⟩
theorem loop_of {S : Type} {G : (S → Pr) → S → Pr} {s : S} (I : S → Pr) (μ : S → World → Nat) (h0 : I s w) (h : ∀ s w, I s w → G (fun s' w' => I s' w' ∧ μ s' w' < μ s w) s w) : loopE G s w := ⟨I, μ, h0, h⟩
theorem callF_of {P : Program} {f : FuncId} {args : List Value} {shs : List Sh} {k : PayL shs → Pr} {post : PayL shs → Pr} (h : Calls P f args.toArray w (RetT shs post)) (hk : ∀ r w', post r w' → k r w') : callF P f args shs k w :=
  h.mono fun _ _ ⟨p, he, hp⟩ => ⟨p, he, hk _ _ hp⟩
end

@[simp] theorem valC_int (k : IntKind) (n : Int) : valC (.int k) n = .int k n := rfl
@[simp] theorem valC_bool (b : Bool) : valC .bool b = .bool b := rfl
@[simp] theorem valC_ptr (p : Option Addr) : valC .ptr p = .pointer p := rfl
@[simp] theorem valC_slice (s : Sl) : valC .slice s = .slice s.a s.len s.cap := rfl
@[simp] theorem valC_map (r : Option Nat) : valC .map r = .map r := rfl
@[simp] theorem valC_any (v : Value) : valC .any v = v := rfl
@[simp] theorem valC_str (v : ByteArray) : valC .str v = .string v := rfl
@[simp] theorem NotAgg_int (k : IntKind) (n : Int) : NotAgg (.int k n) = True := rfl
@[simp] theorem NotAgg_bool (b : Bool) : NotAgg (.bool b) = True := rfl
@[simp] theorem NotAgg_ptr (p : Option Addr) : NotAgg (.pointer p) = True := rfl
@[simp] theorem NotAgg_slice (a : Option Addr) (l c : Nat) : NotAgg (.slice a l c) = True := rfl
@[simp] theorem NotAgg_map (r : Option Nat) : NotAgg (.map r) = True := rfl
@[simp] theorem NotAgg_func (f : Fn) (x y : Array Value) : NotAgg (.func f x y) = True := rfl

/-! ### what may have changed -/

structure Mod (S : Nat → Prop) (w w' : World) : Prop where
  size : w.heap.size ≤ w'.heap.size
  same : ∀ b, b < w.heap.size → ¬ S b → w'.heap[b]? = w.heap[b]?
  rest : w'.os = w.os ∧ w'.tape = w.tape ∧ w'.output = w.output

abbrev Grow : World → World → Prop := Mod fun _ => False

section
variable {S T : Nat → Prop} {w w1 w2 : World}
theorem Mod.refl (S : Nat → Prop) (w : World) : Mod S w w := ⟨Nat.le_refl _, fun _ _ _ => rfl, rfl, rfl, rfl⟩
theorem Mod.trans (h : Mod S w w1) (h' : Mod T w1 w2) (hT : ∀ b, b < w.heap.size → T b → S b) : Mod S w w2 :=
  ⟨Nat.le_trans h.size h'.size, fun b hb hs => (h'.same b (Nat.lt_of_lt_of_le hb h.size) fun ht => hs (hT b hb ht)).trans (h.same b hb hs), h'.rest.1.trans h.rest.1, h'.rest.2.1.trans h.rest.2.1, h'.rest.2.2.trans h.rest.2.2⟩
theorem Mod.mono (h : Mod S w w1) (hT : ∀ b, b < w.heap.size → S b → T b) : Mod T w w1 := ⟨h.size, fun b hb hs => h.same b hb fun ht => hs (hT b hb ht), h.rest⟩
theorem Grow.trans (h : Grow w w1) (h' : Grow w1 w2) : Grow w w2 := Mod.trans h h' fun _ _ h => h
theorem Grow.mod (h : Grow w w1) : Mod S w w1 := h.mono fun _ _ h => h.elim
theorem Mod.alloc (h : Mod S w w1) (o : Obj) : Mod S w (w1.alloc o) :=
  ⟨by have := h.size; simp; omega, fun b hb hs => by
    rw [← h.same b hb hs]
    have : b < w1.heap.size := Nat.lt_of_lt_of_le hb h.size
    show (w1.heap.push o)[b]? = w1.heap[b]?
    rw [Array.getElem?_push, if_neg (Nat.ne_of_lt this)], h.rest⟩
theorem Mod.drew (h : Mod S w w1) : Mod S w w1.drew := ⟨h.size, h.same, h.rest⟩
theorem heap_setCell_ne (w : World) {a : Addr} {v : Value} {b : Nat} (hb : a.block ≠ b) : (w.setCell a v).heap[b]? = w.heap[b]? := by
  simp [World.setCell, Array.getElem?_modify, hb]
theorem Mod.setCell (h : Mod S w w1) {a : Addr} {v : Value} (ha : S a.block ∨ w.heap.size ≤ a.block) : Mod S w (w1.setCell a v) :=
  ⟨by have := h.size; simpa using this, fun b hb hs => by
    rw [← h.same b hb hs]
    refine heap_setCell_ne w1 ?_
    rintro rfl
    rcases ha with ha | ha
    · exact hs ha
    · omega, h.rest⟩
theorem Mod.putObj (h : Mod S w w1) {b : Nat} {o : Obj} (ha : S b ∨ w.heap.size ≤ b) : Mod S w { w1 with heap := w1.heap.setIfInBounds b o } :=
  ⟨by have := h.size; simpa using this, fun c hc hs => by
    rw [← h.same c hc hs]
    have hne : b ≠ c := by
      rintro rfl
      rcases ha with ha | ha
      · exact hs ha
      · omega
    simp [Array.getElem?_setIfInBounds_ne hne], h.rest⟩

theorem cell_of_heap {w w' : World} {a : Addr} (h : w'.heap[a.block]? = w.heap[a.block]?) : w'.cell? a = w.cell? a := by
  simp only [World.cell?, h]
theorem frozen_of_heap {w w' : World} {a : Addr} (h : w'.heap[a.block]? = w.heap[a.block]?) : w'.frozen? a = w.frozen? a := by
  simp only [World.frozen?, h]
end

/-! ### rows of cells -/

theorem readsAt_iff {w : World} {a : Addr} : ∀ {vs : List Value} {i : Nat}, readsAt w a i vs ↔ ∀ j v, vs[j]? = some v → w.cell? (a.add (i + j)) = some v
  | [], i => by simp [readsAt]
  | x :: vs, i => by
    simp only [readsAt, readsAt_iff (vs := vs)]
    constructor
    · rintro ⟨h1, h2⟩ j v hj
      cases j with
      | zero => simp only [List.getElem?_cons_zero, Option.some.injEq] at hj; subst hj; exact h1
      | succ j => have := h2 j v (by simpa using hj); rwa [show i + 1 + j = i + (j + 1) by omega] at this
    · intro h
      refine ⟨by simpa using h 0 x rfl, fun j v hj => ?_⟩
      have := h (j + 1) v (by simpa using hj)
      rwa [show i + (j + 1) = i + 1 + j by omega] at this

/-- cells in a row from a on -/
def Row (w : World) (a : Addr) (vs : List Value) : Prop := ∀ j v, vs[j]? = some v → w.cell? (a.add j) = some v

theorem readsAt_row {w : World} {a : Addr} {vs : List Value} : readsAt w a 0 vs ↔ Row w a vs := by
  rw [readsAt_iff]; simp [Row]

theorem readsAt_row' {w : World} {a : Addr} {vs : List Value} {i : Nat} : readsAt w a i vs ↔ Row w (a.add i) vs := by
  rw [readsAt_iff]; simp [Row]

theorem Row.get {w : World} {a : Addr} {vs : List Value} (h : Row w a vs) {j : Nat} {v : Value} (hj : vs[j]? = some v) : w.cell? (a.add j) = some v := h j v hj
theorem Row.nil (w : World) (a : Addr) : Row w a [] := fun j v h => by simp at h
theorem Row.append {w : World} {a : Addr} {vs us : List Value} : Row w a (vs ++ us) ↔ Row w a vs ∧ Row w (a.add vs.length) us := by
  constructor
  · intro h
    refine ⟨fun j v hj => h j v ?_, fun j v hj => ?_⟩
    · have hlt : j < vs.length := by
        rcases Nat.lt_or_ge j vs.length with h' | h'
        · exact h'
        · rw [List.getElem?_eq_none h'] at hj; cases hj
      rw [List.getElem?_append_left hlt]; exact hj
    · rw [add_add]
      refine h _ v ?_
      rw [List.getElem?_append_right (by omega)]
      simpa using hj
  · rintro ⟨h1, h2⟩ j v hj
    rcases Nat.lt_or_ge j vs.length with h' | h'
    · exact h1 j v (by rwa [List.getElem?_append_left h'] at hj)
    · rw [List.getElem?_append_right h'] at hj
      have := h2 _ v hj
      rwa [add_add, show vs.length + (j - vs.length) = j by omega] at this
theorem Row.take {w : World} {a : Addr} {vs : List Value} (h : Row w a vs) (n : Nat) : Row w a (vs.take n) := fun j v hj => by
  rw [List.getElem?_take] at hj
  split at hj
  · exact h j v hj
  · cases hj
theorem Row.drop {w : World} {a : Addr} {vs : List Value} (h : Row w a vs) (n : Nat) : Row w (a.add n) (vs.drop n) := fun j v hj => by
  rw [add_add]
  exact h _ v (by rwa [List.getElem?_drop] at hj)
theorem Row.of_heap {w w' : World} {a : Addr} {vs : List Value} (h : Row w a vs) (he : w'.heap[a.block]? = w.heap[a.block]?) : Row w' a vs := fun j v hj => by
  rw [cell_of_heap (w := w) (by simpa using he)]; exact h j v hj
theorem Row.block_lt {w : World} {a : Addr} {vs : List Value} (h : Row w a vs) (hne : vs ≠ []) : a.block < w.heap.size := by
  cases vs with
  | nil => exact absurd rfl hne
  | cons v vs => have := World.block_lt_of_cell? w _ (h 0 v rfl); simpa using this
theorem Row.mod {S : Nat → Prop} {w w' : World} {a : Addr} {vs : List Value} (h : Row w a vs) (hm : Mod S w w') (hs : ¬ S a.block) : Row w' a vs := by
  by_cases hv : vs = []
  · subst hv; exact Row.nil _ _
  · exact h.of_heap (hm.same _ (h.block_lt hv) hs)

/-- the cells of a slice -/
def RowO (w : World) (a : Option Addr) (vs : List Value) : Prop := readsO w a vs

theorem RowO.some {w : World} {a : Addr} {vs : List Value} : readsO w (some a) vs ↔ Row w a vs := readsAt_row


theorem exS {p : Sl → Prop} {a : Option Addr} {l c : Nat} : (∃ s : Sl, (a = s.a ∧ l = s.len ∧ c = s.cap) ∧ p s) ↔ p ⟨a, l, c⟩ := by
  constructor
  · rintro ⟨⟨a', l', c'⟩, ⟨rfl, rfl, rfl⟩, h⟩; exact h
  · intro h; exact ⟨⟨a, l, c⟩, ⟨rfl, rfl, rfl⟩, h⟩

@[simp] theorem Sl.eta (s : Sl) : (⟨s.a, s.len, s.cap⟩ : Sl) = s := rfl

@[simp] theorem setCell_new (w : World) (c : Array Value) (t : TypeId) (i : Nat) (v : Value) : (w.alloc (.cells c t)).setCell ⟨w.heap.size, i, none⟩ v = w.alloc (.cells (c.setIfInBounds i v) t) :=
  World.setCell_alloc_new (w := w) c t i v

@[simp] theorem heap_alloc_new (w : World) (o : Obj) : (w.alloc o).heap[w.heap.size]? = some o := by
  show (w.heap.push o)[w.heap.size]? = some o
  simp

theorem heap_alloc_lt {w : World} {o : Obj} {b : Nat} (h : b < w.heap.size) : (w.alloc o).heap[b]? = w.heap[b]? := by
  show (w.heap.push o)[b]? = w.heap[b]?
  rw [Array.getElem?_push, if_neg (Nat.ne_of_lt h)]

@[simp] theorem heap_drew (w : World) : w.drew.heap = w.heap := rfl

/-! ### integers -/

theorem wrap_i64 {n : Int} (h : -9223372036854775808 ≤ n ∧ n ≤ 9223372036854775807) : IntKind.wrap .i64 n = n := by
  simp only [IntKind.wrap, IntKind.signed, IntKind.bits]
  simp
  omega

theorem wrap_u8 {n : Int} (h : 0 ≤ n ∧ n ≤ 255) : IntKind.wrap .u8 n = n := by
  simp only [IntKind.wrap, IntKind.signed, IntKind.bits]
  simp
  omega

end Go.Eng
