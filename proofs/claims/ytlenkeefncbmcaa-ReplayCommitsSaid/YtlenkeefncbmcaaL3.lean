import Derived.Test.YtlenkeefncbmcaaL2
set_option linter.unusedVariables false
set_option linter.unusedSimpArgs false
set_option linter.unusedSectionVars false
/-! Slices of structs; bytes as strings. -/
namespace Go.Eng

theorem flatMap_row {α : Type} {f : α → List Value} {n : Nat} (hf : ∀ r, (f r).length = n) : ∀ {rs : List α} {w : World} {a : Addr}, Row w a (rs.flatMap f) ↔ ∀ i r, rs[i]? = some r → Row w (a.add (i * n)) (f r)
  | [], w, a => by simp [Row.nil]
  | x :: rs, w, a => by
    rw [List.flatMap_cons, Row.append, flatMap_row hf (rs := rs), hf]
    constructor
    · rintro ⟨h1, h2⟩ i r hi
      cases i with
      | zero => simp only [List.getElem?_cons_zero, Option.some.injEq] at hi; subst hi; simpa using h1
      | succ i =>
        have := h2 i r (by simpa using hi)
        rwa [add_add, show n + i * n = (i + 1) * n by rw [Nat.add_mul]; omega] at this
    · intro h
      refine ⟨by simpa using h 0 x rfl, fun i r hi => ?_⟩
      have := h (i + 1) r (by simpa using hi)
      rwa [show (i + 1) * n = n + i * n by rw [Nat.add_mul]; omega, ← add_add] at this

theorem flatMap_len {α : Type} {f : α → List Value} {n : Nat} (hf : ∀ r, (f r).length = n) (rs : List α) : (rs.flatMap f).length = rs.length * n := by
  induction rs with
  | nil => simp
  | cons x rs ih => rw [List.flatMap_cons, List.length_append, ih, hf, List.length_cons, Nat.add_mul]; omega

/-- a slice whose elements' cells are f of rs -/
structure SS {α : Type} (f : α → List Value) (w : World) (s : Sl) (rs : List α) : Prop where
  len : s.len = rs.length
  row : readsO w s.a (rs.flatMap f)

section
variable {α : Type} {f : α → List Value} {n : Nat} {w w' : World} {s : Sl} {rs : List α}

theorem SS.get (hf : ∀ r, (f r).length = n) (h : SS f w s rs) {i : Nat} {r : α} (hi : rs[i]? = some r) (hn : n ≠ 0) : ∃ ad, s.a = some ad ∧ Row w (ad.add (i * n)) (f r) := by
  obtain ⟨h1, h2⟩ := h
  cases ha : s.a with
  | none =>
    rw [ha] at h2
    have h3 : rs.flatMap f = [] := h2
    have h4 := flatMap_len hf rs
    rw [h3] at h4
    simp only [List.length_nil] at h4
    have : rs.length = 0 := (Nat.mul_eq_zero.1 h4.symm).resolve_right hn
    have : rs = [] := List.eq_nil_of_length_eq_zero this
    subst this
    simp at hi
  | some ad =>
    rw [ha] at h2
    exact ⟨ad, rfl, (flatMap_row hf).1 (readsAt_row.1 h2) i r hi⟩
theorem SS.grow (h : SS f w s rs) (hm : Grow w w') : SS f w' s rs := ⟨h.len, h.row.grow hm⟩
theorem SS.mod {S : Nat → Prop} (h : SS f w s rs) (hm : Mod S w w') (hs : ∀ ad, s.a = some ad → ¬ S ad.block) : SS f w' s rs := ⟨h.len, h.row.mod hm fun ad ha _ => hs ad ha⟩
theorem SS.nil (w : World) (c : Nat) : SS f w ⟨none, 0, c⟩ [] := ⟨rfl, rfl⟩
theorem SS.none_len (hf : ∀ r, (f r).length = n) (hn : n ≠ 0) (h : SS f w s rs) (ha : s.a = none) : s.len = 0 := by
  rw [h.len]
  have h2 := h.row
  rw [ha] at h2
  have h3 : rs.flatMap f = [] := h2
  have h4 := flatMap_len hf rs
  rw [h3] at h4
  simp only [List.length_nil] at h4
  exact (Nat.mul_eq_zero.1 h4.symm).resolve_right hn
end

theorem BS.none_len {w : World} {s : Sl} {l : List UInt8} (h : BS w s l) (ha : s.a = none) : s.len = 0 := by
  have h2 := h.row
  rw [ha] at h2
  have : l.map ub = [] := h2
  simp at this
  rw [h.len, this]; rfl

/-! ### bytes as a string -/

def bytesOf (l : List UInt8) : ByteArray := ⟨l.toArray⟩

@[simp] theorem bytesOf_toList (l : List UInt8) : (bytesOf l).toList = l := by
  rw [ByteArray.toList_eq]; rfl

theorem b2s_of {w : World} {s : Sl} {l : List UInt8} {k : ByteArray → Pr} (h : BS w s l) (hk : k (bytesOf l) w) : b2s s k w := by
  refine ⟨l.map fun b => (b.toNat : Int), fun _ => by simp [h.len], ?_, ?_⟩
  · rw [List.map_map]
    exact h.row
  · have : (l.map fun b => (b.toNat : Int)).map (fun n => UInt8.ofNat n.toNat) = l := by
      rw [List.map_map]
      conv => rhs; rw [← List.map_id l]
      apply List.map_congr_left
      intro b _
      simp
    rw [this]
    exact hk

theorem OwnS.bs {w : World} {n0 : Nat} {s : Sl} {l : List UInt8} (h : OwnS w n0 1 s (l.map ub)) : BS w s l :=
  ⟨by have := h.len; simp at this; exact this.symm, h.reads⟩

theorem OwnS.ss {α : Type} {f : α → List Value} {n : Nat} (hf : ∀ r, (f r).length = n) (hn : n ≠ 0) {w : World} {n0 : Nat} {s : Sl} {rs : List α} (h : OwnS w n0 n s (rs.flatMap f)) : SS f w s rs :=
  ⟨by have := h.len; rw [flatMap_len hf] at this; exact (Nat.eq_of_mul_eq_mul_right (Nat.pos_of_ne_zero hn) this).symm, h.reads⟩

theorem NotAgg_ub {l : List UInt8} : ∀ v ∈ l.map ub, NotAgg v := by
  intro v hv
  obtain ⟨b, _, rfl⟩ := List.mem_map.1 hv
  trivial

/-! ### one cell of an owned slice -/

theorem OwnS.put {w : World} {n0 n : Nat} {s : Sl} {vs : List Value} (h : OwnS w n0 n s vs) {i : Nat} {v : Value} {k : Pr} (hi : i < vs.length) (hv : NotAgg v)
    (hk : ∀ w', OwnS w' n0 n s (vs.set i v) → Mod s.blk w w' → w'.heap.size = w.heap.size → k w') : ∃ ad, s.a = some ad ∧ st (ad.add i) v k w := by
  rcases h.row with ⟨_, h2, _⟩ | ⟨b, off, spare, h1, h2, h3, h4, h5, h6⟩
  · have := h.len; rw [h2] at this; simp at this; subst this; simp at hi
  · refine ⟨_, h1, st_of (u := vs[i]) hv ?_ (h4.add rfl rfl i) ?_⟩
    · exact h5 i _ (by rw [List.getElem?_append_left hi]; simp [hi])
    · refine hk _ ⟨by simpa using h.len, h.le, .inr ⟨b, off, spare, h1, h2, by simpa using h3, fun o => by rw [World.frozen?_setCell]; exact h4 o, ?_, by simpa using h6⟩⟩ ?_ (by simp)
      · have := h5.set rfl (i := i) (v := v)
        rwa [List.set_append_left _ _ hi] at this
      · exact (Mod.refl _ w).setCell (.inl ⟨_, h1, by simp⟩)


/-! ### copy into a part of an owned slice -/

theorem stO_nil {a : Option Addr} {off : Nat} {k : Pr} : stO a off [] k = k := by cases a <;> rfl

theorem cpy_own {w : World} {n0 n : Nat} {t s' src : Sl} {vs new : List Value} {k : Pr} {o : Nat} (h : OwnS w n0 n t vs) (ho : o ≤ t.len) (ha : s'.a = t.a.map (·.add (o * n)) ∨ s'.len = 0) (hl : s'.len = t.len - o)
    (hr : readsO w src.a new) (hn : src.a.isSome = true → new.length = src.len * n) (hn0 : src.a = none → src.len = 0) (hle : src.len ≤ s'.len) (hna : ∀ v ∈ new, NotAgg v)
    (hk : ∀ w', OwnS w' n0 n t (vs.take (o * n) ++ new ++ vs.drop (o * n + new.length)) → Mod t.blk w w' → w'.heap.size = w.heap.size → k w') : cpy n s' src k w := by
  have hnl : new.length = src.len * n := by
    cases hsa : src.a with
    | some _ => exact hn (by simp [hsa])
    | none =>
      rw [hsa] at hr
      have : new = [] := hr
      rw [this, hn0 hsa]; simp
  refine ⟨new, fun _ => by rw [hnl, show Nat.min src.len s'.len = src.len from Nat.min_eq_left hle], hr, ?_⟩
  by_cases hz : new = []
  · subst hz
    rw [stO_nil]
    refine hk w ?_ (Mod.refl _ _) rfl
    simpa using h
  · have hpos : src.len ≠ 0 := by
      intro h0
      rw [h0] at hnl
      simp at hnl
      exact hz hnl
    have ha' : s'.a = t.a.map (·.add (o * n)) := ha.resolve_right (by omega)
    rcases h.row with ⟨h1, h2, h3⟩ | ⟨b, off, spare, h1, h2, h3, h4, h5, h6⟩
    · omega
    · rw [ha', h1]
      show stL ((Addr.add ⟨b, off, none⟩ (o * n)).add 0) 0 new k w
      rw [add_zero', stL_shift, Nat.add_zero]
      have hlen := h.len
      have hb : o * n + new.length ≤ vs.length := by
        rw [hnl, hlen, ← Nat.add_mul]
        exact Nat.mul_le_mul_right n (by omega)
      refine stL_of rfl h5 (by rw [List.length_append]; omega) hna h4 ?_
      intro w' g1 g2 g3 g4
      refine hk w' ⟨?_, h.le, .inr ⟨b, off, spare, h1, h2, by rw [g3]; exact h3, g4 _ h4, ?_, ?_⟩⟩ (g2.mono fun c _ hc => ⟨_, h1, hc.symm⟩) g3
      · simp only [List.length_append, List.length_take, List.length_drop]
        omega
      · rw [List.take_append_of_le_length (by omega), List.drop_append_of_le_length (by omega)] at g1
        simpa [List.append_assoc] using g1
      · simp only [List.length_append, List.length_take, List.length_drop] at *
        omega

theorem slc_lo {w : World} {n : Nat} {s : Sl} {o : Int} {k : Sl → Pr} (h0 : 0 ≤ o) (h1 : o ≤ (s.len : Int))
    (hk : k ⟨if s.cap = o.toNat then s.a else s.a.map (·.add (o.toNat * n)), s.len - o.toNat, s.cap - o.toNat⟩ w) : slc n s (some o) none none k w := by
  refine ⟨by simp, by simp, by simp, fun l hl => ?_, by simpa using hk⟩
  simp only [Option.some.injEq] at hl
  subst hl
  simpa using ⟨h0, h1⟩

theorem slc_hi {w : World} {n : Nat} {s : Sl} {o : Int} {k : Sl → Pr} (h0 : 0 ≤ o) (h1 : o ≤ (s.cap : Int))
    (hk : k ⟨if s.cap = 0 then s.a else s.a.map (·.add 0), o.toNat, s.cap⟩ w) : slc n s none (some o) none k w := by
  refine ⟨by simp, by simp, fun l hl => ?_, by simp, by simpa using hk⟩
  simp only [Option.some.injEq] at hl
  subst hl
  simpa using ⟨h0, h1⟩

theorem map_add_zero (a : Option Addr) : a.map (·.add 0) = a := by cases a <;> simp

end Go.Eng
