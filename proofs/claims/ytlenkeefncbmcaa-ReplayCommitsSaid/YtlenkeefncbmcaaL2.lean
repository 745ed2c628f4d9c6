import Derived.Test.YtlenkeefncbmcaaL1
import Derived.Laws.Strings
set_option linter.unusedVariables false
set_option linter.unusedSimpArgs false
set_option linter.unusedSectionVars false
/-! Slices: what they hold, what is owned; the built-ins over them. -/
namespace Go.Eng

def ub (b : UInt8) : Value := .int .u8 (b.toNat : Int)

theorem ub_inj {a b : UInt8} (h : ub a = ub b) : a = b := by
  simp only [ub, Value.int.injEq, true_and] at h
  exact UInt8.toNat_inj.1 (by omega)

/-- a slice of bytes reads as l -/
structure BS (w : World) (s : Sl) (l : List UInt8) : Prop where
  len : s.len = l.length
  row : readsO w s.a (l.map ub)

section
variable {w w' w1 : World} {s x : Sl} {l : List UInt8}

theorem readsO_row {a : Option Addr} {vs : List Value} (h : ∀ ad, a = some ad → Row w ad vs) (h0 : a = none → vs = []) : readsO w a vs := by
  cases a with
  | none => exact h0 rfl
  | some ad => exact readsAt_row.2 (h ad rfl)

theorem readsO.row {ad : Addr} {vs : List Value} (h : readsO w (some ad) vs) : Row w ad vs := readsAt_row.1 h

theorem readsO.of_heap {a : Option Addr} {vs : List Value} (h : readsO w a vs) (he : ∀ ad, a = some ad → vs ≠ [] → w'.heap[ad.block]? = w.heap[ad.block]?) : readsO w' a vs := by
  cases a with
  | none => exact h
  | some ad =>
    by_cases hv : vs = []
    · subst hv; exact readsAt_row.2 (Row.nil _ _)
    · exact readsAt_row.2 ((readsAt_row.1 h).of_heap (he ad rfl hv))

theorem readsO.mod {S : Nat → Prop} {a : Option Addr} {vs : List Value} (h : readsO w a vs) (hm : Mod S w w') (hs : ∀ ad, a = some ad → vs ≠ [] → ¬ S ad.block) : readsO w' a vs := by
  cases a with
  | none => exact h
  | some ad =>
    by_cases hv : vs = []
    · subst hv; exact readsAt_row.2 (Row.nil _ _)
    · exact readsAt_row.2 ((readsAt_row.1 h).mod hm (hs ad rfl hv))

theorem readsO.grow {a : Option Addr} {vs : List Value} (h : readsO w a vs) (hm : Grow w w') : readsO w' a vs := h.mod hm fun _ _ _ h => h

theorem readsO.lt {ad : Addr} {vs : List Value} (h : readsO w (some ad) vs) (hv : vs ≠ []) : ad.block < w.heap.size := (readsAt_row.1 h).block_lt hv

theorem BS.grow (h : BS w s l) (hm : Grow w w') : BS w' s l := ⟨h.len, h.row.grow hm⟩
theorem BS.mod {S : Nat → Prop} (h : BS w s l) (hm : Mod S w w') (hs : ∀ ad, s.a = some ad → l ≠ [] → ¬ S ad.block) : BS w' s l :=
  ⟨h.len, h.row.mod hm fun ad ha hv => hs ad ha (by simpa using hv)⟩
theorem BS.nil (w : World) (c : Nat) : BS w ⟨none, 0, c⟩ [] := ⟨rfl, rfl⟩

theorem BS.get (h : BS w s l) {j : Nat} {b : UInt8} (hj : l[j]? = some b) : ∃ ad, s.a = some ad ∧ w.cell? (ad.add j) = some (ub b) := by
  obtain ⟨h1, h2⟩ := h
  cases ha : s.a with
  | none =>
    rw [ha] at h2
    have : l.map ub = [] := h2
    simp at this
    subst this
    simp at hj
  | some ad =>
    rw [ha] at h2
    exact ⟨ad, rfl, (readsAt_row.1 h2).get (by simp [hj])⟩

/-- no cell of the block is shared with a string -/
def Unf (w : World) (b : Nat) : Prop := ∀ o, w.frozen? ⟨b, o, none⟩ = false

theorem Unf.add {b : Nat} (h : Unf w b) {a : Addr} (ha : a.block = b) (hs : a.spot = none) (n : Nat) : w.frozen? (a.add n) = false := by
  obtain ⟨b', o, sp⟩ := a
  dsimp only at ha hs
  subst ha hs
  rw [add_mk]
  exact h _

/-! ### writing a row -/

theorem Row.setCell_ne {a c : Addr} {v : Value} {vs : List Value} (h : Row w a vs) (hne : ∀ j, j < vs.length → c ≠ a.add j) : Row w (a) vs → Row (w.setCell c v) a vs := fun _ j u hj => by
  rw [World.cell?_setCell_other]
  · exact h j u hj
  · refine hne j ?_
    rcases Nat.lt_or_ge j vs.length with h' | h'
    · exact h'
    · rw [List.getElem?_eq_none h'] at hj; cases hj

theorem add_inj {a : Addr} (hs : a.spot = none) {i j : Nat} (h : a.add i = a.add j) : i = j := by
  obtain ⟨b, o, sp⟩ := a
  dsimp only at hs
  subst hs
  rw [add_mk, add_mk] at h
  simp at h
  exact h

/-- one cell of a row is written -/
theorem Row.set {a : Addr} {vs : List Value} (h : Row w a vs) (hs : a.spot = none) {i : Nat} {v : Value} : Row (w.setCell (a.add i) v) a (vs.set i v) := fun j u hj => by
  rw [List.getElem?_set] at hj
  by_cases hij : i = j
  · subst hij
    simp only [if_true] at hj
    split at hj
    · rename_i hlt
      simp only [Option.some.injEq] at hj
      subst hj
      have h0 := h i vs[i] (by simp [hlt])
      exact World.cell?_setCell_same _ _ _ h0
    · cases hj
  · rw [if_neg hij] at hj
    rw [World.cell?_setCell_other]
    · exact h j u hj
    · exact fun he => hij (add_inj hs he)

theorem stL_shift {a : Addr} {m : Nat} {k : Pr} : ∀ {l : List Value} {i : Nat}, stL (a.add m) i l k = stL a (m + i) l k
  | [], _ => rfl
  | v :: l, i => by simp only [stL, add_add, stL_shift (l := l), Nat.add_assoc]

theorem stL_of {a : Addr} {k : Pr} (hs : a.spot = none) : ∀ {new : List Value} {i : Nat} {vs : List Value} {w : World}, Row w a vs → i + new.length ≤ vs.length → (∀ v ∈ new, NotAgg v) → Unf w a.block →
    (∀ w', Row w' a (vs.take i ++ new ++ vs.drop (i + new.length)) → Mod (· = a.block) w w' → w'.heap.size = w.heap.size → (∀ b, Unf w b → Unf w' b) → k w') → stL a i new k w
  | [], i, vs, w, hr, hl, hn, hu, hk => hk w (by simpa using hr) (Mod.refl _ _) rfl (fun _ h => h)
  | v :: new, i, vs, w, hr, hl, hn, hu, hk => by
    simp only [List.length_cons] at hl
    have hlt : i < vs.length := by omega
    refine st_of (u := vs[i]) (hn v (by simp)) (hr i _ (by simp [hlt])) (hu.add rfl hs i) ?_
    refine stL_of hs (vs := vs.set i v) (hr.set hs) (by simp; omega) (fun u hu => hn u (by simp [hu])) (fun o => by rw [World.frozen?_setCell]; exact hu o) ?_
    intro w' h1 h2 h3 h4
    refine hk w' ?_ (((Mod.refl _ w).setCell (.inl (by simp))).trans h2 fun _ _ h => h) (by simpa using h3) (fun b hb => h4 b (fun o => by rw [World.frozen?_setCell]; exact hb o))
    have e1 : (vs.set i v).take (i + 1) = vs.take i ++ [v] := by
      rw [List.take_add_one]
      simp [List.take_set_of_le, hlt]
    have e2 : (vs.set i v).drop (i + 1 + new.length) = vs.drop (i + (new.length + 1)) := by
      rw [List.drop_set_of_lt (by omega)]
      congr 1; omega
    rw [e1, e2] at h1
    simpa using h1

/-! ### owned slices -/

/-- a slice whose array was made at or behind block n0, that may be written, of elements of n cells -/
structure OwnS (w : World) (n0 n : Nat) (s : Sl) (vs : List Value) : Prop where
  len : vs.length = s.len * n
  le : s.len ≤ s.cap
  row : (s.a = none ∧ s.len = 0 ∧ s.cap = 0) ∨ ∃ b off spare, s.a = some ⟨b, off, none⟩ ∧ n0 ≤ b ∧ b < w.heap.size ∧ Unf w b ∧ Row w ⟨b, off, none⟩ (vs ++ spare) ∧ (vs ++ spare).length = s.cap * n

theorem OwnS.nil (w : World) (n0 n : Nat) : OwnS w n0 n ⟨none, 0, 0⟩ [] := ⟨by simp, by simp, .inl ⟨rfl, rfl, rfl⟩⟩

theorem OwnS.reads {n0 n : Nat} {vs : List Value} (h : OwnS w n0 n s vs) : readsO w s.a vs := by
  rcases h.row with ⟨h1, h2, h3⟩ | ⟨b, off, spare, h1, _, _, _, h2, _⟩
  · rw [h1]
    have := h.len
    rw [h2] at this
    simp at this
    exact this
  · rw [h1]; exact readsAt_row.2 (Row.append.1 h2).1

theorem OwnS.some_len {n0 n : Nat} {vs : List Value} (h : OwnS w n0 n s vs) : s.a.isSome = true → vs.length = s.len * n := fun _ => h.len

theorem Unf.of_heap {b : Nat} (h : Unf w b) (he : w'.heap[b]? = w.heap[b]?) : Unf w' b := fun o => by
  rw [frozen_of_heap (w := w) he]; exact h o

theorem OwnS.mod {S : Nat → Prop} {n0 n : Nat} {vs : List Value} (h : OwnS w n0 n s vs) (hm : Mod S w w') (hs : ∀ ad, s.a = some ad → ¬ S ad.block) : OwnS w' n0 n s vs := by
  refine ⟨h.len, h.le, ?_⟩
  rcases h.row with h1 | ⟨b, off, spare, h1, h2, h3, h4, h5, h6⟩
  · exact .inl h1
  · have hsb : ¬ S b := hs _ h1
    exact .inr ⟨b, off, spare, h1, h2, Nat.lt_of_lt_of_le h3 hm.size, h4.of_heap (hm.same b h3 hsb), h5.of_heap (hm.same b h3 hsb), h6⟩

theorem OwnS.grow {n0 n : Nat} {vs : List Value} (h : OwnS w n0 n s vs) (hm : Grow w w') : OwnS w' n0 n s vs := h.mod hm fun _ _ h => h

theorem OwnS.le_block {n0 n : Nat} {vs : List Value} (h : OwnS w n0 n s vs) {ad : Addr} (ha : s.a = some ad) : n0 ≤ ad.block ∧ ad.block < w.heap.size ∧ ad.spot = none ∧ Unf w ad.block := by
  rcases h.row with ⟨h1, _⟩ | ⟨b, off, spare, h1, h2, h3, h4, _⟩
  · rw [h1] at ha; cases ha
  · rw [h1] at ha; simp only [Option.some.injEq] at ha; subst ha; exact ⟨h2, h3, rfl, h4⟩

theorem OwnS.weaken {n0 n1 n : Nat} {vs : List Value} (h : OwnS w n0 n s vs) (hn : n1 ≤ n0) : OwnS w n1 n s vs := by
  refine ⟨h.len, h.le, ?_⟩
  rcases h.row with h1 | ⟨b, off, spare, h1, h2, rest⟩
  · exact .inl h1
  · exact .inr ⟨b, off, spare, h1, Nat.le_trans hn h2, rest⟩

/-- the blocks of a slice -/
def Sl.blk (s : Sl) (b : Nat) : Prop := ∃ ad, s.a = some ad ∧ ad.block = b

theorem growBy_le (n : Nat) : ∀ (r c m : Nat), c ≤ m → n ≤ m → Builtin.growBy n r c ≤ m + (m + 768) / 4
  | 0, c, m, hc, _ => by simp only [Builtin.growBy]; omega
  | r + 1, c, m, hc, hn => by
    simp only [Builtin.growBy]
    split
    · omega
    · rename_i hlt
      by_cases h2 : c + (c + 768) / 4 ≤ m
      · exact growBy_le n r _ m h2 hn
      · -- the next round stops at once
        cases r with
        | zero => simp only [Builtin.growBy]; omega
        | succ r =>
          simp only [Builtin.growBy]
          rw [if_pos (by omega)]
          omega

theorem nextslicecap_le {n c : Nat} (h : c < n) : Builtin.nextslicecap n c ≤ 2 * n + 192 := by
  unfold Builtin.nextslicecap
  split
  · omega
  · split
    · omega
    · have := growBy_le n 4 c n (by omega) (Nat.le_refl _)
      omega

theorem zc_length (z : List Value) (n : Nat) : (zc z n).length = n * z.length := by simp [zc]

/-- append onto an owned slice -/
theorem app_own2 {E n b n0 : Nat} {z : List Value} {vs new : List Value} {k : Sl → Pr} (h : OwnS w n0 n s vs) (hn0 : n0 ≤ w.heap.size) (hxl : x.a.isSome = true → new.length = x.len * n) (hx0 : x.a = none → x.len = 0) (hx : readsO w x.a new)
    (hna : ∀ v ∈ new, NotAgg v) (hz : z.length = n) (hb : b ≠ 0) (hbd : (2 * (s.len + x.len) + 192) * b ≤ 2 ^ 48)
    (hk : ∀ r w', OwnS w' n0 n r (vs ++ new) → r.len = s.len + x.len → (s.a.isSome = true ∨ 0 < x.len → r.a.isSome = true) → (s.a = none → x.len = 0 → r.a = none) → Mod s.blk w w' → (∀ b, r.blk b → s.blk b ∨ w.heap.size ≤ b) → k r w') : app E n b z s x k w := by
  have hnl : new.length = x.len * n := by
    cases hxa : x.a with
    | some _ => exact hxl (by simp [hxa])
    | none =>
      rw [hxa] at hx
      have : new = [] := hx
      rw [this, hx0 hxa]; simp
  refine ⟨new, fun _ => hnl, hx, ?_, ?_⟩
  · intro hroom
    rcases h.row with ⟨h1, h2, h3⟩ | ⟨bb, off, spare, h1, h2, h3, h4, h5, h6⟩
    · rw [h1]
      have hx00 : x.len = 0 := by omega
      have hnew : new = [] := by
        apply List.eq_nil_of_length_eq_zero
        rw [hnl, hx00]; simp
      refine hk _ _ ?_ rfl ?_ ?_ (Mod.refl _ _) ?_
      · rw [hnew, List.append_nil]
        exact ⟨by simp [h.len, hx00], by simp; omega, .inl ⟨by simp, by simp; omega, h3⟩⟩
      · rintro (h | h)
        · simp [h1] at h
        · omega
      · intro _ _; rfl
      · rintro b ⟨ad, hh, _⟩; cases hh
    · rw [h1]
      have hlen := h.len
      have hspl : (vs ++ spare).length = vs.length + spare.length := List.length_append
      have hle : s.len * n + new.length ≤ (vs ++ spare).length := by
        rw [hnl, h6, ← Nat.add_mul]
        exact Nat.mul_le_mul_right n hroom
      show stL _ 0 new _ w
      rw [stL_shift, Nat.add_zero, ← hlen]
      refine stL_of rfl h5 (by rw [hlen]; exact hle) hna h4 ?_
      intro w' g1 g2 g3 g4
      have e1 : (vs ++ spare).take vs.length = vs := by simp
      have e2 : (vs ++ spare).drop (vs.length + new.length) = spare.drop new.length := by
        rw [List.drop_append, List.drop_eq_nil_of_le (by omega), List.nil_append]
        congr 1; omega
      rw [e1, e2] at g1
      refine hk _ _ ⟨?_, hroom, .inr ⟨bb, off, spare.drop new.length, rfl, h2, by rw [g3]; exact h3, g4 _ h4, g1, ?_⟩⟩ rfl ?_ ?_ ?_ ?_
      · rw [List.length_append, hlen, hnl, Nat.add_mul]
      · simp only [List.length_append, List.length_drop] at *
        omega
      · intro _; rfl
      · intro h; rw [h1] at h; cases h
      · exact g2.mono fun c _ hc => ⟨_, h1, hc.symm⟩
      · rintro c ⟨ad, hh, hc⟩
        simp only [Option.some.injEq] at hh
        exact .inl ⟨_, h1, by rw [← hc, ← hh]⟩
  · intro hgrow
    have hold := h.reads
    refine ⟨vs, fun _ => h.len, hold, hb, ?_, ?_, ?_⟩
    · exact Nat.le_trans (Nat.mul_le_mul_right b (nextslicecap_le hgrow)) hbd
    · have : (2 * (s.len + x.len) + 192) * 1 ≤ (2 * (s.len + x.len) + 192) * b := Nat.mul_le_mul_left _ (by omega)
      omega
    · intro cap hc1 hc2
      have hl : (vs ++ new ++ zc z (cap - (s.len + x.len))).length = cap * n := by
        simp only [List.length_append, zc_length, h.len, hnl, hz]
        rw [← Nat.add_mul, ← Nat.add_mul]
        congr 1; omega
      refine hk _ _ ⟨?_, hc1, .inr ⟨w.heap.size, 0, zc z (cap - (s.len + x.len)), rfl, hn0, ?_, ?_, ?_, hl⟩⟩ rfl (fun _ => rfl) ?_ ((Mod.refl _ w).drew.alloc _) ?_
      · simp only [List.length_append, h.len, hnl, Nat.add_mul]
      · simp
      · intro o
        exact World.frozen?_alloc_new w.drew _ E o
      · intro j v hj
        rw [add_mk, Nat.zero_add]
        have := World.cell?_alloc_new w.drew (vs ++ new ++ zc z (cap - (s.len + x.len))).toArray E j
        rw [World.size_drew] at this
        rw [this]
        simpa using hj
      · intro hsa hx0'
        exfalso
        rcases h.row with ⟨_, g2, g3⟩ | ⟨bb, _, _, g1, _⟩
        · omega
        · rw [g1] at hsa; cases hsa
      · rintro c ⟨ad, hh, hc⟩
        simp only [Option.some.injEq] at hh
        refine .inr ?_
        rw [← hc, ← hh]
        exact Nat.le_refl _

theorem app_own {E n b n0 : Nat} {z : List Value} {vs new : List Value} {k : Sl → Pr} (h : OwnS w n0 n s vs) (hn0 : n0 ≤ w.heap.size) (hxl : x.a.isSome = true → new.length = x.len * n) (hx0 : x.a = none → x.len = 0) (hx : readsO w x.a new)
    (hna : ∀ v ∈ new, NotAgg v) (hz : z.length = n) (hb : b ≠ 0) (hbd : (2 * (s.len + x.len) + 192) * b ≤ 2 ^ 48)
    (hk : ∀ r w', OwnS w' n0 n r (vs ++ new) → r.len = s.len + x.len → (s.a.isSome = true ∨ 0 < x.len → r.a.isSome = true) → (s.a = none → x.len = 0 → r.a = none) → Mod s.blk w w' → k r w') : app E n b z s x k w :=
  app_own2 h hn0 hxl hx0 hx hna hz hb hbd fun r w' h1 h2 h3 h4 h5 _ => hk r w' h1 h2 h3 h4 h5
end
end Go.Eng
