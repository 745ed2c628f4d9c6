import Derived.Test.YtlenkeefncbmcaaE5
set_option linter.unusedVariables false
set_option linter.unusedSimpArgs false
set_option linter.unusedSectionVars false
/-! The engine, part 6: maps, comparisons, conversions. -/
namespace Go.Eng
section
variable {P : Program} {w : World}

theorem run_mkS {t el : TypeId} {i : TypeInfo} {z : Value} {l c : Int} {k1 k2 : IntKind} {k : Sl → Pr} {Q : Value → World → Prop} (ht : P.underlying t = some (.slice el)) (hi : P.info? el = some i)
    (hz : i.zero = some z) (hzs : z.cells.size = i.size) (hz0 : i.size ≠ 0)
    (h : mkS el i.bytes z.cells.toList l c k w) (hq : ∀ s w', k s w' → Q (.slice s.a s.len s.cap) w') :
    RT P (Instr.makeSlice t (.int k1 l) (.int k2 c)) w Q := by
  obtain ⟨h1, h2, h3, h4, h5⟩ := h
  have hwl : IntKind.i64.wrap l = l := by simp [IntKind.wrap, IntKind.signed, IntKind.bits, Int.bmod_eq_of_le]; omega
  have hwc : IntKind.i64.wrap c = c := by simp [IntKind.wrap, IntKind.signed, IntKind.bits, Int.bmod_eq_of_le]; omega
  unfold Instr.makeSlice
  refine .bind (.underlying ht ?_)
  simp only [asInt, asIntOf, pure_bind]
  refine .bind (.typeInfo hi ?_)
  rw [hwl, hwc]
  have hc : ¬ ((decide (c < 0 ∨ (i.bytes : Int) * c > 2 ^ 48) = true ∨ l < 0) ∨ l > c) := by
    simp
    omega
  simp only [Bool.or_eq_true, decide_eq_true_eq]
  rw [if_neg (by simpa using hc)]
  refine .bind ⟨(), _, run_askRoom _ _ _, .bind (.sizeOf hi ?_)⟩
  by_cases h0 : c.toNat * i.size = 0
  · rw [if_pos h0]
    have hc0 : c.toNat = 0 := (Nat.mul_eq_zero.1 h0).resolve_right hz0
    have he : (zc z.cells.toList c.toNat).toArray = #[] := by simp [hc0, zc]
    rw [he] at h5
    have e0 : ∀ g : Nat → Value, Array.map g (Array.range 0) = #[] := fun _ => by simp
    rw [h0, e0]
    exact .bind (.bind (.newObj (.pure (.pure (hq _ _ h5)))))
  · rw [if_neg h0]
    have he := zc_eq z.cells.toList c.toNat i.size (by simpa using hzs)
    simp only [Array.toArray_toList] at he
    rw [← he] at h5
    refine .bind (.zeroValue hi hz ?_)
    rw [hzs]
    exact .bind (.bind (.newObj (.pure (.pure (hq _ _ h5)))))

/-! #### maps -/

theorem RT.getObj {r : Nat} {o : Obj} {Q : Obj → World → Prop} (h : w.heap[r]? = some o) (hc : ∀ c e f, o ≠ .cells c e f) (hq : Q o w) : RT P (Go.getObj r) w Q := by
  refine ⟨o, w, ?_, hq⟩
  simp only [Go.getObj, Sem.run, h]
  try (cases o <;> first | rfl | exact absurd rfl (hc _ _ _))

theorem RT.setObj {r : Nat} {o o' : Obj} {Q : Unit → World → Prop} (h : w.heap[r]? = some o) (hc : ∀ c e f, o ≠ .cells c e f) (hq : Q () { w with heap := w.heap.setIfInBounds r o' }) : RT P (Go.setObj r o') w Q := by
  refine ⟨(), _, ?_, hq⟩
  simp only [Go.setObj, Sem.run, h]
  try (cases o <;> first | rfl | exact absurd rfl (hc _ _ _))

theorem RT.checkKey {emp : Bool} {n : Nat} {t : TypeId} {d : TypeDesc} {key : Value} {Q : Unit → World → Prop} (ht : P.underlying t = some d) (hs : simpleKey d = true) (hq : Q () w) : RT P (Instr.checkKey emp (n + 1) t key) w Q := by
  unfold Instr.checkKey
  refine .bind (.underlying ht ?_)
  cases d <;> simp only [simpleKey, Bool.false_eq_true] at hs <;> exact .pure hq

theorem RT.findKey {t : TypeId} {d : TypeDesc} {key : Value} {es : List MapEntry} {res : Option (Nat × Value)} {Q : Option (Nat × Value) → World → Prop} (ht : P.underlying t = some d)
    (hf : Instr.findNow d key es 0 = some res) (hq : Q res w) : RT P (Instr.findKey t key es) w Q := by
  unfold Instr.findKey
  refine .bind (.underlying ht ?_)
  rw [hf]
  exact .pure hq

theorem run_lookup {t : TypeId} {ke : TypeId × TypeId} {kd : TypeDesc} {r : Option Nat} {key zero : Value} {sh : CS} {ok : Bool} {k : PayC sh → Bool → Pr} {Q : Value → World → Prop}
    (ht : P.underlying t = some (.map ke.1 ke.2)) (hk : P.underlying ke.1 = some kd) (hs : simpleKey kd = true) (hz : zeroOf P ke.2 = some zero) (h : mapAt kd r key sh zero k w)
    (hq : ∀ p b, k p b w → Q (if ok then .tuple #[valC sh p, .bool b] else valC sh p) w) : RT P (Instr.lookup t (.map r) key ok) w Q := by
  obtain ⟨es, res, p, hm, hf, hv, hkk⟩ := h
  unfold Instr.lookup
  refine .bind (.underlying ht ?_)
  dsimp only
  cases r with
  | none =>
    obtain rfl : es = #[] := hm
    refine .bind (.pure ?_)
    refine .bind (.checkKey hk hs ?_)
    refine .bind (.findKey hk hf ?_)
    cases res with
    | none =>
      simp only [Option.map_none, Option.getD_none] at hv
      refine .bind (zeroOf_sound hz (.bind (.pure ?_)))
      rw [hv]
      exact .pure (hq p false (by simpa using hkk))
    | some iv =>
      simp only [Option.map_some, Option.getD_some] at hv
      refine .bind (.pure ?_)
      simp only [hv]
      exact .pure (hq p true (by simpa using hkk))
  | some b =>
    obtain ⟨clock, hb⟩ := hm
    refine .bind (.getObj hb (by simp) (.bind (.pure ?_)))
    refine .bind (.checkKey hk hs ?_)
    refine .bind (.findKey hk hf ?_)
    cases res with
    | none =>
      simp only [Option.map_none, Option.getD_none] at hv
      refine .bind (zeroOf_sound hz (.bind (.pure ?_)))
      rw [hv]
      exact .pure (hq p false (by simpa using hkk))
    | some iv =>
      simp only [Option.map_some, Option.getD_some] at hv
      refine .bind (.pure ?_)
      simp only [hv]
      exact .pure (hq p true (by simpa using hkk))

theorem run_mapPut {t : TypeId} {ke : TypeId × TypeId} {kd : TypeDesc} {r : Option Nat} {key v : Value} {k : Pr} {Q : Unit → World → Prop}
    (ht : P.underlying t = some (.map ke.1 ke.2)) (hk : P.underlying ke.1 = some kd) (hs : simpleKey kd = true) (h : mapPut kd r key v k w)
    (hq : ∀ w', k w' → Q () w') : RT P (Instr.mapUpdate t (.map r) key v) w Q := by
  obtain ⟨b, es, clock, res, rfl, hb, hf, h⟩ := h
  unfold Instr.mapUpdate
  refine .bind (.underlying ht ?_)
  refine .bind (.getObj hb (by simp) ?_)
  refine .bind (.checkKey hk hs ?_)
  refine .bind (.findKey hk hf ?_)
  cases res with
  | none => exact .setObj hb (by simp) (hq _ h)
  | some iv =>
    obtain ⟨h1, h2⟩ := h
    refine .bind ?_
    unfold Instr.keyThatStays
    rw [if_pos h1]
    exact .pure (.setObj hb (by simp) (hq _ h2))

theorem run_mapDel {t : TypeId} {ke : TypeId × TypeId} {kd : TypeDesc} {ts : Array TypeId} {ty : TypeId} {r : Option Nat} {key : Value} {k : Pr} {Q : Value → World → Prop} (h0 : ts[0]? = some t)
    (ht : P.underlying t = some (.map ke.1 ke.2)) (hk : P.underlying ke.1 = some kd) (hs : simpleKey kd = true) (h : mapDel kd r key k w)
    (hq : ∀ w', k w' → Q (.tuple #[]) w') : RT P (Builtin.delete_ ts ty #[.map r, key]) w Q := by
  obtain ⟨b, es, clock, res, rfl, hb, hf, h⟩ := h
  unfold Builtin.delete_
  simp only [h0, List.getElem?_toArray, List.getElem?_cons_zero, List.getElem?_cons_succ]
  refine .bind (.underlying ht ?_)
  refine .bind (.getObj hb (by simp) ?_)
  refine .bind (.checkKey hk hs ?_)
  refine .bind (.findKey hk hf ?_)
  cases res with
  | none => exact .bind (.setObj hb (by simp) (.pure (hq _ h)))
  | some iv => exact .bind (.setObj hb (by simp) (.pure (hq _ h)))

theorem run_mapLen {t : TypeId} {ke : TypeId × TypeId} {ts : Array TypeId} {ty : TypeId} {r : Option Nat} {k : Int → Pr} {Q : Value → World → Prop} (h0 : ts[0]? = some t)
    (ht : P.underlying t = some (.map ke.1 ke.2)) (h : mapLen r k w)
    (hq : ∀ n, k n w → Q (.int .i64 n) w) : RT P (Builtin.len_ ts ty #[.map r]) w Q := by
  obtain ⟨es, hm, h⟩ := h
  unfold Builtin.len_
  simp only [h0, List.getElem?_toArray, List.getElem?_cons_zero]
  refine .bind (.underlying ht ?_)
  cases r with
  | none =>
    obtain rfl : es = #[] := hm
    exact .pure (hq _ h)
  | some b =>
    obtain ⟨clock, hb⟩ := hm
    exact .bind (.getObj hb (by simp) (.pure (hq _ h)))

/-! #### strings out of bytes -/

theorem b2s_loop (l : List Int) : ∀ (s : ByteArray), 
    RT P (forIn (m := Sem) (l.map (Value.int .u8)).toArray s fun c r => do
      let .int .u8 n := c | stuck "bytesToString: byte expected"
      Pure.pure (ForInStep.yield (r.push (UInt8.ofNat n.toNat)))) w (fun r w' => w' = w ∧ r = ⟨s.data ++ (l.map fun n => UInt8.ofNat n.toNat).toArray⟩) := by
  induction l with
  | nil => intro s; simp; exact .pure ⟨rfl, by simp⟩
  | cons n l ih =>
    intro s
    simp only [List.map_cons, List.forIn_toArray, List.forIn_cons] at ih ⊢
    refine .bind (.pure ?_)
    refine (ih _).mono ?_
    rintro r w' ⟨rfl, rfl⟩
    refine ⟨rfl, ?_⟩
    simp [ByteArray.push]

theorem run_b2s {a : Option Addr} {l c : Nat} {k : ByteArray → Pr} {Q : Value → World → Prop} (h : b2s ⟨a, l, c⟩ k w) (hq : ∀ s, k s w → Q (.string s) w) :
    RT P (Conv.bytesToString (.slice a l c)) w Q := by
  obtain ⟨ns, hl, hr, hk⟩ := h
  unfold Conv.bytesToString
  cases a with
  | none =>
    have : ns.map (Value.int .u8) = [] := hr
    obtain rfl : ns = [] := by simpa using this
    exact .pure (hq _ hk)
  | some b =>
    have hl' : ns.length = l := hl rfl
    refine .bind (.loadCells (l := ns.map (.int .u8)) (by simpa using hl') hr ?_)
    refine .bind ((b2s_loop ns ByteArray.empty).mono ?_)
    rintro r w' ⟨rfl, rfl⟩
    refine .pure (hq _ ?_)
    have he : ByteArray.empty.data = #[] := rfl
    rw [he, Array.empty_append]
    exact hk

/-! #### comparisons -/

theorem ceqV_sound {t : TypeId} {d : TypeDesc} {x y : Value} {r : Prop × Bool} (hd : P.underlying t = some d) (h : ceqV d x y = some r) (h1 : r.1) : (Op.equal t x y).run P w = .ok r.2 w := by
  unfold Op.equal
  change (Op.equalIn (9999 + 1) t x y).run P w = _
  have key : RT P (Op.equalIn (9999 + 1) t x y) w (fun b w' => b = r.2 ∧ w' = w) := by
    unfold Op.equalIn
    refine .bind (.underlying hd ?_)
    unfold ceqV at h
    split at h <;> first
      | (simp at h; done)
      | (simp only [Option.some.injEq] at h
         subst h
         first
           | exact .pure ⟨rfl, rfl⟩
           | (rename_i p; cases p <;> exact .pure ⟨rfl, rfl⟩)
           | (rename_i a _ _ _ _; cases a <;> exact .pure ⟨rfl, rfl⟩)
           | (rcases h1 with h1 | h1
              · cases x <;> first | exact (h1 : False).elim | exact .pure ⟨rfl, rfl⟩
              · subst h1; exact .pure ⟨rfl, rfl⟩))
  obtain ⟨v, w', h3, rfl, rfl⟩ := key
  exact h3

theorem run_ceq {t : TypeId} {x y : Value} {f : Bool → Pr} {Q : Bool → World → Prop} (h : ceq P t x y f w) (hq : ∀ b, f b w → Q b w) : RT P (Op.equal t x y) w Q := by
  obtain ⟨d, hd, h⟩ := opt_sound h
  obtain ⟨r, hr, h1, h2⟩ := opt_sound h
  exact ⟨_, w, ceqV_sound hd hr h1, hq _ h2⟩
end
end Go.Eng
