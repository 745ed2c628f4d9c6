import Derived.Test.YtlenkeefncbmcaaE4
set_option linter.unusedVariables false
set_option linter.unusedSimpArgs false
set_option linter.unusedSectionVars false
/-! The engine, part 5: slices, maps, the built-ins. -/
namespace Go.Eng
section
variable {P : Program} {w : World}

theorem RT.sliceBound {n : Int} {k : IntKind} {y : Nat} {c : BoundsCode} {Q : Nat → World → Prop} (h : 0 ≤ n ∧ n ≤ (y : Int)) (hq : Q n.toNat w) : RT P (Instr.sliceBound (.int k n) y c) w Q := by
  unfold Instr.sliceBound
  refine .bind (.pure ?_)
  simp only [h.1, h.2, and_self, if_true]
  exact .pure hq

theorem bounds_sound {isS : Bool} {len cap : Nat} {lo hi mx : Option Int} {k1 k2 k3 : IntKind} {Q : Nat × Nat × Nat → World → Prop}
    (h1 : ∀ m, mx = some m → 0 ≤ m ∧ m ≤ (cap : Int)) (h2 : mx.isSome = true → hi.isSome = true)
    (h3 : ∀ h, hi = some h → 0 ≤ h ∧ h ≤ ((mx.map Int.toNat).getD cap : Int))
    (h4 : ∀ l, lo = some l → 0 ≤ l ∧ l ≤ ((hi.map Int.toNat).getD len : Int))
    (hq : Q ((lo.map Int.toNat).getD 0, (hi.map Int.toNat).getD len, (mx.map Int.toNat).getD cap) w) :
    RT P (Instr.sliceBounds isS len cap (lo.map (.int k1)) (hi.map (.int k2)) (mx.map (.int k3))) w Q := by
  unfold Instr.sliceBounds
  cases mx with
  | none =>
    simp only [Option.map_none, Option.getD_none] at *
    refine .bind (.pure ?_)
    cases hi with
    | none =>
      simp only [Option.map_none, Option.getD_none] at *
      refine .bind (.pure ?_)
      cases lo with
      | none => simp only [Option.map_none, Option.getD_none] at *; exact .bind (.pure (.pure hq))
      | some l => simp only [Option.map_some, Option.getD_some] at *; exact .bind (.sliceBound (h4 l rfl) (.pure hq))
    | some h =>
      simp only [Option.map_some, Option.getD_some] at *
      refine .bind (.sliceBound (h3 h rfl) ?_)
      cases lo with
      | none => simp only [Option.map_none, Option.getD_none] at *; exact .bind (.pure (.pure hq))
      | some l => simp only [Option.map_some, Option.getD_some] at *; exact .bind (.sliceBound (h4 l rfl) (.pure hq))
  | some m =>
    simp only [Option.map_some, Option.getD_some] at *
    refine .bind (.sliceBound (h1 m rfl) ?_)
    cases hi with
    | none => simp at h2
    | some h =>
      simp only [Option.map_some, Option.getD_some] at *
      refine .bind (.sliceBound (h3 h rfl) ?_)
      cases lo with
      | none => simp only [Option.map_none, Option.getD_none] at *; exact .bind (.pure (.pure hq))
      | some l => simp only [Option.map_some, Option.getD_some] at *; exact .bind (.sliceBound (h4 l rfl) (.pure hq))

theorem run_sliceAt {t el : TypeId} {i : TypeInfo} {s : Sl} {lo hi mx : Option Int} {k1 k2 k3 : IntKind} {k : Sl → Pr} {Q : Value → World → Prop} (ht : P.underlying t = some (.slice el)) (hi' : P.info? el = some i)
    (h : slc i.size s lo hi mx k w) (hq : ∀ s, k s w → Q (.slice s.a s.len s.cap) w) :
    RT P (Instr.sliceAt t (.slice s.a s.len s.cap) (lo.map (.int k1)) (hi.map (.int k2)) (mx.map (.int k3))) w Q := by
  obtain ⟨h1, h2, h3, h4, h5⟩ := h
  unfold Instr.sliceAt
  refine .bind (.underlying ht ?_)
  unfold Instr.slice
  refine .bind (.underlying ht ?_)
  simp only
  exact .bind (bounds_sound h1 h2 h3 h4 (.bind (.sizeOf hi' (.pure (hq _ h5)))))

theorem run_sliceStr {t : TypeId} {s : ByteArray} {lo hi : Option Int} {k1 k2 : IntKind} {k : ByteArray → Pr} {Q : Value → World → Prop} (ht : P.underlying t = some .string)
    (h : slcStr s lo hi k w) (hq : ∀ s, k s w → Q (.string s) w) :
    RT P (Instr.sliceAt t (.string s) (lo.map (.int k1)) (hi.map (.int k2)) none) w Q := by
  obtain ⟨h3, h4, h5⟩ := h
  unfold Instr.sliceAt
  refine .bind (.underlying ht ?_)
  unfold Instr.slice
  refine .bind (.underlying ht ?_)
  simp only [Option.isSome_none, Bool.false_eq_true, if_false]
  exact .bind (bounds_sound (mx := none) (k3 := .i64) (by simp) (by simp) (by simpa using h3) h4 (.pure (hq _ h5)))

theorem run_firstCells {size n : Nat} {a : Option Addr} {l c : Nat} {vs : List Value} {Q : Array Value → World → Prop} (hl : a.isSome = true → vs.length = n * size) (hr : readsO w a vs) (hq : Q vs.toArray w) :
    RT P (Builtin.firstCells size n (.slice a l c)) w Q := by
  cases a with
  | none =>
    obtain rfl : vs = [] := hr
    exact .pure hq
  | some b => exact .loadCells (hl rfl) hr hq

theorem run_stO {a : Option Addr} {off : Nat} {vs : List Value} {k : Pr} {Q : Unit → World → Prop} (h : stO a off vs k w) (hq : ∀ w', k w' → Q () w') :
    RT P (match a with | some b => Go.storeCells (b.add off) vs | none => Pure.pure ()) w Q := by
  cases a with
  | none => exact .pure (hq _ h)
  | some b => exact .storeCells h hq

theorem run_copy {t el : TypeId} {i : TypeInfo} {ts : Array TypeId} {ty : TypeId} {d s : Sl} {k : Pr} {Q : Value → World → Prop} (h0 : ts[0]? = some t) (ht : P.underlying t = some (.slice el)) (hi : P.info? el = some i)
    (h : cpy i.size d s k w) (hq : ∀ w', k w' → Q (.int .i64 (Nat.min s.len d.len : Nat)) w') :
    RT P (Builtin.copy_ ts ty #[.slice d.a d.len d.cap, .slice s.a s.len s.cap]) w Q := by
  obtain ⟨vs, hl, hr, hs⟩ := h
  unfold Builtin.copy_
  simp only [h0, List.getElem?_toArray, List.getElem?_cons_zero, List.getElem?_cons_succ]
  refine .bind (.underlying ht ?_)
  refine .bind (.pure ?_)
  refine .bind (.sizeOf hi ?_)
  refine .bind (run_firstCells hl hr ?_)
  cases hd : d.a with
  | none =>
    simp only [hd] at hs ⊢
    exact .pure (hq _ hs)
  | some b =>
    rw [hd] at hs
    simp only
    refine .bind (.storeCells (l := vs) (i := 0) (a := b) (f := k) (by simpa [stO, Addr.add] using hs) fun _ h => .pure (hq _ h))

theorem zeroCells_eq (z : List Value) (n : Nat) : Builtin.zeroCells z.toArray n = (zc z n).toArray := by
  unfold Builtin.zeroCells
  simpa using zc_eq z n z.length rfl

theorem readsAt_drew {a : Addr} : ∀ {l : List Value} {i : Nat}, readsAt w a i l → readsAt w.drew a i l
  | [], _, _ => trivial
  | _ :: _, _, h => ⟨h.1, readsAt_drew h.2⟩

theorem readsO_drew {a : Option Addr} {l : List Value} (h : readsO w a l) : readsO w.drew a l := by
  cases a with
  | none => exact h
  | some b => exact readsAt_drew h

theorem RT.pure_eq {α : Type} {a b : α} {Q : α → World → Prop} (h : a = b) (hq : Q b w) : RT P (Pure.pure a) w Q := ⟨b, w, by rw [h]; rfl, hq⟩

theorem run_append {t t2 el : TypeId} {d2 : TypeDesc} {i : TypeInfo} {z : Value} {ts : Array TypeId} {ty : TypeId} {s x : Sl} {k : Sl → Pr} {Q : Value → World → Prop} (h0 : ts[0]? = some t) (h1 : ts[1]? = some t2) (h2 : P.underlying t2 = some d2)
    (h3 : isIntT P t2 = false) (ht : P.underlying t = some (.slice el)) (hi : P.info? el = some i) (hz : i.zero = some z) (hzs : z.cells.size = i.size)
    (h : app el i.size i.bytes z.cells.toList s x k w) (hq : ∀ s w', k s w' → Q (.slice s.a s.len s.cap) w') :
    RT P (Builtin.append_ ts ty #[.slice s.a s.len s.cap, .slice x.a x.len x.cap]) w Q := by
  obtain ⟨new, hl, hr, hA, hB⟩ := h
  unfold Builtin.append_
  simp only [h0, h1, List.getElem?_toArray, List.getElem?_cons_zero, List.getElem?_cons_succ]
  refine .bind (.underlying ht ?_)
  refine .bind (.sizeOf hi ?_)
  refine .bind (.underlying h2 (.bind (RT.pure_eq (b := false) (by cases d2 <;> simp_all [isIntT]) ?_)))
  simp only [Bool.false_eq_true, if_false, Bool.not_false, if_true]
  refine .bind (.pure ?_)
  by_cases hc : s.len + x.len ≤ s.cap
  · rw [if_pos hc]
    refine .bind (run_firstCells hl hr ?_)
    have hs := hA hc
    cases hd : s.a with
    | none =>
      simp only [hd] at hs ⊢
      have := hq _ _ hs
      exact .pure this
    | some b =>
      rw [hd] at hs
      simp only
      refine .bind (.storeCells (l := new) (i := 0) hs fun _ h => ?_)
      have := hq _ _ h
      exact .pure this
  · rw [if_neg hc]
    obtain ⟨old, hol, hor, hb0, hcap, hneed, hk⟩ := hB (by omega)
    have hn : ¬ ((s.len + x.len : Nat) : Int) > IntKind.i64.max := by
      simp only [IntKind.max, IntKind.signed, IntKind.bits]
      simp
      omega
    refine .bind (.typeInfo hi ?_)
    rw [if_neg (fun h => hn h.1)]
    refine .bind (.typeInfo hi ?_)
    rw [if_neg (Nat.not_lt.2 hcap)]
    refine .bind ⟨_, _, by rw [run_choose]; simp only [Question.forced, Bool.false_eq_true, if_false]; rfl, ?_⟩
    simp only [Question.cut]
    generalize htk : w.tape w.drawn (Question.appendCap (s.len + x.len) s.cap el) % (2 ^ 63 - (s.len + x.len)) = tk
    have htk' : tk < 2 ^ 63 - (s.len + x.len) := by rw [← htk]; exact Nat.mod_lt _ (by omega)
    have hk' := hk (s.len + x.len + tk) (by omega) (by omega)
    refine .bind (.typeInfo hi (.bind ⟨(), _, run_askRoom _ _ _, ?_⟩))
    refine .bind (run_firstCells (w := w.drew) hol (readsO_drew hor) (.bind (run_firstCells (w := w.drew) hl (readsO_drew hr) (.bind (.zeroValue hi hz ?_)))))
    have hzc := zeroCells_eq z.cells.toList (s.len + x.len + tk - (s.len + x.len))
    simp only [Array.toArray_toList] at hzc
    rw [hzc]
    refine .bind (.bind (.newObj (.pure (.pure ?_))))
    have := hq _ _ hk'
    simpa using this
end
end Go.Eng
