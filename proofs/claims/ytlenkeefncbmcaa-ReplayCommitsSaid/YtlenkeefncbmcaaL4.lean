import Derived.Test.YtlenkeefncbmcaaL3
import Derived.RangeFuncBound
set_option linter.unusedVariables false
set_option linter.unusedSimpArgs false
set_option linter.unusedSectionVars false
/-! Reading a byte; a part of a slice of bytes. -/
namespace Go.Eng

section
variable {w w' : World} {s : Sl} {l : List UInt8}

theorem at_of {i : Int} {b : UInt8} {k : Int → Pr} (h : BS w s l) (h0 : 0 ≤ i) (hb : l[i.toNat]? = some b) (hk : k (b.toNat : Int) w) :
    (owe ((0 : Int) ≤ i ∧ i < (s.len : Int)) <| deref s.a fun a => deref (some (a.add (Int.toNat i * 1))) fun a1 => ldC (.int .u8) a1 k) w := by
  obtain ⟨ad, h1, h2⟩ := h.get hb
  have hl := h.len
  have hlt : i.toNat < l.length := by
    rcases Nat.lt_or_ge i.toNat l.length with h' | h'
    · exact h'
    · rw [List.getElem?_eq_none h'] at hb; cases hb
  refine ⟨⟨h0, by omega⟩, ?_⟩
  rw [h1]
  simp only [deref_some, Nat.mul_one]
  exact ldC_of (s := .int .u8) (p := (b.toNat : Int)) h2 hk

theorem slc_bs {i e : Int} {k : Sl → Pr} (h : BS w s l) (hle : s.len ≤ s.cap) (h0 : 0 ≤ i) (h1 : i ≤ e) (h2 : e ≤ (s.len : Int)) (hk : ∀ r, BS w r ((l.take e.toNat).drop i.toNat) → r.len = e.toNat - i.toNat → k r w) : slc 1 s (some i) (some e) none k w := by
  have hl := h.len
  refine ⟨by simp, by simp, fun x hx => ?_, fun x hx => ?_, ?_⟩
  · simp only [Option.some.injEq] at hx; subst hx; simp; omega
  · simp only [Option.some.injEq] at hx; subst hx; simp; omega
  · simp only [Option.map_none, Option.map_some, Option.getD_none, Option.getD_some]
    refine hk _ ⟨?_, ?_⟩ rfl
    · simp; omega
    · have hrow := h.row
      have hr : ∀ ad, s.a = some ad → Row w (ad.add (i.toNat * 1)) (((l.take e.toNat).drop i.toNat).map ub) := by
        intro ad had
        rw [had] at hrow
        have := ((readsAt_row.1 hrow).take e.toNat).drop i.toNat
        simpa [List.map_take, List.map_drop] using this
      split
      · have : (l.take e.toNat).drop i.toNat = [] := by apply List.eq_nil_of_length_eq_zero; simp; omega
        rw [this]
        cases s.a with
        | none => rfl
        | some ad => exact readsAt_row.2 (Row.nil _ _)
      · cases ha : s.a with
        | none =>
          have h0 := h.none_len ha
          have : (l.take e.toNat).drop i.toNat = [] := by apply List.eq_nil_of_length_eq_zero; simp; omega
          rw [this]; rfl
        | some ad => exact readsAt_row.2 (hr ad ha)

theorem toNat_beq (a b : UInt8) : (((a.toNat : Int)) == ((b.toNat : Int))) = decide (a = b) := by
  rw [Bool.eq_iff_iff]
  simp only [beq_iff_eq, decide_eq_true_eq]
  constructor
  · intro h; exact UInt8.toNat_inj.1 (by omega)
  · rintro rfl; rfl
end
end Go.Eng
namespace Go.Eng
/-- a copy by append onto nothing -/
theorem clone_app {w : World} {s : Sl} {l : List UInt8} {k : Sl → Pr} (h : BS w s l) (hl : s.len ≤ 100000000000000)
    (hk : ∀ r w', OwnS w' w.heap.size 1 r (l.map ub) → Grow w w' → k r w') : app 5 1 1 [.int .u8 0] ⟨none, 0, 0⟩ s k w := by
  have hn := h.len
  refine app_own (n0 := w.heap.size) (vs := []) (new := l.map ub) (OwnS.nil _ _ _) (Nat.le_refl _) (fun _ => by simp; omega) h.none_len h.row NotAgg_ub rfl (by decide) (by simp; omega) ?_
  intro r w' h1 _ _ _ h5
  refine hk r w' (by simpa using h1) (h5.mono fun b _ hb => ?_)
  obtain ⟨ad, had, _⟩ := hb
  cases had
end Go.Eng
namespace Go.Eng
/-- a block of our own: its cells -/
structure Box (w : World) (b : Nat) (vs : List Value) : Prop where
  lt : b < w.heap.size
  unf : Unf w b
  row : Row w ⟨b, 0, none⟩ vs

section
variable {w w' : World} {b : Nat} {vs : List Value}
theorem Box.mod {S : Nat → Prop} (h : Box w b vs) (hm : Mod S w w') (hs : ¬ S b) : Box w' b vs :=
  ⟨Nat.lt_of_lt_of_le h.lt hm.size, h.unf.of_heap (hm.same b h.lt hs), h.row.mod hm hs⟩
theorem Box.grow (h : Box w b vs) (hm : Grow w w') : Box w' b vs := h.mod hm fun h => h
theorem nw_of {cs : Array Value} {T : TypeId} {f : Nat → Pr} (h : ∀ b w2, Grow w w2 → b = w.heap.size → w2.heap.size = w.heap.size + 1 → Box w2 b cs.toList → f b w2) : nw (.cells cs T) f w := by
  rw [nw_def]
  refine h _ _ ((Mod.refl _ w).alloc _) rfl (by simp) ⟨by simp, fun o => World.frozen?_alloc_new _ _ _ _, fun j v hj => ?_⟩
  rw [add_mk, Nat.zero_add, World.cell?_alloc_new]
  simpa using hj
theorem Box.ld (h : Box w b vs) {s : CS} {p : PayC s} {k : PayC s → Pr} {i : Nat} (hi : vs[i]? = some (valC s p)) (hk : k p w) : ldC s (Addr.add ⟨b, 0, none⟩ i) k w := ldC_of (h.row.get hi) hk
theorem Box.ldA {l : List CS} {p : PayA l} {k : PayA l → Pr} (h : Box w b (valA l p)) (hk : k p w) : ldA l ⟨b, 0, none⟩ k w := ldA_of (readsAt_row.2 h.row) hk
theorem Box.st (h : Box w b vs) {i : Nat} {v : Value} {k : Pr} (hi : i < vs.length) (hv : NotAgg v) (hk : ∀ w', Box w' b (vs.set i v) → Mod (· = b) w w' → w'.heap.size = w.heap.size → k w') : st (Addr.add ⟨b, 0, none⟩ i) v k w := by
  refine st_of (u := vs[i]) hv (h.row.get (by simp [hi])) (h.unf.add rfl rfl i) ?_
  refine hk _ ⟨by simpa using h.lt, fun o => by rw [World.frozen?_setCell]; exact h.unf o, h.row.set rfl⟩ ((Mod.refl _ w).setCell (.inl (by simp))) (by simp)
end
end Go.Eng
namespace Go.Eng
theorem deref_some' (a : Addr) (f : Addr → Pr) : deref (some a) f = f a := by funext w; exact deref_some a f
theorem deref_some'' (a : Addr) (f : Pr) : (deref (some a) fun _ => f) = f := by funext w; exact deref_some a _
end Go.Eng
namespace Go.Eng
theorem callV_mono {P : Program} {v : Value} {args : List Value} {shs : List Sh} {k k' : PayL shs → Pr} {w : World} (h : ∀ p w', k p w' → k' p w') (hh : callV P v args shs k w) : callV P v args shs k' w := by
  rcases hh with ⟨f, first, caps, h1, h2, h3⟩ | ⟨l, caps, h1, h2⟩
  · exact .inl ⟨f, first, caps, h1, h2, h3.mono fun e w' ⟨p, he, hp⟩ => ⟨p, he, h p w' hp⟩⟩
  · exact .inr ⟨l, caps, h1, h2.mono fun e w' ⟨p, he, hp⟩ => ⟨p, he, h p w' hp⟩⟩
end Go.Eng
