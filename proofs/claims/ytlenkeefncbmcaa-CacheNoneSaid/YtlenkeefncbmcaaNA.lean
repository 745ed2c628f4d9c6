import Derived.Test.YtlenkeefncbmcaaKA
set_option linter.unusedVariables false
set_option linter.unusedSimpArgs false
set_option linter.unusedSectionVars false
/-! Layer 9: a cache that no call made. -/
namespace Go.Proofs
open Go.Eng

/-- a pointer to no cache, or to one that no call made -/
def NC (p : Option Addr) (w : World) : Prop := p = none ∨ ∃ r vs, p = some ⟨r, 0, none⟩ ∧ Box w r (.pointer none :: vs)
theorem NC.grow {p : Option Addr} {w w' : World} (h : NC p w) (hg : Grow w w') : NC p w' := h.imp id fun ⟨r, vs, h1, h2⟩ => ⟨r, vs, h1, h2.grow hg⟩

theorem C72n (p : Option Addr) (w : World) (h : NC p w) : Calls Try.prog 72 #[.pointer p] w (RetT [.c .bool] fun r w' => r = true ∧ w = w') := by
  refine F72_calls _ _ _ ?_
  unfold F72
  refine ⟨trivial, ?_⟩
  rcases h with rfl | ⟨r, vs, rfl, hb⟩
  · exact br_t rfl ⟨rfl, rfl⟩
  · refine br_f rfl ?_
    simp only [deref_some']
    exact hb.ld (i := 0) (s := .ptr) (p := none) rfl ⟨trivial, rfl, rfl⟩

theorem C68n (p : Option Addr) (i : Int) (w : World) (h : NC p w) : Calls Try.prog 68 #[.pointer p, .int .i64 i] w (RetT [.c (.int .i64)] fun r w' => r = 2 ∧ w = w') := by
  refine F68_calls _ _ _ _ ?_
  unfold F68
  refine callF_of (C72n p w h) ?_
  rintro _ _ ⟨rfl, rfl⟩
  exact br_t rfl ⟨rfl, rfl⟩

theorem C34n (p : Option Addr) (i : Int) (w : World) (h : NC p w) : Calls Try.prog 34 #[.pointer p, .int .i64 i] w (RetT [.c .slice, .c (.int .i64)] fun r w' => r = (⟨none, 0, 0⟩, 2) ∧ w = w') := by
  refine F34_calls _ _ _ _ ?_
  unfold F34
  refine callF_of (C68n p i w h) ?_
  rintro _ _ ⟨rfl, rfl⟩
  exact br_t rfl ⟨rfl, rfl⟩

theorem C33n (p : Option Addr) (i o : Int) (b : Sl) (w : World) (h : NC p w) : Calls Try.prog 33 #[.pointer p, .int .i64 i, .int .i64 o, .slice b.a b.len b.cap] w (RetT [.c (.int .i64)] fun r w' => r = 2 ∧ w = w') := by
  refine F33_calls _ _ _ _ _ _ ?_
  unfold F33
  refine callF_of (C68n p i w h) ?_
  rintro _ _ ⟨rfl, rfl⟩
  exact br_t rfl ⟨rfl, rfl⟩

theorem C42n (p : Option Addr) (w : World) (h : NC p w) : Calls Try.prog 42 #[.pointer p] w (RetT [.c (.int .i64)] fun r w' => r = 2 ∧ w = w') := by
  refine F42_calls _ _ _ ?_
  unfold F42
  refine callF_of (C72n p w h) ?_
  rintro _ _ ⟨rfl, rfl⟩
  exact br_t rfl ⟨rfl, rfl⟩

theorem C36n (p : Option Addr) (i : Int) (w : World) (h : NC p w) : Calls Try.prog 36 #[.pointer p, .int .i64 i] w (RetT [.c .bool] fun r w' => r = false ∧ w = w') := by
  refine F36_calls _ _ _ _ ?_
  unfold F36
  refine callF_of (C72n p w h) ?_
  rintro _ _ ⟨rfl, rfl⟩
  exact br_f rfl ⟨rfl, rfl⟩

theorem C41n (p : Option Addr) (w : World) (h : NC p w) : Calls Try.prog 41 #[.pointer p] w (RetT [.c (.int .i64), .c (.int .i64)] fun r w' => r = (0, 0) ∧ w = w') := by
  refine F41_calls _ _ _ ?_
  unfold F41
  refine callF_of (C72n p w h) ?_
  rintro _ _ ⟨rfl, rfl⟩
  exact br_t rfl ⟨rfl, rfl⟩

theorem C77n (p : Option Addr) (w : World) (h : NC p w) : Calls Try.prog 77 #[.pointer p] w (RetT [.c .slice] fun r w' => r = ⟨none, 0, 0⟩ ∧ w = w') := by
  refine F77_calls _ _ _ ?_
  unfold F77
  refine callF_of (C72n p w h) ?_
  rintro _ _ ⟨rfl, rfl⟩
  exact br_t rfl ⟨rfl, rfl⟩

theorem C73n (p : Option Addr) (w : World) (h : NC p w) : Calls Try.prog 73 #[.pointer p] w (RetT [.c .any] fun r w' => ∃ b, r = .func (.func 89) #[] #[P0 b] ∧ St noF w w' [BoxA b [slV ⟨none, 0, 0⟩]]) := by
  refine F73_calls _ _ _ ?_
  unfold F73
  refine callF_of (C77n p w h) ?_
  rintro _ _ ⟨rfl, rfl⟩
  refine callF_of (C64' ⟨none, 0, 0⟩ w) ?_
  rintro v w2 ⟨b, rfl, s2⟩
  exact ⟨b, rfl, s2⟩

theorem C37n (p : Option Addr) (most : Int) (w : World) (h : NC p w) : Calls Try.prog 37 #[.pointer p, .int .i64 most] w (RetT [.c .slice] fun r w' => r.len = 0 ∧ Grow w w') := by
  refine F37_calls _ _ _ _ ?_
  unfold F37
  refine ⟨trivial, St.nw (St.init0 w) fun r w1 s1 _ _ => ⟨trivial, St.nw s1 fun r1 w2 s2 _ _ => ?_⟩⟩
  refine callF_of (C73n p w2 (h.grow s2.gro)) ?_
  rintro _ w3 ⟨b, rfl, s3⟩
  have s4 : St noF w w3 [BoxA b [slV ⟨none, 0, 0⟩], BoxA r1 [slV ⟨none, 0, 0⟩], BoxA r [.int .i64 most]] := s2.call0 s3
  refine ⟨.inl trivial, br_f rfl ?_⟩
  simp only [deref_some']
  refine jn_of (fun z W => z.1 = [w3.heap.size] ∧ St noF w W [ObjA w3.heap.size (.deferred (some [])), BoxA r1 [slV ⟨none, 0, 0⟩]]) ?_ ?_
  · refine ⟨89, _, rfl, by kernel_rfl, fun L hL hY => ?_⟩
    have s6 := (s4.mkobj (.deferred (some []))).mkobj (L .ready none)
    rw [World.size_alloc] at s6
    refine Calls.mono (C89' (.func (.yield (w3.heap.size + 1)) #[] #[]) b ⟨none, 0, 0⟩ [] _
      (fun j W => St noF w W [ObjA (w3.heap.size + 1) (L .ready none), ObjA w3.heap.size (.deferred (some [])), BoxA b [slV ⟨none, 0, 0⟩], BoxA r1 [slV ⟨none, 0, 0⟩], BoxA r [.int .i64 most]])
      (fun W => False)
      (fun j W hI => ⟨(hI.bring 2).box, OwnS.nil _ _ _⟩) s6 (by simp) (fun j x W hx => by simp at hx)) ?_
    rintro e W ⟨u, rfl, hI | hD⟩
    · refine ⟨⟨_, rfl⟩, .inl ⟨hI.obj, rfl, ?_⟩⟩
      exact (hI.putObj (L .exhausted none)).sel [1, 3] 5
    · exact hD.elim
  rintro ⟨ds, ⟨⟩⟩ W ⟨hds, sW⟩
  dsimp only at hds
  subst hds
  refine (sW.bring 1).ld0 (s := .slice) (p := ⟨none, 0, 0⟩) rfl ?_
  refine takes_of sW fun W2 s8 => ?_
  exact ⟨rfl, s8.gro⟩

/-- a pointer to no disk, or to one that no call made -/
def ND (p : Option Addr) (w : World) : Prop := p = none ∨ ∃ r vs, p = some ⟨r, 0, none⟩ ∧ Box w r (.slice none 0 0 :: vs)
theorem ND.grow {p : Option Addr} {w w' : World} (h : ND p w) (hg : Grow w w') : ND p w' := h.imp id fun ⟨r, vs, h1, h2⟩ => ⟨r, vs, h1, h2.grow hg⟩

theorem C67n (p : Option Addr) (w : World) (h : ND p w) : Calls Try.prog 67 #[.pointer p] w (RetT [.c (.int .i64)] fun r w' => r = 0 ∧ w = w') := by
  refine F67_calls _ _ _ ?_
  unfold F67
  refine ⟨trivial, ?_⟩
  rcases h with rfl | ⟨r, vs, rfl, hb⟩
  · exact br_t rfl ⟨rfl, rfl⟩
  · refine br_f rfl ?_
    simp only [deref_some']
    exact hb.ld (i := 0) (s := .slice) (p := ⟨none, 0, 0⟩) rfl ⟨rfl, rfl⟩

theorem C32n (p : Option Addr) (room : Int) (w : World) (h : ND p w) : Calls Try.prog 32 #[.pointer p, .int .i64 room] w (RetT [.c .ptr, .c (.int .i64)] fun r w' => r = (none, 2) ∧ w = w') := by
  refine F32_calls _ _ _ _ ?_
  unfold F32
  refine callF_of (C67n p w h) ?_
  rintro _ _ ⟨rfl, rfl⟩
  exact br_t rfl ⟨rfl, rfl⟩

theorem law11 (i : Int) (b : Sl) (w : World) : Calls Try.prog 11 #[.int .i64 i, .slice b.a b.len b.cap] w (RetT [.c .bool] fun r w' => r = true ∧ Grow w w') := by
  refine F11_calls _ _ _ _ ?_
  unfold F11
  refine St.nw (St.init0 w) fun r w1 s1 _ _ => St.nw s1 fun r1 w2 s2 _ _ => ?_
  simp only [deref_some']
  refine loop_of (fun z W => ∃ j : Nat, z = j ∧ j ≤ 2 ∧ St noF w W [BoxA r1 [.pointer none, P0 r], BoxA r [.pointer none, .int .i64 0, .map none, .int .i64 0]]) (fun z _ => 2 - z.toNat) ⟨0, rfl, by omega, s2⟩ ?_
  rintro _ W ⟨j, rfl, hj, s⟩
  refine br_of (fun hlt => ?_) (fun hge => ?_)
  · simp only [decide_eq_true_eq] at hlt
    have hj2 : j < 2 := by omega
    obtain ⟨p, hp, hpc⟩ : ∃ p, ([.pointer none, P0 r] : List Value)[j]? = some (.pointer p) ∧ ∀ W, St noF w W [BoxA r1 [.pointer none, P0 r], BoxA r [.pointer none, .int .i64 0, .map none, .int .i64 0]] → NC p W := by
      match j, hj2 with
      | 0, _ => exact ⟨none, rfl, fun W hW => .inl rfl⟩
      | 1, _ => exact ⟨some ⟨r, 0, none⟩, rfl, fun W hW => .inr ⟨r, _, rfl, (hW.bring 1).box⟩⟩
    refine ⟨⟨by omega, hlt⟩, ?_⟩
    rw [Int.toNat_natCast, Nat.mul_one]
    refine s.ld (i := j) (s := .ptr) (p := p) hp ?_
    refine callF_of (C34n p i W (hpc W s)) ?_
    rintro _ _ ⟨rfl, rfl⟩
    refine callF_of (C41n p W (hpc W s)) ?_
    rintro _ _ ⟨rfl, rfl⟩
    refine jn_of (fun q W' => q = false ∧ Grow W W') ?_ ?_
    · refine br_f rfl (br_f rfl ?_)
      refine callF_of (C33n p i 0 b W (hpc W s)) ?_
      rintro _ _ ⟨rfl, rfl⟩
      refine br_f rfl ?_
      refine callF_of (C42n p W (hpc W s)) ?_
      rintro _ _ ⟨rfl, rfl⟩
      refine br_f rfl ?_
      refine callF_of (C36n p i W (hpc W s)) ?_
      rintro _ _ ⟨rfl, rfl⟩
      refine br_f rfl (br_f rfl (br_f rfl ?_))
      refine callF_of (C37n p 9 W (hpc W s)) ?_
      rintro t W' ⟨ht, g⟩
      exact ⟨by rw [ht]; rfl, g⟩
    · rintro _ W' ⟨rfl, g⟩
      refine br_f rfl ?_
      rw [wrap_succ (by omega)]
      exact ⟨⟨j + 1, rfl, by omega, s.grow g⟩, by omega⟩
  · refine St.nw s fun r2 w4 s4 _ _ => St.nw s4 fun r3 w5 s5 _ _ => ?_
    refine loop_of (fun z W => ∃ j : Nat, z = j ∧ j ≤ 2 ∧ St noF w W [BoxA r3 [.pointer none, P0 r2], BoxA r2 [.slice none 0 0, .slice none 0 0, .bool false, .int .i64 0, .int .i64 0, .slice none 0 0]]) (fun z _ => 2 - z.toNat) ⟨0, rfl, by omega, s5.sel [0, 1] 4⟩ ?_
    rintro _ W ⟨j, rfl, hj, s⟩
    refine br_of (fun hlt => ?_) (fun hge => ?_)
    · simp only [decide_eq_true_eq] at hlt
      have hj2 : j < 2 := by omega
      obtain ⟨p, hp, hpc⟩ : ∃ p, ([.pointer none, P0 r2] : List Value)[j]? = some (.pointer p) ∧ ND p W := by
        match j, hj2 with
        | 0, _ => exact ⟨none, rfl, .inl rfl⟩
        | 1, _ => exact ⟨some ⟨r2, 0, none⟩, rfl, .inr ⟨r2, _, rfl, (s.bring 1).box⟩⟩
      refine ⟨⟨by omega, hlt⟩, ?_⟩
      rw [Int.toNat_natCast, Nat.mul_one]
      refine s.ld (i := j) (s := .ptr) (p := p) hp ?_
      refine callF_of (C32n p 9 W hpc) ?_
      rintro _ _ ⟨rfl, rfl⟩
      refine jn_of (fun q W' => q = false ∧ W = W') ⟨trivial, br_f rfl ⟨rfl, rfl⟩⟩ ?_
      rintro _ _ ⟨rfl, rfl⟩
      refine br_f rfl ?_
      rw [wrap_succ (by omega)]
      exact ⟨⟨j + 1, rfl, by omega, s⟩, by omega⟩
    · refine callF_of (C31 W) ?_
      rintro _ W' ⟨rfl, g⟩
      exact ⟨rfl, Grow.trans s.gro g⟩
end Go.Proofs
