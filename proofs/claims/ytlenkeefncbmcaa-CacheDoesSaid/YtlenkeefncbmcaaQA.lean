import Derived.Test.YtlenkeefncbmcaaRA
import Derived.Test.YtlenkeefncbmcaaFA
import Derived.Test.YtlenkeefncbmcaaKA
import Derived.Test.YtlenkeefncbmcaaCA
set_option linter.unusedVariables false
set_option linter.unusedSimpArgs false
set_option linter.unusedSectionVars false
/-! Layer 9, the document's cache: what it is; at, Has, without, comes. -/
namespace Go.Proofs
open Go.Eng

/-- a buffer of the document's, and its slice -/
structure Rx where
  key : Int
  s : Sl
  b : List UInt8
  dirty : Bool
structure Rb where
  key : Int
  b : List UInt8
  dirty : Bool
structure RM where
  room : Int
  l : List Rb
def Rx.m (x : Rx) : Rb := ⟨x.key, x.b, x.dirty⟩
def Rx.cells (x : Rx) : List Value := [.int .i64 x.key, slV x.s, .bool x.dirty]
@[simp] theorem Rx.cells_len (x : Rx) : x.cells.length = 3 := rfl
def rxA (x : Rx) : HA := SlA 1 x.s (x.b.map ub)
theorem Rx.na {x : Rx} : ∀ v ∈ x.cells, NotAgg v := by
  intro v hv
  simp only [Rx.cells, List.mem_cons, List.not_mem_nil, or_false] at hv
  rcases hv with rfl | rfl | rfl <;> trivial
theorem flat_na (bl : List Rx) : ∀ v ∈ bl.flatMap Rx.cells, NotAgg v := by
  intro v hv
  obtain ⟨x, _, hx⟩ := List.mem_flatMap.1 hv
  exact Rx.na v hx

def RCacheA (c dp : Nat) (M : RM) : HA := exA fun i : Sl × List Rx => [pA (M.l = i.2.map Rx.m), BoxA c [P0 dp, .int .i64 M.room, slV i.1], SlA 3 i.1 (i.2.flatMap Rx.cells), bigA (i.2.map rxA)]

theorem _root_.Go.Eng.St.rOpen {F0 : Nat → Prop} {w0 w : World} {L : List HA} {c dp : Nat} {M : RM} (h : St F0 w0 w (RCacheA c dp M :: L)) : ∃ (s : Sl) (bl : List Rx), M.l = bl.map Rx.m ∧ St F0 w0 w (BoxA c [P0 dp, .int .i64 M.room, slV s] :: SlA 3 s (bl.flatMap Rx.cells) :: bigA (bl.map rxA) :: L) := by
  obtain ⟨i, h⟩ := h.ex
  obtain ⟨h1, h⟩ := h.p
  exact ⟨i.1, i.2, h1, h⟩
theorem _root_.Go.Eng.St.rClose {F0 : Nat → Prop} {w0 w : World} {L : List HA} {c dp : Nat} {M : RM} {s : Sl} {bl : List Rx} (h : St F0 w0 w (BoxA c [P0 dp, .int .i64 M.room, slV s] :: SlA 3 s (bl.flatMap Rx.cells) :: bigA (bl.map rxA) :: L)) (hl : M.l = bl.map Rx.m) : St F0 w0 w (RCacheA c dp M :: L) :=
  St.mkex (f := fun i : Sl × List Rx => [pA (M.l = i.2.map Rx.m), BoxA c [P0 dp, .int .i64 M.room, slV i.1], SlA 3 i.1 (i.2.flatMap Rx.cells), bigA (i.2.map rxA)]) (s, bl) (h.mkp hl)

theorem rx_len {w : World} {s : Sl} {bl : List Rx} (h : OwnS w 0 3 s (bl.flatMap Rx.cells)) : s.len = bl.length := (OwnS.ss (f := Rx.cells) Rx.cells_len (by decide) h).len

/-- one cell of a buffer, as it is printed -/
theorem rx_at {w : World} {s : Sl} {bl : List Rx} {k n : Nat} {x : Rx} {c : CS} {q : PayC c} {f : PayC c → Pr} (h : OwnS w 0 3 s (bl.flatMap Rx.cells)) (hx : bl[k]? = some x) (hn : x.cells[n]? = some (valC c q)) (hf : f q w) :
    (owe ((0 : Int) ≤ (k : Int) ∧ (k : Int) < (s.len : Int)) <| deref s.a fun a => ldC c (Addr.add (a.add (Int.toNat (k : Int) * 3)) n) f) w := by
  have hss : SS Rx.cells w s bl := OwnS.ss Rx.cells_len (by decide) h
  have hl := hss.len
  have := (split_at hx).2
  refine ⟨⟨by omega, by omega⟩, ?_⟩
  obtain ⟨ad, ha, hrow⟩ := hss.get (n := 3) Rx.cells_len hx (by decide)
  rw [ha, deref_some', Int.toNat_natCast]
  exact ldC_of (hrow.get hn) hf
theorem rx_all {w : World} {s : Sl} {bl : List Rx} {k : Nat} {x : Rx} {f : Int × Sl × Bool → Pr} (h : OwnS w 0 3 s (bl.flatMap Rx.cells)) (hx : bl[k]? = some x) (hf : f (x.key, x.s, x.dirty) w) :
    (owe ((0 : Int) ≤ (k : Int) ∧ (k : Int) < (s.len : Int)) <| deref s.a fun a => ldA [.int .i64, .slice, .bool] (a.add (Int.toNat (k : Int) * 3)) f) w := by
  have hss : SS Rx.cells w s bl := OwnS.ss Rx.cells_len (by decide) h
  have hl := hss.len
  have := (split_at hx).2
  refine ⟨⟨by omega, by omega⟩, ?_⟩
  obtain ⟨ad, ha, hrow⟩ := hss.get (n := 3) Rx.cells_len hx (by decide)
  rw [ha, deref_some', Int.toNat_natCast]
  exact ldA_of (p := (x.key, x.s, x.dirty)) (show readsAt w (ad.add (k * 3)) 0 (valA [.int .i64, .slice, .bool] (x.key, x.s, x.dirty)) from readsAt_row.2 hrow) hf

/-- the place of a block, by the document -/
def AtQ (M : RM) (i r : Int) : Prop := (r = -1 ∧ ∀ x ∈ M.l, x.key ≠ i) ∨ ∃ (k : Nat) (x : Rb), r = k ∧ M.l[k]? = some x ∧ x.key = i

theorem C80 (c dp : Nat) (M : RM) (i : Int) (w : World) (F : Nat → Prop) (h : Has [RCacheA c dp M] w F) (hn : M.l.length ≤ 1000000) : Calls Try.prog 80 #[P0 c, .int .i64 i] w (RetT [.c (.int .i64)] fun r w' => AtQ M i r ∧ w = w') := by
  refine F80_calls _ _ _ _ ?_
  unfold F80
  obtain ⟨s, bl, hl, st⟩ := (St.init h).rOpen
  have hsl := rx_len (st.bring 1).sl
  have hbl : bl.length ≤ 1000000 := by rw [hl, List.length_map] at hn; exact hn
  simp only [deref_some']
  refine loop_of (fun z W => ∃ j : Nat, z = j ∧ j ≤ bl.length ∧ w = W ∧ ∀ (k : Nat) x, k < j → bl[k]? = some x → x.key ≠ i) (fun z _ => bl.length - z.toNat) ⟨0, rfl, by omega, rfl, fun k x hk => by omega⟩ ?_
  rintro _ _ ⟨j, rfl, hj, rfl, hno⟩
  refine st.ld (i := 2) (s := .slice) (p := s) rfl ?_
  refine br_of (fun hlt => ?_) (fun hge => ?_)
  · simp only [decide_eq_true_eq] at hlt
    have hjl : j < bl.length := by omega
    have hx : bl[j]? = some bl[j] := by simp
    refine st.ld (i := 2) (s := .slice) (p := s) rfl ?_
    refine rx_at (st.bring 1).sl hx (n := 0) (c := .int .i64) (q := bl[j].key) rfl ?_
    refine br_of (fun heq => ⟨.inr ⟨j, bl[j].m, rfl, by rw [hl, List.getElem?_map, hx]; rfl, show bl[j].key = i by simpa using heq⟩, rfl⟩) (fun hne => ?_)
    rw [wrap_succ (by omega)]
    refine ⟨⟨j + 1, rfl, by omega, rfl, fun k x hk hkx => ?_⟩, by omega⟩
    rcases Nat.lt_or_ge k j with h' | h'
    · exact hno k x h' hkx
    · have : k = j := by omega
      subst this
      rw [hx] at hkx
      rw [← Option.some.inj hkx]
      simpa using hne
  · simp only [decide_eq_false_iff_not] at hge
    refine ⟨.inl ⟨rfl, fun y hy => ?_⟩, rfl⟩
    rw [hl] at hy
    obtain ⟨x, hx, rfl⟩ := List.mem_map.1 hy
    obtain ⟨k, hk⟩ := List.getElem?_of_mem hx
    exact hno k x (by have := (split_at hk).2; omega) hk

theorem C85 (c dp : Nat) (M : RM) (i : Int) (w : World) (F : Nat → Prop) (h : Has [RCacheA c dp M] w F) (hn : M.l.length ≤ 1000000) : Calls Try.prog 85 #[P0 c, .int .i64 i] w (RetT [.c .bool] fun r w' => r = M.l.any (fun x => x.key == i) ∧ w = w') := by
  refine F85_calls _ _ _ _ ?_
  unfold F85
  refine callF_of (C80 c dp M i w F h hn) ?_
  rintro r _ ⟨hr, rfl⟩
  refine ⟨?_, rfl⟩
  rcases hr with ⟨rfl, h1⟩ | ⟨k, x, rfl, h1, h2⟩
  · symm
    show M.l.any (fun x => x.key == i) = _
    rw [List.any_eq_false.2 fun x hx => by simpa using h1 x hx]
    rfl
  · symm
    show M.l.any (fun x => x.key == i) = _
    rw [List.any_eq_true.2 ⟨x, List.mem_of_getElem? h1, by simpa using h2⟩]
    symm
    rw [decide_eq_true_eq]
    omega

theorem eraseIdx_take_succ {α : Type} {l : List α} {j k : Nat} {x : α} (hx : l[j]? = some x) : (l.take (j + 1)).eraseIdx k = if j = k then l.take j else (l.take j).eraseIdx k ++ (if k < j then [x] else [x]) := by
  have hj := (split_at hx).2
  rw [List.getElem?_eq_getElem hj, Option.some.injEq] at hx
  rw [List.take_add_one, List.getElem?_eq_getElem hj, hx]
  simp only [Option.toList_some, ite_self]
  split
  · rename_i h; subst h
    rw [List.eraseIdx_append_of_length_le (by rw [List.length_take]; omega), List.length_take, Nat.min_eq_left (by omega), Nat.sub_self]
    simp
  · rename_i h
    rcases Nat.lt_or_ge k j with h' | h'
    · rw [List.eraseIdx_append_of_lt_length (by rw [List.length_take]; omega)]
    · rw [List.eraseIdx_append_of_length_le (by rw [List.length_take]; omega), List.length_take, Nat.min_eq_left (by omega)]
      rw [List.eraseIdx_of_length_le (l := l.take j) (by rw [List.length_take]; omega), List.eraseIdx_of_length_le (by simp; omega)]

theorem C96 (s : Sl) (bl : List Rx) (k : Nat) (w : World) (h : OwnS w 0 3 s (bl.flatMap Rx.cells)) (hn : bl.length ≤ 1000000) :
    Calls Try.prog 96 #[.slice s.a s.len s.cap, .int .i64 (k : Int)] w (RetT [.c .slice] fun r w' => St noF w w' [SlA 3 r ((bl.eraseIdx k).flatMap Rx.cells)]) := by
  refine F96_calls s _ _ _ ?_
  unfold F96
  have hsl := rx_len h
  refine loop_of (fun z W => ∃ j : Nat, z.2 = j ∧ j ≤ bl.length ∧ St noF w W [SlA 3 z.1 (((bl.take j).eraseIdx k).flatMap Rx.cells)]) (fun z _ => bl.length - z.2.toNat) ⟨0, rfl, by omega, (St.init0 w).nosl 3⟩ ?_
  rintro ⟨u, _⟩ W ⟨j, rfl, hj, st⟩
  dsimp only at st ⊢
  refine br_of (fun hlt => ?_) (fun hge => ?_)
  · simp only [decide_eq_true_eq] at hlt
    have hjl : j < bl.length := by omega
    have hx : bl[j]? = some bl[j] := by simp
    have he := eraseIdx_take_succ (k := k) hx
    refine jn_of (fun t W' => St noF w W' [SlA 3 t (((bl.take (j + 1)).eraseIdx k).flatMap Rx.cells)]) ?_ ?_
    · refine br_of (fun hne => ?_) (fun heq => ?_)
      · have hne : j ≠ k := by
          rintro rfl
          simp at hne
        rw [if_neg hne] at he
        simp only [ite_self] at he
        simp only [deref_some']
        refine rx_all (h.grow st.gro) hx ?_
        have hul := rx_len st.sl
        have hle := List.length_eraseIdx_le (bl.take j) k
        rw [List.length_take] at hle
        refine St.nw st fun r w2 s2 _ _ => ?_
        refine (s2.bring 1).app (new := bl[j].cells) (fun _ => rfl) (fun h => by cases h) (readsAt_row.2 s2.box.row) Rx.na rfl (by decide) (by dsimp only; omega) fun r2 w3 s3 _ => ?_
        rw [he, List.flatMap_append, List.flatMap_singleton]
        exact s3.sel [0] 2
      · have heq : j = k := by
          have h1 : (j : Int) = (k : Int) := by simpa using heq
          omega
        rw [if_pos heq] at he
        rw [he]
        have : (bl.take j).eraseIdx k = bl.take j := List.eraseIdx_of_length_le (by rw [List.length_take]; omega)
        rw [this] at st
        exact st
    · rintro t W' s2
      rw [wrap_succ (by omega)]
      exact ⟨⟨j + 1, rfl, by omega, s2⟩, by omega⟩
  · simp only [decide_eq_false_iff_not] at hge
    rw [List.take_of_length_le (by omega)] at st
    exact st
end Go.Proofs

/-! Layer 9, the document's cache: a block comes in. -/
namespace Go.Proofs
open Go.Eng

def newR (D : DM) (i : Int) : Rb := ⟨i, rdD D i, false⟩

inductive ComesR (M : RM) (D : DM) (i : Int) : Int → RM → Prop
  | hit (k : Nat) (x : Rb) (h1 : M.l[k]? = some x) (h2 : x.key = i) : ComesR M D i 0 { M with l := M.l.eraseIdx k ++ [x] }
  | full (no : ∀ x ∈ M.l, x.key ≠ i) (hf : M.room ≤ (M.l.length : Int)) (hd : ∀ x ∈ M.l, x.dirty = true) : ComesR M D i 6 M
  | err (no : ∀ x ∈ M.l, x.key ≠ i) (he : placeE D i ≠ 0) (hc : M.room ≤ (M.l.length : Int) → ∃ x ∈ M.l, x.dirty = false) : ComesR M D i (placeE D i) M
  | more (no : ∀ x ∈ M.l, x.key ≠ i) (hp : placeE D i = 0) (hf : ¬ M.room ≤ (M.l.length : Int)) : ComesR M D i 0 { M with l := M.l ++ [newR D i] }
  | swap (no : ∀ x ∈ M.l, x.key ≠ i) (hp : placeE D i = 0) (hf : M.room ≤ (M.l.length : Int)) (k : Nat) (y : Rb) (h1 : M.l[k]? = some y) (h2 : y.dirty = false) (h3 : ∀ (j : Nat) z, j < k → M.l[j]? = some z → z.dirty = true) :
    ComesR M D i 0 { M with l := M.l.eraseIdx k ++ [newR D i] }

theorem eraseIdx_map' {α β : Type} (f : α → β) (l : List α) (j : Nat) : (l.eraseIdx j).map f = (l.map f).eraseIdx j := eraseIdx_map f l j

/-- one more buffer is laid behind, and the list is the cache's -/
theorem r_push {E : Nat} {F0 : Nat → Prop} {w0 w : World} {L : List HA} {c dp r : Nat} {room : Int} {s t : Sl} {bl : List Rx} {x : Rx} {k : Pr} (hn : bl.length ≤ 1000000)
    (st : St F0 w0 w (SlA 3 t (bl.flatMap Rx.cells) :: BoxA r x.cells :: BoxA c [P0 dp, .int .i64 room, slV s] :: L))
    (hk : ∀ t' w', St F0 w0 w' (BoxA c [P0 dp, .int .i64 room, slV t'] :: SlA 3 t' ((bl ++ [x]).flatMap Rx.cells) :: L) → k w') :
    app E 3 40 [.int .i64 0, .slice none 0 0, .bool false] t ⟨some ⟨r, 0, none⟩, 1, 1⟩ (fun t32 => Eng.st (Addr.add ⟨c, 0, none⟩ 2) (.slice t32.a t32.len t32.cap) k) w := by
  have htl := rx_len st.sl
  refine st.app (new := x.cells) (fun _ => rfl) (fun h => by cases h) (readsAt_row.2 (st.bring 1).box.row) Rx.na rfl (by decide) (by dsimp only; omega) fun t' w2 s2 _ => ?_
  refine (s2.bring 2).st (i := 2) (by simp) trivial fun w3 s3 => ?_
  refine hk t' w3 ?_
  rw [List.flatMap_append, List.flatMap_singleton]
  exact s3.sel [0, 1] 3

theorem C78 (c dp : Nat) (M : RM) (D : DM) (i : Int) (w : World) (F : Nat → Prop) (h : Has [RCacheA c dp M, DiskA dp D] w F) (hn : M.l.length ≤ 100000) (hD : D.ok) (hwl : D.wait.length ≤ 1000000000) :
    Calls Try.prog 78 #[P0 c, .int .i64 i] w (RetT [.c (.int .i64)] fun r w' => ∃ M', ComesR M D i r M' ∧ St F w w' [RCacheA c dp M', DiskA dp D]) := by
  refine F78_calls _ _ _ _ ?_
  unfold F78
  have stF := St.init h
  obtain ⟨G, _, _, g1, _, _, _, _⟩ := stF.call1
  refine callF_of (C80 c dp M i w G g1 (by omega)) ?_
  rintro t13 _ ⟨hat, rfl⟩
  obtain ⟨s, bl, hl, st⟩ := stF.rOpen
  have hsl := rx_len (st.bring 1).sl
  have hbl : bl.length ≤ 100000 := by rw [hl, List.length_map] at hn; exact hn
  have hlen : bl.length = M.l.length := by rw [hl]; simp
  simp only [deref_some']
  rcases hat with ⟨rfl, hno⟩ | ⟨k, y, rfl, hk1, hk2⟩
  rotate_left
  · -- it is there
    refine br_t (by simp only [ge_iff_le, decide_eq_true_eq]; omega) ?_
    obtain ⟨x, hx, rfl⟩ : ∃ x : Rx, bl[k]? = some x ∧ x.m = y := by
      rw [hl, List.getElem?_map] at hk1
      cases hb : bl[k]? with
      | none => rw [hb] at hk1; cases hk1
      | some x => rw [hb] at hk1; exact ⟨x, rfl, Option.some.inj hk1⟩
    have hkl := (split_at hx).2
    refine st.ld (i := 2) (s := .slice) (p := s) rfl ?_
    refine rx_all (st.bring 1).sl hx ?_
    refine St.nw st fun r w2 s2 _ _ => ?_
    refine s2.st0 trivial fun w3 s3 => ?_
    refine s3.st (i := 1) (by simp) trivial fun w4 s4 => ?_
    refine s4.st (i := 2) (by simp) trivial fun w5 s5 => ?_
    have s6 := s5.drew
    replace s6 : St F w w5.drew [BoxA r x.cells, BoxA c [P0 dp, .int .i64 M.room, slV s], SlA 3 s (bl.flatMap Rx.cells), bigA (bl.map rxA), DiskA dp D] := s6
    rw [drw_def]
    have hel := List.length_eraseIdx_le bl k
    have fin : ∀ {E : Nat} {t : Sl} {r1 : Nat} {W : World} {L : List HA}, St F w W (SlA 3 t ((bl.eraseIdx k).flatMap Rx.cells) :: BoxA r1 x.cells :: BoxA c [P0 dp, .int .i64 M.room, slV s] :: SlA 3 s (bl.flatMap Rx.cells) :: bigA (bl.map rxA) :: DiskA dp D :: L) →
        app E 3 40 [.int .i64 0, .slice none 0 0, .bool false] t ⟨some ⟨r1, 0, none⟩, 1, 1⟩ (fun t32 => Eng.st (Addr.add ⟨c, 0, none⟩ 2) (.slice t32.a t32.len t32.cap) fun w' => ∃ M', ComesR M D i 0 M' ∧ St F w w' [RCacheA c dp M', DiskA dp D]) W := by
      intro E t r1 W L hS
      refine r_push (by omega) hS fun t' w' s7 => ?_
      refine ⟨{ M with l := M.l.eraseIdx k ++ [x.m] }, .hit k x.m hk1 hk2, ?_⟩
      have s8 := ((s7.sel [3, 0, 1, 4] 5).pick (i := k) (A := rxA x) (by rw [List.getElem?_map, hx]; rfl)).push
      have e : (bl.map rxA).eraseIdx k ++ [rxA x] = (bl.eraseIdx k ++ [x]).map rxA := by rw [List.map_append, eraseIdx_map]; rfl
      rw [e] at s8
      exact St.dropR (l := [_, _]) ((s8.sel [1, 2, 0, 3] 4).rClose (M := { M with l := M.l.eraseIdx k ++ [x.m] }) (by rw [List.map_append, eraseIdx_map, ← hl]; rfl))
    have hcall : ∀ {W : World} {L : List HA} {f : Sl → Pr}, St F w W (SlA 3 s (bl.flatMap Rx.cells) :: L) → (∀ t W', St F w W' (SlA 3 t ((bl.eraseIdx k).flatMap Rx.cells) :: SlA 3 s (bl.flatMap Rx.cells) :: L) → f t W') → callF Try.prog 96 [.slice s.a s.len s.cap, .int .i64 (k : Int)] [.c .slice] f W := by
      intro W L f hS hf
      refine callF_of (C96 s bl k W hS.sl (by omega)) ?_
      rintro t W' hs'
      exact hf t W' (hS.call0 hs')
    have hldr : ∀ {W : World} {L : List HA} {f : Int × Sl × Bool → Pr}, St F w W (BoxA r x.cells :: L) → f (x.key, x.s, x.dirty) W → ldA [.int .i64, .slice, .bool] ⟨r, 0, none⟩ f W := by
      intro W L f hS hf
      exact ldA_of (p := (x.key, x.s, x.dirty)) (show readsAt W ⟨r, 0, none⟩ 0 (valA [.int .i64, .slice, .bool] (x.key, x.s, x.dirty)) from readsAt_row.2 hS.box.row) hf
    refine ⟨?_, ?_⟩
    · refine (s6.bring 1).ld (i := 2) (s := .slice) (p := s) rfl ⟨?_, ?_⟩
      · refine hcall (s6.bring 2) fun t W' s7 => ?_
        refine hldr (s7.bring 2) ?_
        refine St.nw s7 fun r1 W2 s8 _ _ => ?_
        exact fin (s8.sel [1, 0, 4, 2, 5, 6] 7)
      · refine hldr s6 ⟨?_, ?_⟩
        · refine hcall (s6.bring 2) fun t W' s7 => ?_
          refine St.nw s7 fun r1 W2 s8 _ _ => ?_
          exact fin (s8.sel [1, 0, 4, 2, 5, 6] 7)
        · refine St.nw s6 fun r1 W2 s8 _ _ => ?_
          refine hcall (s8.bring 3) fun t W' s7 => ?_
          exact fin (s7.sel [0, 2, 4, 1, 5, 6] 7)
    · refine hldr s6 ⟨?_, ?_⟩
      · refine (s6.bring 1).ld (i := 2) (s := .slice) (p := s) rfl ⟨?_, ?_⟩
        · refine hcall (s6.bring 2) fun t W' s7 => ?_
          refine St.nw s7 fun r1 W2 s8 _ _ => ?_
          exact fin (s8.sel [1, 0, 4, 2, 5, 6] 7)
        · refine St.nw s6 fun r1 W2 s8 _ _ => ?_
          refine hcall (s8.bring 3) fun t W' s7 => ?_
          exact fin (s7.sel [0, 2, 4, 1, 5, 6] 7)
      · refine St.nw s6 fun r1 W2 s8 _ _ => ?_
        refine (s8.bring 2).ld (i := 2) (s := .slice) (p := s) rfl ?_
        refine hcall (s8.bring 3) fun t W' s7 => ?_
        exact fin (s7.sel [0, 2, 4, 1, 5, 6] 7)
  -- it is not there
  refine br_f rfl ?_
  refine st.ld (i := 2) (s := .slice) (p := s) rfl ?_
  rw [show IntKind.wrap .i64 ((s.len : Int) - 1) = (s.len : Int) - 1 from wrap_i64 (by omega)]
  refine loop_of (fun z W => ∃ j : Nat, z.2 = (j : Int) - 1 ∧ j ≤ bl.length ∧ w = W ∧ ((z.1 = -1 ∧ ∀ (a : Nat) x, j ≤ a → bl[a]? = some x → x.dirty = true) ∨ ∃ (m : Nat) (x : Rx), z.1 = m ∧ j ≤ m ∧ bl[m]? = some x ∧ x.dirty = false ∧ ∀ (a : Nat) y, j ≤ a → a < m → bl[a]? = some y → y.dirty = true)) (fun z _ => (z.2 + 1).toNat)
    ⟨bl.length, by rw [hsl], Nat.le_refl _, rfl, .inl ⟨rfl, fun a x ha hx => by have := (split_at hx).2; omega⟩⟩ ?_
  rintro ⟨old, _⟩ _ ⟨j, rfl, hj, rfl, hold⟩
  dsimp only at hold ⊢
  refine br_of (fun hge => ?_) (fun hlt => ?_)
  · simp only [ge_iff_le, decide_eq_true_eq] at hge
    obtain ⟨j, rfl⟩ : ∃ a, j = a + 1 := ⟨j - 1, by omega⟩
    rw [show ((j + 1 : Nat) : Int) - 1 = (j : Int) by omega]
    have hjl : j < bl.length := by omega
    have hx : bl[j]? = some bl[j] := by simp
    refine jn_of (fun o W => w = W ∧ o = if bl[j].dirty = true then old else (j : Int)) ?_ ?_
    · refine st.ld (i := 2) (s := .slice) (p := s) rfl ?_
      refine rx_at (st.bring 1).sl hx (n := 2) (c := .bool) (q := bl[j].dirty) rfl ?_
      refine br_of (fun hd => ⟨rfl, ?_⟩) (fun hd => ⟨rfl, ?_⟩)
      · rw [if_neg (by simpa using hd)]
      · rw [if_pos (by simpa using hd)]
    · rintro o _ ⟨rfl, rfl⟩
      rw [show IntKind.wrap .i64 ((j : Int) - 1) = (j : Int) - 1 from wrap_i64 (by omega)]
      refine ⟨⟨j, rfl, by omega, rfl, ?_⟩, by omega⟩
      by_cases hd : bl[j].dirty = true
      · rw [if_pos hd]
        have hup : ∀ (a : Nat) x, j ≤ a → bl[a]? = some x → a = j ∧ x.dirty = true ∨ j + 1 ≤ a := by
          intro a x ha hxa
          rcases Nat.lt_or_ge j a with h' | h'
          · exact .inr h'
          · have : a = j := by omega
            subst this
            rw [hx] at hxa
            exact .inl ⟨rfl, by rw [← Option.some.inj hxa]; exact hd⟩
        rcases hold with ⟨h1, h2⟩ | ⟨m, x, h1, h2, h3, h4, h5⟩
        · exact .inl ⟨h1, fun a x ha hxa => (hup a x ha hxa).elim (fun h => h.2) fun h => h2 a x h hxa⟩
        · exact .inr ⟨m, x, h1, by omega, h3, h4, fun a y ha ham hya => (hup a y ha hya).elim (fun h => h.2) fun h => h5 a y h ham hya⟩
      · rw [if_neg hd]
        exact .inr ⟨j, bl[j], rfl, Nat.le_refl _, hx, by simpa using hd, fun a y ha ham => by omega⟩
  simp only [ge_iff_le, decide_eq_false_iff_not] at hlt
  have hj0 : j = 0 := by omega
  subst hj0
  clear hlt
  have sd := st.drew
  refine jn_of (fun b W => b = decide (M.room ≤ (M.l.length : Int) ∧ old < 0) ∧ w.drew = W) ?_ ?_
  · rw [drw_def]
    refine sd.ld (i := 2) (s := .slice) (p := s) rfl ?_
    refine sd.ld (i := 1) (s := .int .i64) (p := M.room) rfl ?_
    refine br_of (fun hf => ⟨?_, rfl⟩) (fun hf => ⟨?_, rfl⟩)
    · simp only [ge_iff_le, decide_eq_true_eq] at hf
      rw [decide_eq_decide]; omega
    · simp only [ge_iff_le, decide_eq_false_iff_not] at hf
      symm; rw [decide_eq_false_iff_not]; omega
  rintro _ _ ⟨rfl, rfl⟩
  have hdall : old < 0 → ∀ x ∈ M.l, x.dirty = true := by
    intro ho y hy
    rcases hold with ⟨_, h2⟩ | ⟨m, x, h1, _⟩
    · rw [hl] at hy
      obtain ⟨x, hx, rfl⟩ := List.mem_map.1 hy
      obtain ⟨a, ha⟩ := List.getElem?_of_mem hx
      exact h2 a x (Nat.zero_le _) ha
    · omega
  by_cases hfo : M.room ≤ (M.l.length : Int) ∧ old < 0
  · refine br_t (by simp only [hfo, and_self, decide_true]) ⟨M, .full hno hfo.1 (hdall hfo.2), ?_⟩
    exact sd.rClose hl
  refine br_f (by simp only [hfo, decide_false]) ?_
  refine sd.ld (i := 0) (s := .ptr) (p := some ⟨dp, 0, none⟩) rfl ?_
  obtain ⟨G2, _, _, g2, _, _, _, _⟩ := (sd.bring 3).call1
  refine callF_of (C97 dp D i _ G2 g2 hD hwl) ?_
  rintro ⟨u, e⟩ w3 ⟨he, s3⟩
  dsimp only at he s3 ⊢
  subst he
  have s4 := sd.call0 s3
  have hclean : ¬ old < 0 → ∃ (m : Nat) (x : Rx), old = m ∧ bl[m]? = some x ∧ x.dirty = false ∧ ∀ (a : Nat) y, a < m → bl[a]? = some y → y.dirty = true := by
    intro ho
    rcases hold with ⟨h1, _⟩ | ⟨m, x, h1, _, h3, h4, h5⟩
    · rw [h1] at ho; exact absurd (by decide) ho
    · exact ⟨m, x, h1, h3, h4, fun a y ha => h5 a y (Nat.zero_le _) ha⟩
  refine br_of (fun hne => ?_) (fun heq => ?_)
  · have hne : placeE D i ≠ 0 := by simpa using hne
    refine ⟨M, .err hno hne fun hf => ?_, s4.drop.rClose hl⟩
    obtain ⟨m, x, _, h1, h2, _⟩ := hclean fun ho => hfo ⟨hf, ho⟩
    exact ⟨x.m, by rw [hl]; exact List.mem_map.2 ⟨x, List.mem_of_getElem? h1, rfl⟩, h2⟩
  have hp0 : placeE D i = 0 := by simpa using heq
  rw [if_pos hp0] at s4
  refine jn_of (fun _ W => ∃ (s2 : Sl) (bl2 : List Rx), bl2.length ≤ 100000 ∧ ((¬ M.room ≤ (M.l.length : Int) ∧ bl2.map Rx.m = M.l) ∨ (M.room ≤ (M.l.length : Int) ∧ ∃ (k : Nat) (y : Rb), M.l[k]? = some y ∧ y.dirty = false ∧ (∀ (j : Nat) z, j < k → M.l[j]? = some z → z.dirty = true) ∧ bl2.map Rx.m = M.l.eraseIdx k)) ∧
      St F w W [BoxA c [P0 dp, .int .i64 M.room, slV s2], SlA 3 s2 (bl2.flatMap Rx.cells), bigA (bl2.map rxA), SlA 1 u ((rdD D i).map ub), DiskA dp D]) ?_ ?_
  · rw [drw_def]
    have s5 := (s4.drew).sel [1, 2, 3, 0, 4] 5
    refine s5.ld (i := 2) (s := .slice) (p := s) rfl ?_
    refine s5.ld (i := 1) (s := .int .i64) (p := M.room) rfl ?_
    refine br_of (fun hf => ?_) (fun hf => ?_)
    · simp only [ge_iff_le, decide_eq_true_eq] at hf
      have hf' : M.room ≤ (M.l.length : Int) := by omega
      obtain ⟨m, x, rfl, h1, h2, h3⟩ := hclean fun ho => hfo ⟨hf', ho⟩
      refine s5.ld (i := 2) (s := .slice) (p := s) rfl ?_
      refine callF_of (C96 s bl m _ (s5.bring 1).sl (by omega)) ?_
      rintro t W' s6
      have s7 := s5.call0 s6
      refine (s7.bring 1).st (i := 2) (by simp) trivial fun W2 s8 => ?_
      have hel := List.length_eraseIdx_le bl m
      refine ⟨t, bl.eraseIdx m, by omega, .inr ⟨hf', m, x.m, by rw [hl, List.getElem?_map, h1]; rfl, h2, fun j z hj hz => ?_, by rw [eraseIdx_map, ← hl]⟩, ?_⟩
      · rw [hl, List.getElem?_map] at hz
        cases hb : bl[j]? with
        | none => rw [hb] at hz; cases hz
        | some y => rw [hb] at hz; rw [← Option.some.inj hz]; exact h3 j y hj hb
      · have s9 := (s8.sel [3, 0, 1, 4, 5] 6).pick (i := m) (A := rxA x) (by rw [List.getElem?_map, h1]; rfl)
        rw [eraseIdx_map]
        exact s9.sel [2, 3, 1, 4, 5] 6
    · simp only [ge_iff_le, decide_eq_false_iff_not] at hf
      exact ⟨s, bl, hbl, .inl ⟨by omega, hl.symm⟩, s5⟩
  rintro ⟨⟩ W ⟨s2, bl2, hb2, hcase, s5⟩
  refine s5.ld (i := 2) (s := .slice) (p := s2) rfl ?_
  refine St.nw s5 fun r W2 s6 _ _ => ?_
  refine r_push (x := ⟨i, u, rdD D i, false⟩) (by omega) (s6.sel [2, 0, 1, 3, 4, 5] 6) fun t' W3 s7 => ?_
  have s8 := (St.push (A := rxA ⟨i, u, rdD D i, false⟩) (s7.sel [3, 2, 0, 1, 4] 5))
  have e : bl2.map rxA ++ [rxA ⟨i, u, rdD D i, false⟩] = (bl2 ++ [(⟨i, u, rdD D i, false⟩ : Rx)]).map rxA := by rw [List.map_append]; rfl
  rw [e] at s8
  have s9 := s8.sel [1, 2, 0, 3] 4
  have hm9 : (bl2 ++ [(⟨i, u, rdD D i, false⟩ : Rx)]).map Rx.m = bl2.map Rx.m ++ [newR D i] := by rw [List.map_append]; rfl
  rcases hcase with ⟨hf, hm⟩ | ⟨hf, k, y, h1, h2, h3, hm⟩
  · exact ⟨{ M with l := M.l ++ [newR D i] }, .more hno hp0 hf, s9.rClose (M := { M with l := M.l ++ [newR D i] }) (by rw [hm9, hm])⟩
  · exact ⟨{ M with l := M.l.eraseIdx k ++ [newR D i] }, .swap hno hp0 hf k y h1 h2 h3, s9.rClose (M := { M with l := M.l.eraseIdx k ++ [newR D i] }) (by rw [hm9, hm])⟩
end Go.Proofs

/-! Layer 9, the document's cache: New, Read, Write, Dirty, Clean. -/
namespace Go.Proofs
open Go.Eng

theorem C44 (dp : Nat) (room : Int) (w : World) : Calls Try.prog 44 #[P0 dp, .int .i64 room] w (RetT [.c .ptr, .c (.int .i64)] fun r w' =>
    if 2 ≤ room ∧ room ≤ 256 then r.2 = 0 ∧ ∃ c, r.1 = some ⟨c, 0, none⟩ ∧ St noF w w' [RCacheA c dp ⟨room, []⟩] else r = (none, 1) ∧ w = w') := by
  refine F44_calls _ _ _ _ ?_
  unfold F44
  refine jn_of (fun b w' => b = decide (room < 2 ∨ room > 256) ∧ w = w') ?_ ?_
  · refine br_of (fun h0 => ⟨?_, rfl⟩) (fun h0 => ⟨?_, rfl⟩)
    · simp only [decide_eq_true_eq] at h0
      symm; rw [decide_eq_true_eq]; exact .inl h0
    · simp only [decide_eq_false_iff_not] at h0
      rw [decide_eq_decide]; omega
  · rintro _ _ ⟨rfl, rfl⟩
    by_cases hc : room < 2 ∨ room > 256
    · refine br_t (by simp [hc]) ?_
      dsimp only
      rw [if_neg (by omega)]
      exact ⟨rfl, rfl⟩
    · refine br_f (by simp [hc]) ?_
      refine St.nw (St.init0 w) fun c w2 s2 _ _ => ?_
      dsimp only
      rw [if_pos (by omega)]
      have s3 : St noF w w2 (BoxA c [P0 dp, .int .i64 room, slV ⟨none, 0, 0⟩] :: SlA 3 ⟨none, 0, 0⟩ (([] : List Rx).flatMap Rx.cells) :: bigA (([] : List Rx).map rxA) :: []) := (s2.nosl 3).nobig.sel [2, 1, 0] 3
      exact ⟨rfl, c, rfl, St.rClose (M := ⟨room, []⟩) (bl := []) s3 rfl⟩

theorem ComesR.last {M M' : RM} {D : DM} {i : Int} (h : ComesR M D i 0 M') : ∃ pre x, M'.l = pre ++ [x] ∧ x.key = i := by
  generalize he : (0 : Int) = e at h
  cases h with
  | hit k x h1 h2 => exact ⟨_, x, rfl, h2⟩
  | full no hf hd => cases he
  | err no he' hc => exact absurd he.symm he'
  | more no hp hf => exact ⟨_, _, rfl, rfl⟩
  | swap no hp hf k y h1 h2 h3 => exact ⟨_, _, rfl, rfl⟩

/-- what a reference's cache is to be, for a walk -/
structure RM.ok (M : RM) : Prop where
  len : ∀ x ∈ M.l, x.b.length = 256
  le : M.l.length ≤ 1000
  nod : (M.l.map (·.key)).Nodup

def ReadR (M : RM) (D : DM) (i e : Int) (M' : RM) (out : List UInt8) : Prop :=
  (¬ (0 ≤ i ∧ i < D.blocks.length) ∧ e = 30 ∧ M' = M ∧ out = []) ∨
  ((0 ≤ i ∧ i < D.blocks.length) ∧ ComesR M D i e M' ∧ ((e ≠ 0 ∧ out = []) ∨ (e = 0 ∧ ∃ pre x, M'.l = pre ++ [x] ∧ out = x.b)))

/-- the disk's number of blocks, asked for through the cache -/
theorem dlen {c dp : Nat} {M : RM} {D : DM} {w : World} {F : Nat → Prop} (h : Has [RCacheA c dp M, DiskA dp D] w F) (i : Int) {f : Bool → Pr} (hk : f (decide (i ≥ D.blocks.length)) w) :
    (deref (some ⟨c, 0, none⟩) fun a => deref (some a) fun a_1 => deref (some (a_1.add 0)) fun a_2 => ldC .ptr a_2 fun t14 => deref t14 fun a_3 => deref (some a_3) fun a_4 => deref (some (a_4.add 0)) fun a_5 => ldC .slice a_5 fun t17 => f (decide (i ≥ (t17.len : Int)))) w := by
  obtain ⟨s, bl, hl, st⟩ := (St.init h).rOpen
  simp only [deref_some']
  refine st.ld (i := 0) (s := .ptr) (p := some ⟨dp, 0, none⟩) rfl ?_
  simp only [deref_some']
  obtain ⟨di, sd⟩ := (st.bring 3).ex
  obtain ⟨⟨hb, hw⟩, sd⟩ := sd.p
  refine sd.ld (i := 0) (s := .slice) (p := di.bs) rfl ?_
  have hbs := slA_len1 (sd.bring 1).sl
  rw [List.length_map] at hbs
  have : di.bs.len = D.blocks.length := by rw [hbs, hb]; simp
  rw [this]
  exact hk

theorem last_get {α : Type} {l pre : List α} {x : α} (h : l = pre ++ [x]) : l[pre.length]? = some x ∧ l.length = pre.length + 1 := by
  subst h
  exact ⟨by rw [List.getElem?_append_right (Nat.le_refl _), Nat.sub_self]; rfl, by simp⟩

theorem map_get {α β : Type} {f : α → β} {l : List α} {i : Nat} {y : β} (h : (l.map f)[i]? = some y) : ∃ x, l[i]? = some x ∧ f x = y := by
  rw [List.getElem?_map] at h
  cases hb : l[i]? with
  | none => rw [hb] at h; cases h
  | some x => rw [hb] at h; exact ⟨x, rfl, Option.some.inj h⟩

/-- the last buffer's bytes after a block came in -/
theorem ComesR.b256 {M M' : RM} {D : DM} {i e : Int} (h : ComesR M D i e M') (hok : M.ok) (hD : D.ok) : ∀ x ∈ M'.l, x.b.length = 256 := by
  cases h with
  | hit k x h1 h2 =>
    intro y hy
    rcases List.mem_append.1 hy with h | h
    · exact hok.len y (List.mem_of_mem_eraseIdx h)
    · rw [List.mem_singleton] at h; subst h; exact hok.len _ (List.mem_of_getElem? h1)
  | full no hf hd => exact hok.len
  | err no he' hc => exact hok.len
  | more no hp hf =>
    obtain ⟨_, p1, p2⟩ := place0 hp
    intro y hy
    rcases List.mem_append.1 hy with h | h
    · exact hok.len y h
    · rw [List.mem_singleton] at h; subst h; exact rdD_len hD p1 p2
  | swap no hp hf k y h1 h2 h3 =>
    obtain ⟨_, p1, p2⟩ := place0 hp
    intro y hy
    rcases List.mem_append.1 hy with h | h
    · exact hok.len y (List.mem_of_mem_eraseIdx h)
    · rw [List.mem_singleton] at h; subst h; exact rdD_len hD p1 p2
theorem ComesR.le {M M' : RM} {D : DM} {i e : Int} (h : ComesR M D i e M') : M'.l.length ≤ M.l.length + 1 := by
  cases h with
  | hit k x h1 h2 => have := List.length_eraseIdx_le M.l k; show (M.l.eraseIdx k ++ [x]).length ≤ _; rw [List.length_append, List.length_singleton]; omega
  | full no hf hd => omega
  | err no he' hc => omega
  | more no hp hf => show (M.l ++ [_]).length ≤ _; rw [List.length_append, List.length_singleton]; omega
  | swap no hp hf k y h1 h2 h3 => have := List.length_eraseIdx_le M.l k; show (M.l.eraseIdx k ++ [_]).length ≤ _; rw [List.length_append, List.length_singleton]; omega

theorem C45 (c dp : Nat) (M : RM) (D : DM) (i : Int) (w : World) (F : Nat → Prop) (h : Has [RCacheA c dp M, DiskA dp D] w F) (hok : M.ok) (hD : D.ok) (hwl : D.wait.length ≤ 1000000000) :
    Calls Try.prog 45 #[P0 c, .int .i64 i] w (RetT [.c .slice, .c (.int .i64)] fun r w' => ∃ M' out, ReadR M D i r.2 M' out ∧ St F w w' [SlA 1 r.1 (out.map ub), RCacheA c dp M', DiskA dp D]) := by
  refine F45_calls _ _ _ _ ?_
  unfold F45
  have hMl := hok.le
  refine jn_of (fun b W => b = decide (i < 0 ∨ i ≥ D.blocks.length) ∧ w = W) ?_ ?_
  · refine br_of (fun h0 => ⟨?_, rfl⟩) (fun h0 => ?_)
    · simp only [decide_eq_true_eq] at h0
      symm; rw [decide_eq_true_eq]; exact .inl h0
    · simp only [decide_eq_false_iff_not] at h0
      refine dlen h i (f := fun b W => b = decide (i < 0 ∨ i ≥ D.blocks.length) ∧ w = W) ⟨?_, rfl⟩
      rw [decide_eq_decide]; omega
  rintro _ _ ⟨rfl, rfl⟩
  by_cases hc : i < 0 ∨ i ≥ D.blocks.length
  · exact br_t (by simp [hc]) ⟨M, [], .inl ⟨by omega, rfl, rfl, rfl⟩, (St.init h).nosl 1⟩
  refine br_f (by simp [hc]) ?_
  refine callF_of (C78 c dp M D i w F h (by omega) hD hwl) ?_
  rintro e w1 ⟨M', hq, s1⟩
  refine br_of (fun hne => ?_) (fun heq => ?_)
  · exact ⟨M', [], .inr ⟨by omega, hq, .inl ⟨by simpa using hne, rfl⟩⟩, s1.nosl 1⟩
  have he : e = 0 := by simpa using heq
  subst he
  obtain ⟨pre, x, hx, _⟩ := hq.last
  obtain ⟨s, bl, hl, st⟩ := St.rOpen s1
  obtain ⟨hx1, hx2⟩ := last_get hx
  rw [hl] at hx1
  obtain ⟨bx, hb1, rfl⟩ := map_get hx1
  have hsl := rx_len (st.bring 1).sl
  have hbl : bl.length = pre.length + 1 := by rw [hl, List.length_map] at hx2; exact hx2
  have hle := hq.le
  rw [hx2] at hle
  rw [drw_def]
  have sd := st.drew
  simp only [deref_some']
  refine sd.ld (i := 2) (s := .slice) (p := s) rfl ?_
  refine sd.ld (i := 2) (s := .slice) (p := s) rfl ?_
  rw [show IntKind.wrap .i64 ((s.len : Int) - 1) = ((pre.length : Nat) : Int) by rw [wrap_i64 (by omega)]; omega]
  refine rx_at (sd.bring 1).sl hb1 (n := 1) (c := .slice) (q := bx.s) rfl ?_
  have hbs := ((sd.bring 2).pick (i := pre.length) (A := rxA bx) (by rw [List.getElem?_map, hb1]; rfl)).sl.bs
  have h256 := hq.b256 hok hD bx.m (by rw [hx]; simp)
  have hbl2 := hbs.len
  have h256' : bx.b.length = 256 := h256
  refine clone_app hbs (by omega) fun t w2 ht g => ?_
  have s3 := (st.drew.rClose hl).mksl g ht
  exact ⟨M', bx.b, .inr ⟨by omega, hq, .inr ⟨rfl, pre, bx.m, hx, rfl⟩⟩, s3⟩

/-! ### writing into a buffer's cells -/

theorem flat_set {bl : List Rx} {k n : Nat} {x x' : Rx} {v : Value} (hx : bl[k]? = some x) (hn : n < 3) (he : x'.cells = x.cells.set n v) : (bl.flatMap Rx.cells).set (k * 3 + n) v = (bl.set k x').flatMap Rx.cells := by
  have h1 := split_at hx
  have hlen : ((bl.take k).flatMap Rx.cells).length = k * 3 := by rw [flatMap_len Rx.cells_len, List.length_take, Nat.min_eq_left (by omega)]
  have e1 : bl.flatMap Rx.cells = (bl.take k).flatMap Rx.cells ++ (x.cells ++ (bl.drop (k + 1)).flatMap Rx.cells) := by
    conv => lhs; rw [h1.1]
    rw [List.flatMap_append, List.flatMap_cons]
  have e2 : (bl.set k x').flatMap Rx.cells = (bl.take k).flatMap Rx.cells ++ (x'.cells ++ (bl.drop (k + 1)).flatMap Rx.cells) := by
    rw [List.set_eq_take_append_cons_drop, if_pos h1.2, List.flatMap_append, List.flatMap_cons]
  rw [e1, e2, List.set_append_right _ _ (by omega), hlen, Nat.add_sub_cancel_left, List.set_append_left _ _ (by rw [Rx.cells_len]; exact hn), he]

theorem rx_st {F0 : Nat → Prop} {w0 w : World} {L : List HA} {s : Sl} {bl : List Rx} {k n : Nat} {x x' : Rx} {v : Value} {f : Pr} (h : St F0 w0 w (SlA 3 s (bl.flatMap Rx.cells) :: L)) (hx : bl[k]? = some x) (hn : n < 3) (he : x'.cells = x.cells.set n v) (hv : NotAgg v)
    (hf : ∀ w', St F0 w0 w' (SlA 3 s ((bl.set k x').flatMap Rx.cells) :: L) → f w') :
    (owe ((0 : Int) ≤ (k : Int) ∧ (k : Int) < (s.len : Int)) <| deref s.a fun a => Eng.st (Addr.add (a.add (Int.toNat (k : Int) * 3)) n) v f) w := by
  have hsl := rx_len h.sl
  have hk := (split_at hx).2
  refine ⟨⟨by omega, by omega⟩, ?_⟩
  obtain ⟨ad, ha, hst⟩ := h.put (i := k * 3 + n) (v := v) (k := f) (by rw [flatMap_len Rx.cells_len]; omega) hv fun w' s' => hf w' (by rw [← flat_set hx hn he]; exact s')
  rw [ha]
  simp only [deref_some', Int.toNat_natCast, add_add]
  exact hst

def WriteR (M : RM) (D : DM) (i off : Int) (l : List UInt8) (e : Int) (M' : RM) : Prop :=
  (¬ (0 ≤ i ∧ i < D.blocks.length) ∧ e = 30 ∧ M' = M) ∨
  ((0 ≤ i ∧ i < D.blocks.length) ∧ ¬ (0 ≤ off ∧ off + l.length ≤ 256) ∧ e = 1 ∧ M' = M) ∨
  ((0 ≤ i ∧ i < D.blocks.length) ∧ (0 ≤ off ∧ off + l.length ≤ 256) ∧ ∃ M1, ComesR M D i e M1 ∧ (((e ≠ 0 ∨ l = []) ∧ M' = M1) ∨ (e = 0 ∧ l ≠ [] ∧ ∃ pre x, M1.l = pre ++ [x] ∧ M' = { M1 with l := pre ++ [{ x with b := lay x.b off.toNat l, dirty := true }] })))

theorem C46 (c dp : Nat) (M : RM) (D : DM) (i off : Int) (b : Sl) (l : List UInt8) (w : World) (F : Nat → Prop) (h : Has [RCacheA c dp M, DiskA dp D] w F) (hb : Rd w F b l) (hok : M.ok) (hD : D.ok) (hwl : D.wait.length ≤ 1000000000) :
    Calls Try.prog 46 #[P0 c, .int .i64 i, .int .i64 off, .slice b.a b.len b.cap] w (RetT [.c (.int .i64)] fun r w' => ∃ M', WriteR M D i off l r M' ∧ St F w w' [RCacheA c dp M', DiskA dp D]) := by
  refine F46_calls _ _ _ _ _ _ ?_
  unfold F46
  have hMl := hok.le
  have hbl := hb.bs.len
  refine jn_of (fun b W => b = decide (i < 0 ∨ i ≥ D.blocks.length) ∧ w = W) ?_ ?_
  · refine br_of (fun h0 => ⟨?_, rfl⟩) (fun h0 => ?_)
    · simp only [decide_eq_true_eq] at h0
      symm; rw [decide_eq_true_eq]; exact .inl h0
    · simp only [decide_eq_false_iff_not] at h0
      refine dlen h i (f := fun b W => b = decide (i < 0 ∨ i ≥ D.blocks.length) ∧ w = W) ⟨?_, rfl⟩
      rw [decide_eq_decide]; omega
  rintro _ _ ⟨rfl, rfl⟩
  by_cases hc : i < 0 ∨ i ≥ D.blocks.length
  · exact br_t (by simp [hc]) ⟨M, .inl ⟨by omega, rfl, rfl⟩, St.init h⟩
  refine br_f (by simp [hc]) ?_
  refine jn_of (fun q W => q = decide (¬ (0 ≤ off ∧ off + l.length ≤ 256)) ∧ w = W) ?_ ?_
  · refine br_of (fun h1 => ⟨?_, rfl⟩) (fun h1 => br_of (fun h2 => ⟨?_, rfl⟩) (fun h2 => ⟨?_, rfl⟩))
    · simp only [decide_eq_true_eq] at h1
      symm; rw [decide_eq_true_eq]; omega
    · simp only [gt_iff_lt, decide_eq_true_eq] at h2
      symm; rw [decide_eq_true_eq]; omega
    · simp only [decide_eq_false_iff_not] at h1 h2
      rw [wrap_i64 (by omega), decide_eq_decide]; omega
  rintro _ _ ⟨rfl, rfl⟩
  by_cases hlo : 0 ≤ off ∧ off + l.length ≤ 256
  rotate_left
  · exact br_t (by simp only [hlo, not_false_eq_true, decide_true]) ⟨M, .inr (.inl ⟨by omega, hlo, rfl, rfl⟩), St.init h⟩
  refine br_f (by simp only [hlo, and_self, not_true_eq_false, decide_false]) ?_
  refine callF_of (C78 c dp M D i w F h (by omega) hD hwl) ?_
  rintro e w1 ⟨M', hq, s1⟩
  refine br_of (fun hne => ?_) (fun heq => ?_)
  · exact ⟨M', .inr (.inr ⟨by omega, hlo, M', hq, .inl ⟨.inl (by simpa using hne), rfl⟩⟩), s1⟩
  have he : e = 0 := by simpa using heq
  subst he
  refine br_of (fun h0 => ?_) (fun h0 => ?_)
  · have : l = [] := List.eq_nil_of_length_eq_zero (by simp at h0; omega)
    exact ⟨M', .inr (.inr ⟨by omega, hlo, M', hq, .inl ⟨.inr this, rfl⟩⟩), s1⟩
  have hln : l ≠ [] := fun h => by rw [h] at hbl; simp at hbl h0; omega
  obtain ⟨pre, x, hx, _⟩ := hq.last
  obtain ⟨s, bl, hl, st⟩ := St.rOpen s1
  obtain ⟨hx1, hx2⟩ := last_get hx
  rw [hl] at hx1
  obtain ⟨bx, hb1, rfl⟩ := map_get hx1
  have hsl := rx_len (st.bring 1).sl
  have hbll : bl.length = pre.length + 1 := by rw [hl, List.length_map] at hx2; exact hx2
  have hle := hq.le
  rw [hx2] at hle
  simp only [deref_some']
  refine st.ld (i := 2) (s := .slice) (p := s) rfl ?_
  refine st.ld (i := 2) (s := .slice) (p := s) rfl ?_
  rw [show IntKind.wrap .i64 ((s.len : Int) - 1) = ((pre.length : Nat) : Int) by rw [wrap_i64 (by omega)]; omega]
  refine rx_at (st.bring 1).sl hb1 (n := 1) (c := .slice) (q := bx.s) rfl ?_
  have hbs := ((st.bring 2).pick (i := pre.length) (A := rxA bx) (by rw [List.getElem?_map, hb1]; rfl)).sl.bs
  have h256 := hq.b256 hok hD bx.m (by rw [hx]; simp)
  have hbl2 := hbs.len
  have h256' : bx.b.length = 256 := h256
  refine clone_app hbs (by omega) fun t w2 ht g => ?_
  have s3 := st.mksl g ht
  refine St.cpy_lo s3 (hb.at s3) hlo.1 (by omega) fun w3 s4 => ?_
  refine (s4.bring 1).ld (i := 2) (s := .slice) (p := s) rfl ?_
  refine rx_st (s4.bring 2) hb1 (n := 1) (x' := { bx with s := t, b := lay bx.b off.toNat l }) (by omega) rfl trivial fun w4 s5 => ?_
  refine (s5.bring 2).ld (i := 2) (s := .slice) (p := s) rfl ?_
  have hb2 : (bl.set pre.length { bx with s := t, b := lay bx.b off.toNat l })[pre.length]? = some { bx with s := t, b := lay bx.b off.toNat l } := by rw [List.getElem?_set_self (by omega)]
  refine rx_st s5 hb2 (n := 2) (x' := { bx with s := t, b := lay bx.b off.toNat l, dirty := true }) (by omega) rfl trivial fun w5 s6 => ?_
  rw [List.set_set] at s6
  -- cells, t, c, big, disk
  have s7 := (s6.sel [3, 0, 1, 2, 4] 5).pick (i := pre.length) (A := rxA bx) (by rw [List.getElem?_map, hb1]; rfl)
  have s8 := St.unpick (A := rxA { bx with s := t, b := lay bx.b off.toNat l, dirty := true }) (s7.sel [3, 1, 2, 4, 5] 6) (by rw [List.length_map]; omega)
  have e1 : (bl.map rxA).set pre.length (rxA { bx with s := t, b := lay bx.b off.toNat l, dirty := true }) = (bl.set pre.length { bx with s := t, b := lay bx.b off.toNat l, dirty := true }).map rxA := by rw [List.map_set]
  rw [e1] at s8
  refine ⟨{ M' with l := pre ++ [{ bx.m with b := lay bx.b off.toNat l, dirty := true }] }, .inr (.inr ⟨by omega, hlo, M', hq, .inr ⟨rfl, hln, pre, bx.m, hx, rfl⟩⟩), ?_⟩
  refine (s8.sel [2, 1, 0, 3] 4).rClose (M := { M' with l := pre ++ [{ bx.m with b := lay bx.b off.toNat l, dirty := true }] }) ?_
  rw [List.map_set, ← hl, hx, List.set_append_right _ _ (Nat.le_refl _), Nat.sub_self]
  rfl
end Go.Proofs

/-! Layer 9, the document's cache: Dirty, Clean. -/
namespace Go.Proofs
open Go.Eng

def hasD (M : RM) (k : Int) : Bool := M.l.any fun x => x.key == k && x.dirty
def dirtyR (M : RM) (n : Nat) : List Int := ((List.range n).filter fun (j : Nat) => hasD M (j : Int)).map fun (j : Nat) => (j : Int)

theorem dirtyR_succ (M : RM) (n : Nat) : dirtyR M (n + 1) = dirtyR M n ++ (if hasD M (n : Int) = true then [(n : Int)] else []) := by
  unfold dirtyR
  rw [List.range_succ, List.filter_append, List.map_append, List.filter_cons, List.filter_nil]
  cases hasD M (n : Int) <;> rfl
theorem dirtyR_len (M : RM) (n : Nat) : (dirtyR M n).length ≤ n := by
  unfold dirtyR
  rw [List.length_map]
  have := List.length_filter_le (fun (j : Nat) => hasD M (j : Int)) (List.range n)
  simpa using this

theorem at_has {M : RM} (hok : M.ok) {i : Int} {k : Nat} {x : Rb} (hk : M.l[k]? = some x) (hx : x.key = i) : hasD M i = x.dirty := by
  unfold hasD
  rw [Bool.eq_iff_iff, List.any_eq_true]
  constructor
  · rintro ⟨y, hy, h⟩
    simp only [Bool.and_eq_true, beq_iff_eq] at h
    obtain ⟨j, hj⟩ := List.getElem?_of_mem hy
    have e1 : (M.l.map (·.key))[j]? = some i := by rw [List.getElem?_map, hj, ← h.1]; rfl
    have e2 : (M.l.map (·.key))[k]? = some i := by rw [List.getElem?_map, hk, ← hx]; rfl
    have := (List.getElem?_inj (split_at e1).2 hok.nod).1 (e1.trans e2.symm)
    subst this
    rw [hk] at hj
    rw [Option.some.inj hj]; exact h.2
  · intro h
    exact ⟨x, List.mem_of_getElem? hk, by simp [hx, h]⟩

theorem C79 (c dp : Nat) (M : RM) (D : DM) (w : World) (F : Nat → Prop) (h : Has [RCacheA c dp M, DiskA dp D] w F) (hok : M.ok) (hD : D.ok) :
    Calls Try.prog 79 #[P0 c] w (RetT [.c .slice] fun r w' => St noF w w' [SlA 1 r (ints (dirtyR M D.blocks.length))]) := by
  refine F79_calls _ _ _ ?_
  unfold F79
  have hMl := hok.le
  have hF : ∀ W, Grow w W → Has [RCacheA c dp M, DiskA dp D] W F := fun W g => h.mod g fun _ _ h => h
  obtain ⟨s, bl, hl, st⟩ := (St.init h).rOpen
  obtain ⟨G2, _, _, g2, _, _, _, _⟩ := (st.bring 3).call1
  obtain ⟨di, hb, hr, vs, hbx⟩ := rows_of g2 hD
  have hbl := hr.blen
  have hbn : bl.length = M.l.length := by rw [hl]; simp
  have hdl : di.bl.length = D.blocks.length := by rw [hb]; simp
  simp only [deref_some']
  have hcD : ∀ {W : World} {f : Option Addr → Pr}, Grow w W → f (some ⟨dp, 0, none⟩) W → ldC .ptr (Addr.add ⟨c, 0, none⟩ 0) f W := fun g hf => (st.box.grow g).ld (i := 0) (s := .ptr) (p := some ⟨dp, 0, none⟩) rfl hf
  have hcL : ∀ {W : World} {f : Sl → Pr}, Grow w W → f s W → ldC .slice (Addr.add ⟨c, 0, none⟩ 2) f W := fun g hf => (st.box.grow g).ld (i := 2) (s := .slice) (p := s) rfl hf
  have hD' := hD.le
  refine loop_of (fun z W => ∃ j : Nat, z.2 = j ∧ j ≤ D.blocks.length ∧ St noF w W [SlA 1 z.1 (ints (dirtyR M j))]) (fun z _ => D.blocks.length - z.2.toNat) ⟨0, rfl, by omega, (St.init0 w).nosl 1⟩ ?_
  rintro ⟨u, _⟩ W ⟨j, rfl, hj, s1⟩
  dsimp only at s1 ⊢
  refine hcD s1.gro ?_
  simp only [deref_some']
  refine (hbx.grow s1.gro).ld (i := 0) (s := .slice) (p := di.bs) rfl ?_
  refine br_of (fun hlt => ?_) (fun hge => ?_)
  · simp only [decide_eq_true_eq] at hlt
    have hjl : j < D.blocks.length := by omega
    have hlen := dirtyR_len M j
    have hul := slA_len1 s1.sl
    rw [ints_length] at hul
    refine jn_of (fun t W' => St noF w W' [SlA 1 t (ints (dirtyR M (j + 1)))]) ?_ ?_
    · obtain ⟨G1, _, _, g1, _, _, _, _⟩ := (St.init (hF W s1.gro)).call1
      refine callF_of (C80 c dp M j W G1 g1 (by omega)) ?_
      rintro k _ ⟨hat, rfl⟩
      refine jn_of (fun b W' => b = hasD M j ∧ W = W') ?_ ?_
      · rcases hat with ⟨rfl, hno⟩ | ⟨k, x, rfl, hk1, hk2⟩
        · refine br_f rfl ⟨?_, rfl⟩
          symm
          unfold hasD
          show (M.l.any _) = false
          rw [List.any_eq_false]
          intro x hx
          have := hno x hx
          simp [this]
        · refine br_t (by simp only [ge_iff_le, decide_eq_true_eq]; omega) ?_
          rw [hl] at hk1
          obtain ⟨bx, hb1, rfl⟩ := map_get hk1
          refine hcL s1.gro ?_
          refine rx_at ((st.bring 1).sl.grow s1.gro) hb1 (n := 2) (c := .bool) (q := bx.dirty) rfl ⟨?_, rfl⟩
          exact (at_has hok (k := k) (x := bx.m) (by rw [hl]; exact hk1) hk2).symm
      · rintro b _ ⟨rfl, rfl⟩
        have hsucc := dirtyR_succ M j
        refine br_of (fun hb => ?_) (fun hb => ?_)
        · rw [if_pos hb] at hsucc
          refine St.nw s1 fun r W2 s2 _ _ => ?_
          refine (s2.bring 1).app (new := [.int .i64 (j : Int)]) (fun _ => rfl) (fun h => by cases h) (readsAt_row.2 s2.box.row) (by simp) rfl (by decide) (by dsimp only; omega) fun t W3 s3 _ => ?_
          rw [hsucc, show ints (dirtyR M j ++ [(j : Int)]) = ints (dirtyR M j) ++ [.int .i64 (j : Int)] by simp [ints]]
          exact s3.sel [0] 2
        · rw [if_neg (by simp [hb]), List.append_nil] at hsucc
          rw [hsucc]
          exact s1
    · rintro t W' s2
      rw [wrap_succ (by omega)]
      exact ⟨⟨j + 1, rfl, by omega, s2⟩, by omega⟩
  · simp only [decide_eq_false_iff_not] at hge
    have : j = D.blocks.length := by omega
    subst this
    exact s1

def bytesR (M : RM) (k : Int) : List UInt8 := ((M.l.find? (·.key == k)).map (·.b)).getD []
def setCleanR (M : RM) (k : Int) : RM := { M with l := M.l.map fun x => if x.key = k then { x with dirty := false } else x }
def cleanR : List Int → RM → DM → Int × RM × DM
  | [], M, D => (0, M, D)
  | k :: ks, M, D => if (writeD D k (bytesR M k)).1 ≠ 0 then ((writeD D k (bytesR M k)).1, M, (writeD D k (bytesR M k)).2) else cleanR ks (setCleanR M k) (writeD D k (bytesR M k)).2
theorem cleanR_cons (k : Int) (ks : List Int) (M : RM) (D : DM) : cleanR (k :: ks) M D = if (writeD D k (bytesR M k)).1 ≠ 0 then ((writeD D k (bytesR M k)).1, M, (writeD D k (bytesR M k)).2) else cleanR ks (setCleanR M k) (writeD D k (bytesR M k)).2 := rfl
theorem setCleanR_keys (M : RM) (k : Int) : (setCleanR M k).l.map (·.key) = M.l.map (·.key) := by
  unfold setCleanR
  rw [List.map_map]
  refine List.map_congr_left fun x _ => ?_
  show (if x.key = k then _ else _ : Rb).key = x.key
  split <;> rfl

theorem map_if_setR {l : List Rb} {i : Nat} {x : Rb} {f : Rb → Rb} (hn : (l.map (·.key)).Nodup) (hi : l[i]? = some x) : (l.map fun y => if y.key = x.key then f y else y) = l.set i (f x) := by
  refine List.ext_getElem? fun j => ?_
  rw [List.getElem?_map, List.getElem?_set]
  by_cases h : i = j
  · subst h
    rw [hi, if_pos rfl, if_pos (split_at hi).2]
    simp
  · rw [if_neg h]
    cases hj : l[j]? with
    | none => rfl
    | some y =>
      have : y.key ≠ x.key := by
        intro he
        have e1 : (l.map (·.key))[i]? = some x.key := by rw [List.getElem?_map, hi]; rfl
        have e2 : (l.map (·.key))[j]? = some x.key := by rw [List.getElem?_map, hj, ← he]; rfl
        exact h ((List.getElem?_inj (split_at e1).2 hn).1 (e1.trans e2.symm))
      simp [this]

theorem find_atR {l : List Rb} {i : Nat} {x : Rb} (hn : (l.map (·.key)).Nodup) (hi : l[i]? = some x) : l.find? (·.key == x.key) = some x := by
  have h1 := split_at hi
  rw [h1.1, List.find?_append]
  have : (l.take i).find? (·.key == x.key) = none := by
    rw [List.find?_eq_none]
    intro y hy hk
    simp only [beq_iff_eq] at hk
    obtain ⟨j, hj⟩ := List.getElem?_of_mem hy
    rw [List.getElem?_take] at hj
    split at hj
    · rename_i hji
      have e1 : (l.map (·.key))[i]? = some x.key := by rw [List.getElem?_map, hi]; rfl
      have e2 : (l.map (·.key))[j]? = some x.key := by rw [List.getElem?_map, hj, ← hk]; rfl
      have := (List.getElem?_inj (split_at e1).2 hn).1 (e1.trans e2.symm)
      omega
    · cases hj
  rw [this]
  simp

theorem C47 (c dp : Nat) (M : RM) (D : DM) (w : World) (F : Nat → Prop) (h : Has [RCacheA c dp M, DiskA dp D] w F) (hok : M.ok) (hD : D.ok) (N : Nat) (hb : D.bd N) (hN : N ≤ 1000000) :
    Calls Try.prog 47 #[P0 c] w (RetT [.c (.int .i64)] fun r w' => r = (cleanR (dirtyR M D.blocks.length) M D).1 ∧ St F w w' [RCacheA c dp (cleanR (dirtyR M D.blocks.length) M D).2.1, DiskA dp (cleanR (dirtyR M D.blocks.length) M D).2.2]) := by
  refine F47_calls _ _ _ ?_
  unfold F47
  have st := St.init h
  refine callF_of (C79 c dp M D w F h hok hD) ?_
  rintro t w1 s0
  have s1 := st.call0 s0
  replace s1 : St F w w1 [SlA 1 t (ints (dirtyR M D.blocks.length)), RCacheA c dp M, DiskA dp D] := s1
  generalize hks : dirtyR M D.blocks.length = ks at s1 s0
  have htl := slA_len1 s1.sl
  rw [ints_length] at htl
  have hkl : ks.length ≤ 2048 := by rw [← hks]; exact Nat.le_trans (dirtyR_len _ _) hD.le
  have hkm : ∀ k ∈ ks, k ∈ M.l.map (·.key) := by
    intro k hk
    rw [← hks] at hk
    obtain ⟨j, hj, rfl⟩ := List.mem_map.1 hk
    have := (List.mem_filter.1 hj).2
    unfold hasD at this
    rw [List.any_eq_true] at this
    obtain ⟨x, hx, hxk⟩ := this
    simp only [Bool.and_eq_true, beq_iff_eq] at hxk
    exact List.mem_map.2 ⟨x, hx, hxk.1⟩
  have hMl := hok.le
  simp only [deref_some']
  refine loop_of (fun z W => ∃ (j : Nat) (Mj : RM) (Dj : DM), z = j ∧ j ≤ ks.length ∧ cleanR (ks.drop j) Mj Dj = cleanR ks M D ∧ Mj.l.map (·.key) = M.l.map (·.key) ∧ Dj.ok ∧ Dj.bd (N + 2 * j) ∧ St F w W [SlA 1 t (ints ks), RCacheA c dp Mj, DiskA dp Dj])
    (fun z _ => ks.length - z.toNat) ⟨0, M, D, rfl, by omega, rfl, rfl, hD, hb, s1⟩ ?_
  rintro _ W ⟨j, Mj, Dj, rfl, hj, hgo, hkj, hDj, hbj, s⟩
  refine br_of (fun hlt => ?_) (fun hge => ?_)
  rotate_left
  · simp only [decide_eq_false_iff_not] at hge
    rw [List.drop_eq_nil_of_le (by omega)] at hgo
    have hgo' : (0, Mj, Dj) = cleanR ks M D := hgo
    rw [← hgo']
    exact ⟨rfl, s.drop⟩
  simp only [decide_eq_true_eq] at hlt
  have hjl : j < ks.length := by omega
  have hdrop : ks.drop j = ks[j] :: ks.drop (j + 1) := List.drop_eq_getElem_cons hjl
  generalize hk : ks[j] = k at hdrop
  have hkin : k ∈ Mj.l.map (·.key) := by rw [hkj, ← hk]; exact hkm _ (List.getElem_mem hjl)
  have hnj : (Mj.l.map (·.key)).Nodup := by rw [hkj]; exact hok.nod
  have hMjl : Mj.l.length = M.l.length := by have := congrArg List.length hkj; simpa using this
  have hldk : ∀ {W : World} {L : List HA} {f : Int → Pr}, St F w W (SlA 1 t (ints ks) :: L) → f k W → (owe ((0 : Int) ≤ (j : Int) ∧ (j : Int) < (t.len : Int)) <| deref t.a fun a => ldC (.int .i64) (a.add (Int.toNat (j : Int) * 1)) f) W := by
    intro W L f hS hf
    refine ⟨⟨by omega, by omega⟩, ?_⟩
    rw [Int.toNat_natCast]
    exact at_own hS.sl (i := j) (c := .int .i64) (p := k) (by simp [ints, hjl, hk]) hf
  refine hldk s ?_
  obtain ⟨G1, _, _, g1, _, _, _, _⟩ := (s.bring 1).call1
  refine callF_of (C80 c dp Mj k W G1 g1 (by omega)) ?_
  rintro i _ ⟨hat, rfl⟩
  rcases hat with ⟨_, hno⟩ | ⟨i, y, rfl, hi1, hi2⟩
  · exfalso
    obtain ⟨y, hy, hyk⟩ := List.mem_map.1 hkin
    exact hno y hy hyk
  rw [drw_def]
  obtain ⟨sl, bl, hl, s2⟩ := St.rOpen (s.drew.bring 1)
  rw [hl] at hi1
  obtain ⟨x, hx, rfl⟩ := map_get hi1
  have hxm : Mj.l[i]? = some x.m := by rw [hl]; exact hi1
  refine s2.ld (i := 0) (s := .ptr) (p := some ⟨dp, 0, none⟩) rfl ?_
  refine hldk (s2.bring 3) ?_
  refine s2.ld (i := 2) (s := .slice) (p := sl) rfl ?_
  refine rx_at (s2.bring 1).sl hx (n := 1) (c := .slice) (q := x.s) rfl ?_
  have s4 := (s2.bring 2).pick (i := i) (A := rxA x) (by rw [List.getElem?_map, hx]; rfl)
  -- rxA x, big', c, cells, t, disk
  have s5 := s4.sel [5, 0, 1, 2, 3, 4] 6
  obtain ⟨G, H, g2, g3, g4, _, gc2⟩ := St.call [DiskA dp Dj] s5
  have hb1 := hbj.armed
  have hb2 := hbj.ops
  have hb3 := hbj.wait
  have hby : bytesR Mj k = x.b := by
    unfold bytesR
    rw [← hi2, find_atR hnj hxm]
    rfl
  refine callF_of (C48 dp Dj k x.s x.b _ G g2 (Rd.own g3 g4) hDj (by omega) hb1.1 hb1.2 ⟨hb2.1, by omega⟩) ?_
  rintro e w2 ⟨he, s6⟩
  have s7 := gc2 _ _ s6
  rw [← hby] at he s7
  have hwo := writeD_ok hDj hbj k (bytesR Mj k)
  rw [hdrop, cleanR_cons] at hgo
  have hil : i < (bl.map rxA).length := (split_at (show (bl.map rxA)[i]? = some (rxA x) by rw [List.getElem?_map, hx]; rfl)).2
  refine br_of (fun hne => ?_) (fun heq => ?_)
  · have hne : (writeD Dj k (bytesR Mj k)).1 ≠ 0 := by rw [← he]; simpa using hne
    rw [if_pos hne] at hgo
    rw [← hgo]
    refine ⟨he, ?_⟩
    rw [hby] at s7
    have s8 := St.unpick (A := rxA x) (s7.sel [1, 2, 3, 4, 5, 0] 6) hil
    rw [set_same (show (bl.map rxA)[i]? = some (rxA x) by rw [List.getElem?_map, hx]; rfl)] at s8
    rw [hby]
    exact (s8.sel [1, 2, 0, 4] 5).rClose (M := Mj) hl
  · have heq : (writeD Dj k (bytesR Mj k)).1 = 0 := by rw [← he]; simpa using heq
    rw [if_neg (by simp [heq])] at hgo
    refine (s7.bring 3).ld (i := 2) (s := .slice) (p := sl) rfl ?_
    refine rx_st (s7.bring 4) hx (n := 2) (x' := { x with dirty := false }) (by omega) rfl trivial fun w3 s8 => ?_
    rw [wrap_succ (by omega)]
    refine ⟨⟨j + 1, setCleanR Mj k, (writeD Dj k (bytesR Mj k)).2, rfl, hjl, hgo, by rw [setCleanR_keys, hkj], hwo.1, ?_, ?_⟩, by omega⟩
    · rw [show N + 2 * (j + 1) = N + 2 * j + 2 by omega]; exact hwo.2.1
    · rw [hby] at s8 ⊢
      -- cells', disk, rxA x, big', c, t
      have s9 := St.unpick (A := rxA { x with dirty := false }) (s8.sel [2, 3, 4, 0, 5, 1] 6) hil
      have e1 : (bl.map rxA).set i (rxA { x with dirty := false }) = (bl.set i { x with dirty := false }).map rxA := by rw [List.map_set]
      rw [e1] at s9
      have s10 := (s9.sel [1, 2, 0, 3, 4] 5).rClose (M := setCleanR Mj k) (bl := bl.set i { x with dirty := false }) (by
        show (Mj.l.map _) = _
        rw [List.map_set, ← hl, ← hi2, map_if_setR (f := fun y => { y with dirty := false }) hnj hxm]
        rfl)
      exact s10.sel [1, 0, 2] 3
end Go.Proofs

/-! Layer 9: the cache and the document's, side by side. -/
namespace Go.Proofs
open Go.Eng

def Bm.r (x : Bm) : Rb := ⟨x.key, x.b, x.dirty⟩
def older (a b : Bm) : Prop := a.asked < b.asked
def Sim (C : CM) (M : RM) : Prop := ∃ l : List Bm, l.Perm C.l ∧ l.Pairwise older ∧ M.l = l.map Bm.r ∧ M.room = C.room
/-- the same, and the last one that was asked for is known -/
def SimL (C : CM) (M : RM) (j : Nat) (pre : List Bm) (y : Bm) : Prop := C.l[j]? = some y ∧ (pre ++ [y]).Perm C.l ∧ (pre ++ [y]).Pairwise older ∧ M.l = (pre ++ [y]).map Bm.r ∧ M.room = C.room

theorem SimL.sim {C : CM} {M : RM} {j : Nat} {pre : List Bm} {y : Bm} (h : SimL C M j pre y) : Sim C M := ⟨_, h.2.1, h.2.2.1, h.2.2.2.1, h.2.2.2.2⟩

theorem perm_erase {α : Type} {l : List α} {j : Nat} {x : α} (h : l[j]? = some x) : l.Perm (x :: l.eraseIdx j) := by
  have h1 := (split_at h).1
  rw [List.eraseIdx_eq_take_drop_succ]
  conv => lhs; rw [h1]
  exact List.perm_middle
theorem perm_set {α : Type} {l : List α} {j : Nat} {x : α} (a : α) (h : l[j]? = some x) : (l.set j a).Perm (a :: l.eraseIdx j) := by
  have h1 := (split_at h).2
  rw [List.set_eq_take_append_cons_drop, if_pos h1, List.eraseIdx_eq_take_drop_succ]
  exact List.perm_middle
theorem perm_snoc {α : Type} (l : List α) (a : α) : (l ++ [a]).Perm (a :: l) := List.perm_append_comm (l₁ := l) (l₂ := [a])

theorem Sim.len {C : CM} {M : RM} (h : Sim C M) : M.l.length = C.l.length := by
  obtain ⟨l, h1, _, h3, _⟩ := h
  rw [h3, List.length_map, h1.length_eq]

theorem Sim.ok {C : CM} {M : RM} {n : Nat} (h : Sim C M) (hok : C.ok n) : M.ok := by
  have hl := h.len
  have h2 := hok.le
  have h3 := hok.room
  obtain ⟨l, h1, _, h4, _⟩ := h
  refine ⟨fun x hx => ?_, by omega, ?_⟩
  · rw [h4] at hx
    obtain ⟨y, hy, rfl⟩ := List.mem_map.1 hx
    exact hok.len y (h1.subset hy)
  · rw [h4, List.map_map]
    have : l.map ((fun x => x.key) ∘ Bm.r) = l.map (·.key) := List.map_congr_left fun _ _ => rfl
    rw [this, (h1.map _).nodup_iff]
    exact hok.nod

theorem Sim.mem {C : CM} {M : RM} (h : Sim C M) {x : Rb} : x ∈ M.l ↔ ∃ y ∈ C.l, y.r = x := by
  obtain ⟨l, h1, _, h4, _⟩ := h
  rw [h4, List.mem_map]
  exact ⟨fun ⟨y, hy, e⟩ => ⟨y, h1.subset hy, e⟩, fun ⟨y, hy, e⟩ => ⟨y, h1.symm.subset hy, e⟩⟩

theorem snoc_older {C : CM} {n : Nat} (hok : C.ok n) {pre : List Bm} {y : Bm} (h1 : ∀ a ∈ pre, a ∈ C.l) (h2 : pre.Pairwise older) (hy : y.asked = C.asked + 1) : (pre ++ [y]).Pairwise older := by
  rw [List.pairwise_append]
  refine ⟨h2, List.pairwise_singleton _ _, fun a ha b hb => ?_⟩
  rw [List.mem_singleton] at hb
  subst hb
  have := hok.age a (h1 a ha)
  unfold older
  omega

theorem comes_sim {C C' : CM} {M M' : RM} {D : DM} {i e e2 : Int} {j : Nat} (hq : ComesQ C D i e C' j) (hr : ComesR M D i e2 M') (hs : Sim C M) (hok : C.ok D.blocks.length) :
    e2 = e ∧ ((e ≠ 0 ∧ Sim C' M') ∨ (e = 0 ∧ ∃ pre y, SimL C' M' j pre y)) := by
  have hlen := hs.len
  have hmem := fun {x : Rb} => hs.mem (x := x)
  obtain ⟨l, p1, p2, p3, p4⟩ := id hs
  have hsub : ∀ a ∈ l, a ∈ C.l := fun a ha => p1.subset ha
  cases hq with
  | hit _ x h1 h2 =>
    have hxm := List.mem_of_getElem? h1
    have hno : ∀ (_ : ∀ x ∈ M.l, x.key ≠ i), False := fun hn => hn x.r (hmem.2 ⟨x, hxm, rfl⟩) h2
    cases hr with
    | hit k xr g1 g2 =>
      rw [p3] at g1
      obtain ⟨y, hy, rfl⟩ := map_get g1
      have : y = x := key_uniq hok (hsub y (List.mem_of_getElem? hy)) hxm (show y.key = x.key from (show y.key = i from g2).trans h2.symm)
      subst this
      refine ⟨rfl, .inr ⟨rfl, l.eraseIdx k, { y with asked := C.asked + 1 }, ?_, ?_, ?_, ?_, p4⟩⟩
      · show (C.l.set j _)[j]? = _
        rw [List.getElem?_set_self (split_at h1).2]
      · have e1 : (y :: l.eraseIdx k).Perm (y :: C.l.eraseIdx j) := ((perm_erase hy).symm.trans p1).trans (perm_erase h1)
        exact ((perm_snoc _ _).trans (e1.cons_inv.cons _)).trans (perm_set _ h1).symm
      · exact snoc_older hok (fun a ha => hsub a (List.mem_of_mem_eraseIdx ha)) (p2.sublist (List.eraseIdx_sublist _ _)) rfl
      · show M.l.eraseIdx k ++ [y.r] = _
        rw [p3, List.map_append, eraseIdx_map]; rfl
    | full no _ _ => exact (hno no).elim
    | err no _ _ => exact (hno no).elim
    | more no _ _ => exact (hno no).elim
    | swap no _ _ _ _ _ _ _ => exact (hno no).elim
  | full no hf hd =>
    cases hr with
    | hit k xr g1 g2 =>
      obtain ⟨y, hy, rfl⟩ := hmem.1 (List.mem_of_getElem? g1)
      exact (no y hy g2).elim
    | full _ _ _ => exact ⟨rfl, .inl ⟨by decide, hs⟩⟩
    | err _ _ hc =>
      obtain ⟨x, hx, hxd⟩ := hc (by rw [p4, hlen]; exact hf)
      obtain ⟨y, hy, rfl⟩ := hmem.1 hx
      have := hd y hy
      rw [show y.r.dirty = y.dirty from rfl, this] at hxd; cases hxd
    | more _ _ hf2 => exact (hf2 (by rw [p4, hlen]; exact hf)).elim
    | swap _ _ _ k yr g1 g2 _ =>
      obtain ⟨y, hy, rfl⟩ := hmem.1 (List.mem_of_getElem? g1)
      have := hd y hy
      rw [show y.r.dirty = y.dirty from rfl, this] at g2; cases g2
  | err no he hc =>
    cases hr with
    | hit k xr g1 g2 =>
      obtain ⟨y, hy, rfl⟩ := hmem.1 (List.mem_of_getElem? g1)
      exact (no y hy g2).elim
    | full _ hf2 hd2 =>
      obtain ⟨x, hx, hxd⟩ := hc (by rw [← p4, ← hlen]; exact hf2)
      have := hd2 x.r (hmem.2 ⟨x, hx, rfl⟩)
      rw [show x.r.dirty = x.dirty from rfl, hxd] at this; cases this
    | err _ _ _ => exact ⟨rfl, .inl ⟨he, hs⟩⟩
    | more _ hp _ => exact (he hp).elim
    | swap _ hp _ _ _ _ _ _ => exact (he hp).elim
  | more no hp hf =>
    cases hr with
    | hit k xr g1 g2 =>
      obtain ⟨y, hy, rfl⟩ := hmem.1 (List.mem_of_getElem? g1)
      exact (no y hy g2).elim
    | full _ hf2 _ => exact (hf (by rw [← p4, ← hlen]; exact hf2)).elim
    | err _ he _ => exact (he hp).elim
    | more _ _ _ =>
      refine ⟨rfl, .inr ⟨rfl, l, newB C D i, ?_, ?_, ?_, ?_, p4⟩⟩
      · show (C.l ++ [_])[C.l.length]? = _
        simp
      · exact p1.append_right _
      · exact snoc_older hok hsub p2 rfl
      · show M.l ++ [newR D i] = _
        rw [p3, List.map_append]; rfl
    | swap _ _ hf2 _ _ _ _ _ => exact (hf (by rw [← p4, ← hlen]; exact hf2)).elim
  | swap no hp hf k y h1 h2 h3 =>
    have hym := List.mem_of_getElem? h1
    cases hr with
    | hit k xr g1 g2 =>
      obtain ⟨y, hy, rfl⟩ := hmem.1 (List.mem_of_getElem? g1)
      exact (no y hy g2).elim
    | full _ _ hd2 =>
      have := hd2 y.r (hmem.2 ⟨y, hym, rfl⟩)
      rw [show y.r.dirty = y.dirty from rfl, h2] at this; cases this
    | err _ he _ => exact (he hp).elim
    | more _ _ hf2 => exact (hf2 (by rw [p4, hlen]; exact hf)).elim
    | swap _ _ _ k2 yr g1 g2 g3 =>
      rw [p3] at g1
      obtain ⟨z, hz, rfl⟩ := map_get g1
      have hzm := hsub z (List.mem_of_getElem? hz)
      obtain ⟨a, ha⟩ := List.getElem?_of_mem (p1.symm.subset hym)
      have hak : k2 ≤ a := by
        rcases Nat.lt_or_ge a k2 with h' | h'
        · have := g3 a y.r h' (by rw [p3, List.getElem?_map, ha]; rfl)
          rw [show y.r.dirty = y.dirty from rfl, h2] at this; cases this
        · exact h'
      have hzy : z = y := by
        rcases Nat.lt_or_ge k2 a with h' | h'
        · exfalso
          have h5 := (List.pairwise_iff_getElem.1 p2) k2 a (split_at hz).2 (split_at ha).2 h'
          have e1 : l[k2]'(split_at hz).2 = z := by rw [List.getElem?_eq_getElem (split_at hz).2] at hz; exact Option.some.inj hz
          have e2 : l[a]'(split_at ha).2 = y := by rw [List.getElem?_eq_getElem (split_at ha).2] at ha; exact Option.some.inj ha
          rw [e1, e2] at h5
          have := h3 z hzm g2
          unfold older at h5
          omega
        · have : a = k2 := by omega
          subst this
          rw [hz] at ha
          exact Option.some.inj ha
      subst hzy
      refine ⟨rfl, .inr ⟨rfl, l.eraseIdx k2, newB C D i, ?_, ?_, ?_, ?_, p4⟩⟩
      · show (C.l.eraseIdx k ++ [_])[C.l.length - 1]? = _
        have h5 := List.length_eraseIdx_of_lt (split_at h1).2
        rw [List.getElem?_append_right (by omega), h5, Nat.sub_self]; rfl
      · have e1 : (z :: l.eraseIdx k2).Perm (z :: C.l.eraseIdx k) := ((perm_erase hz).symm.trans p1).trans (perm_erase h1)
        exact e1.cons_inv.append_right _
      · exact snoc_older hok (fun a ha => hsub a (List.mem_of_mem_eraseIdx ha)) (p2.sublist (List.eraseIdx_sublist _ _)) rfl
      · show M.l.eraseIdx k2 ++ [newR D i] = _
        rw [p3, List.map_append, eraseIdx_map]; rfl

theorem snoc_inj {α : Type} {a b : List α} {x y : α} (h : a ++ [x] = b ++ [y]) : a = b ∧ x = y := by
  have := List.append_inj' h rfl
  exact ⟨this.1, by simpa using this.2⟩

theorem read_sim {C C' : CM} {M M' : RM} {D : DM} {i e e2 : Int} {out out2 : List UInt8} (hq : ReadQ C D i e C' out) (hr : ReadR M D i e2 M' out2) (hs : Sim C M) (hok : C.ok D.blocks.length) : e2 = e ∧ out2 = out ∧ Sim C' M' := by
  rcases hq with ⟨h1, rfl, rfl, rfl⟩ | ⟨h1, j, hc, ho⟩
  · rcases hr with ⟨_, rfl, rfl, rfl⟩ | ⟨h2, _⟩
    · exact ⟨rfl, rfl, hs⟩
    · exact absurd h2 h1
  · rcases hr with ⟨h2, _⟩ | ⟨_, hc2, ho2⟩
    · exact absurd h1 h2
    · obtain ⟨rfl, hsim⟩ := comes_sim hc hc2 hs hok
      rcases hsim with ⟨hne, hs2⟩ | ⟨rfl, pre, y, hs2⟩
      · rcases ho with ⟨_, rfl⟩ | ⟨h, _⟩
        · rcases ho2 with ⟨_, rfl⟩ | ⟨h, _⟩
          · exact ⟨rfl, rfl, hs2⟩
          · exact absurd h hne
        · exact absurd h hne
      · rcases ho with ⟨h, _⟩ | ⟨_, x, hx, rfl⟩
        · exact absurd rfl h
        · rcases ho2 with ⟨h, _⟩ | ⟨_, pre2, x2, hx2, rfl⟩
          · exact absurd rfl h
          · refine ⟨rfl, ?_, hs2.sim⟩
            obtain ⟨g1, _, _, g4, _⟩ := hs2
            rw [hx] at g1; cases g1
            rw [g4, List.map_append] at hx2
            obtain ⟨_, h6⟩ := snoc_inj hx2
            rw [← h6]; rfl

theorem write_sim {C C' : CM} {M M' : RM} {D : DM} {i off e e2 : Int} {l : List UInt8} (hq : WriteQ C D i off l e C') (hr : WriteR M D i off l e2 M') (hs : Sim C M) (hok : C.ok D.blocks.length) : e2 = e ∧ Sim C' M' := by
  rcases hq with ⟨h1, rfl, rfl⟩ | ⟨h1, h2, rfl, rfl⟩ | ⟨h1, h2, C1, j, hc, ho⟩
  · rcases hr with ⟨_, rfl, rfl⟩ | ⟨g, _⟩ | ⟨g, _⟩
    · exact ⟨rfl, hs⟩
    · exact absurd g h1
    · exact absurd g h1
  · rcases hr with ⟨g, _⟩ | ⟨_, _, rfl, rfl⟩ | ⟨_, g, _⟩
    · exact absurd h1 g
    · exact ⟨rfl, hs⟩
    · exact absurd g h2
  · rcases hr with ⟨g, _⟩ | ⟨_, g, _⟩ | ⟨_, _, M1, hc2, ho2⟩
    · exact absurd h1 g
    · exact absurd h2 g
    · obtain ⟨rfl, hsim⟩ := comes_sim hc hc2 hs hok
      refine ⟨rfl, ?_⟩
      rcases hsim with ⟨hne, hs2⟩ | ⟨rfl, pre, y, hs2⟩
      · rcases ho with ⟨_, rfl⟩ | ⟨h, _⟩
        · rcases ho2 with ⟨_, rfl⟩ | ⟨h, _⟩
          · exact hs2
          · exact absurd h hne
        · exact absurd h hne
      · rcases ho with ⟨h, rfl⟩ | ⟨_, hl, x, hx, rfl⟩
        · rcases ho2 with ⟨_, rfl⟩ | ⟨_, hl, _⟩
          · exact hs2.sim
          · exact (h.elim (fun h => h rfl) hl).elim
        · rcases ho2 with ⟨h, _⟩ | ⟨_, _, pre2, x2, hx2, rfl⟩
          · exact (h.elim (fun h => h rfl) hl).elim
          · obtain ⟨g1, g2, g3, g4, g5⟩ := hs2
            rw [hx] at g1; cases g1
            rw [g4, List.map_append] at hx2
            obtain ⟨h5, h6⟩ := snoc_inj hx2
            subst h5 h6
            refine ⟨pre ++ [{ y with b := lay y.b off.toNat l, dirty := true }], ?_, ?_, ?_, g5⟩
            · have e1 : (y :: pre).Perm (y :: C1.l.eraseIdx j) := ((perm_snoc _ _).symm.trans g2).trans (perm_erase hx)
              exact ((perm_snoc _ _).trans (e1.cons_inv.cons _)).trans (perm_set _ hx).symm
            · rw [List.pairwise_append] at g3 ⊢
              refine ⟨g3.1, List.pairwise_singleton _ _, fun a ha b hb => ?_⟩
              rw [List.mem_singleton] at hb
              subst hb
              exact g3.2.2 a ha y (by simp)
            · show pre.map Bm.r ++ [_] = _
              rw [List.map_append]; rfl

theorem clean_sim1 {C : CM} {M : RM} (hs : Sim C M) (k : Int) : Sim (setClean C k) (setCleanR M k) := by
  obtain ⟨l, p1, p2, p3, p4⟩ := hs
  refine ⟨l.map fun x => if x.key = k then { x with dirty := false } else x, p1.map _, ?_, ?_, p4⟩
  · rw [List.pairwise_map]
    refine p2.imp fun {a b} h => ?_
    unfold older at *
    split <;> split <;> exact h
  · unfold setCleanR
    dsimp only
    rw [p3, List.map_map, List.map_map]
    refine List.map_congr_left fun x _ => ?_
    show (if x.r.key = k then _ else _ : Rb) = Bm.r (if x.key = k then _ else _)
    by_cases h : x.key = k
    · rw [if_pos (show x.r.key = k from h), if_pos h]; rfl
    · rw [if_neg (show ¬ x.r.key = k from h), if_neg h]

theorem bytes_sim {C : CM} {M : RM} {n : Nat} (hs : Sim C M) (hok : C.ok n) {k : Int} (hk : k ∈ C.l.map (·.key)) : bytesR M k = bytesAt C k := by
  obtain ⟨x, hx, rfl⟩ := List.mem_map.1 hk
  rw [bytesAt_of hok hx]
  obtain ⟨i, hi⟩ := List.getElem?_of_mem (hs.mem.2 ⟨x, hx, rfl⟩)
  unfold bytesR
  rw [show x.key = x.r.key from rfl, find_atR (hs.ok hok).nod hi]
  rfl

theorem clean_sim : ∀ (ks : List Int) (C : CM) (M : RM) (D : DM) (n : Nat), Sim C M → C.ok n → (∀ k ∈ ks, k ∈ C.l.map (·.key)) →
    (cleanR ks M D).1 = (cleanGo ks C D).1 ∧ (cleanR ks M D).2.2 = (cleanGo ks C D).2.2 ∧ Sim (cleanGo ks C D).2.1 (cleanR ks M D).2.1 ∧ (cleanGo ks C D).2.1.ok n ∧ (cleanGo ks C D).2.1.asked = C.asked
  | [], C, M, D, n, hs, hok, _ => ⟨rfl, rfl, hs, hok, rfl⟩
  | k :: ks, C, M, D, n, hs, hok, hk => by
    rw [cleanGo_cons, cleanR_cons, bytes_sim hs hok (hk k (by simp))]
    split
    · exact ⟨rfl, rfl, hs, hok, rfl⟩
    · exact clean_sim ks (setClean C k) (setCleanR M k) _ n (clean_sim1 hs k) (setClean_ok hok k) fun k' hk' => by rw [setClean_keys]; exact hk k' (by simp [hk'])

theorem range_cast_sorted (n : Nat) : ((List.range n).map fun (j : Nat) => (j : Int)).Pairwise (· ≤ ·) := by
  rw [List.pairwise_map]
  exact List.pairwise_lt_range.imp fun {a b} h => by omega

theorem dirty_sim {C : CM} {M : RM} {n : Nat} (hs : Sim C M) (hok : C.ok n) : dirtyR M n = dirtyK C := by
  refine sorted_eq ?_ ?_ (sortI_sorted _)
  · refine (List.perm_ext_iff_of_nodup ?_ (dirtyK_nodup hok.nod)).2 fun k => ?_
    · exact cast_nodup (List.nodup_range.filter _)
    · rw [mem_dirtyK]
      unfold dirtyR
      rw [List.mem_map]
      constructor
      · rintro ⟨j, hj, rfl⟩
        have := (List.mem_filter.1 hj).2
        unfold hasD at this
        rw [List.any_eq_true] at this
        obtain ⟨x, hx, hxk⟩ := this
        simp only [Bool.and_eq_true, beq_iff_eq] at hxk
        obtain ⟨y, hy, rfl⟩ := hs.mem.1 hx
        exact ⟨y, hy, hxk.1, hxk.2⟩
      · rintro ⟨x, hx, rfl, hd⟩
        have := hok.key x hx
        refine ⟨x.key.toNat, ?_, by omega⟩
        rw [List.mem_filter, List.mem_range]
        refine ⟨by omega, ?_⟩
        unfold hasD
        rw [List.any_eq_true]
        refine ⟨x.r, hs.mem.2 ⟨x, hx, rfl⟩, ?_⟩
        simp only [Bool.and_eq_true, beq_iff_eq]
        exact ⟨by show x.key = _; omega, hd⟩
  · unfold dirtyR
    rw [List.pairwise_map]
    exact (List.pairwise_lt_range.sublist (List.filter_sublist (l := List.range n))).imp fun {a b} h => by omega

theorem has_sim {C : CM} {M : RM} (hs : Sim C M) (k : Int) : (M.l.any fun x => x.key == k) = C.l.any fun x => x.key == k := by
  rw [Bool.eq_iff_iff, List.any_eq_true, List.any_eq_true]
  constructor
  · rintro ⟨x, hx, h⟩
    obtain ⟨y, hy, rfl⟩ := hs.mem.1 hx
    exact ⟨y, hy, h⟩
  · rintro ⟨y, hy, h⟩
    exact ⟨y.r, hs.mem.2 ⟨y, hy, rfl⟩, h⟩
end Go.Proofs

/-! Layer 9: same; loops of the law. -/
namespace Go.Proofs
open Go.Eng

theorem C53 (c dp c2 dp2 : Nat) (C : CM) (M : RM) (D : DM) (w : World) (F : Nat → Prop) (h : Has [CacheA c dp C, DiskA dp D, RCacheA c2 dp2 M, DiskA dp2 D] w F) (hs : Sim C M) (hok : C.ok D.blocks.length) (hD : D.ok) :
    Calls Try.prog 53 #[P0 c, P0 c2] w (RetT [.c .bool] fun r w' => r = true ∧ St F w w' [CacheA c dp C, DiskA dp D, RCacheA c2 dp2 M, DiskA dp2 D]) := by
  refine F53_calls _ _ _ _ ?_
  unfold F53
  have st := St.init h
  have hM := hs.ok hok
  have hlen := hs.len
  have hcl : C.l.length ≤ 256 := by have h1 := hok.le; have h2 := hok.room; omega
  have hdl := dirtyK_len C
  have hds := dirty_sim hs hok
  obtain ⟨G1, _, _, g1, _, _, _, gc1⟩ := st.call1
  refine callF_of (C41 c dp C w G1 g1 (by omega)) ?_
  rintro _ w1 ⟨rfl, s1⟩
  have s2 := gc1 _ _ s1
  obtain ⟨G2, _, g2, _, _, _, gc2⟩ := St.call [RCacheA c2 dp2 M, DiskA dp2 D] (s2.sel [2, 3, 0, 1] 4)
  refine callF_of (C79 c2 dp2 M D w1 G2 g2 hM hD) ?_
  rintro t w2 s3
  rw [hds] at s3
  have s4 := s2.call0 s3
  have htl := slA_len1 s4.sl
  rw [ints_length] at htl
  refine jn_of (fun b W => b = false ∧ St F w W [CacheA c dp C, DiskA dp D, RCacheA c2 dp2 M, DiskA dp2 D]) ?_ ?_
  · obtain ⟨s, bl, hl, so⟩ := St.rOpen (s4.bring 3)
    have hsl := rx_len (so.bring 1).sl
    have hbl : bl.length = C.l.length := by rw [← hlen, hl]; simp
    simp only [deref_some']
    refine so.ld (i := 2) (s := .slice) (p := s) rfl ?_
    refine br_f ?_ (br_f ?_ ?_)
    · rw [bne_eq_false_iff_eq, wrap_i64 (by omega), hsl, hbl, htl]
    · rw [bne_eq_false_iff_eq, htl]
    · obtain ⟨G3, _, _, g3, _, _, _, gc3⟩ := (s4.bring 1).call1
      refine callF_of (C37 c dp C 999 w2 G3 g3 (by omega) (by decide)) ?_
      rintro u w3 s5
      have s6 := gc3 _ _ s5
      have hfull : (dirtyK C).take (999 : Int).toNat = dirtyK C := List.take_of_length_le (by show _ ≤ 999; omega)
      rw [hfull] at s6
      -- u, cache, t, disk, rcache, disk2
      have hul := slA_len1 s6.sl
      rw [ints_length] at hul
      refine callF_of (C27 u t (dirtyK C) (dirtyK C) w3 (owns_ints s6.sl) (owns_ints (s6.bring 2).sl) (by omega)) ?_
      rintro q w4 ⟨hq, g⟩
      have hq1 : q = true := hq.trans (by simp)
      subst hq1
      refine br_f rfl ?_
      have s7 := s6.grow g
      obtain ⟨G4, _, _, g4, _, _, _, gc4⟩ := (s7.bring 1).call1
      refine callF_of (C37 c dp C 1 w4 G4 g4 (by omega) (by decide)) ?_
      rintro v w5 s8
      have s9 := gc4 _ _ s8
      have hvl := slA_len1 s9.sl
      rw [ints_length, List.length_take] at hvl
      refine ⟨?_, s9.sel [1, 4, 5, 6] 7⟩
      rw [bne_eq_false_iff_eq, htl]
      have : (1 : Int).toNat = 1 := rfl
      unfold imin
      split <;> omega
  rintro _ W ⟨rfl, s5⟩
  refine br_f rfl ?_
  refine loop_of (fun z W => ∃ j : Nat, z = j ∧ j ≤ 11 ∧ St F w W [CacheA c dp C, DiskA dp D, RCacheA c2 dp2 M, DiskA dp2 D]) (fun z _ => 11 - z.toNat) ⟨0, rfl, by omega, s5⟩ ?_
  rintro _ W2 ⟨j, rfl, hj, s6⟩
  refine br_of (fun hlt => ?_) (fun hge => ⟨rfl, s6⟩)
  simp only [decide_eq_true_eq] at hlt
  obtain ⟨G5, _, _, g5, _, _, _, _⟩ := s6.call1
  refine callF_of (C36 c dp C _ W2 G5 g5) ?_
  rintro _ _ ⟨rfl, rfl⟩
  obtain ⟨G6, _, _, g6, _, _, _, _⟩ := (s6.bring 2).call1
  refine callF_of (C85 c2 dp2 M _ W2 G6 g6 (by omega)) ?_
  rintro _ _ ⟨rfl, rfl⟩
  rw [has_sim hs]
  refine ⟨trivial, br_f (by simp) ?_⟩
  rw [wrap_succ (by omega)]
  exact ⟨⟨j + 1, rfl, by omega, s6⟩, by omega⟩

/-- an owned row is overwritten: with one byte -/
theorem fill_loop {F0 : Nat → Prop} {w0 w : World} {L : List HA} {s : Sl} {l : List UInt8} {b : UInt8} {k : Pr} (h : St F0 w0 w (SlA 1 s (l.map ub) :: L)) (hl : l.length ≤ 1000000000000000) (hk : ∀ w' (l' : List UInt8), St F0 w0 w' (SlA 1 s (l'.map ub) :: L) → k w') :
    loopE (S := Int) (fun X i => br (decide (i < (s.len : Int))) (owe ((0 : Int) ≤ i ∧ i < (s.len : Int)) <| deref s.a fun a => Eng.st (a.add (Int.toNat i * 1)) (.int .u8 (b.toNat : Int)) <| X (IntKind.wrap .i64 (i + 1))) k) 0 w := by
  have hsl := slA_len1 h.sl
  rw [List.length_map] at hsl
  refine loop_of (fun i W => ∃ (j : Nat) (l' : List UInt8), i = j ∧ j ≤ l.length ∧ l'.length = l.length ∧ St F0 w0 W (SlA 1 s (l'.map ub) :: L)) (fun i _ => l.length - i.toNat) ⟨0, l, rfl, by omega, rfl, h⟩ ?_
  rintro _ W ⟨j, l', rfl, hj, hl', st⟩
  refine br_of (fun hlt => ?_) (fun hge => hk W l' st)
  simp only [decide_eq_true_eq] at hlt
  refine put_byte st (by omega) fun w' s' => ?_
  rw [wrap_succ (by omega)]
  exact ⟨⟨j + 1, _, rfl, by omega, by rw [List.length_set]; exact hl', s'⟩, by omega⟩

theorem u8_of (n : Int) : ∃ b : UInt8, bXor .u8 n 255 = (b.toNat : Int) := by
  refine ⟨UInt8.ofNat (bXor .u8 n 255).toNat, ?_⟩
  have h : 0 ≤ bXor .u8 n 255 ∧ bXor .u8 n 255 ≤ 255 := by
    unfold bXor
    simp only [IntKind.wrap, IntKind.signed, IntKind.bits]
    simp
    omega
  simp
  omega

/-- the same, each byte turned -/
theorem turn_loop {F0 : Nat → Prop} {w0 w : World} {L : List HA} {s : Sl} {l : List UInt8} {k : Pr} (h : St F0 w0 w (SlA 1 s (l.map ub) :: L)) (hl : l.length ≤ 1000000000000000) (hk : ∀ w' (l' : List UInt8), St F0 w0 w' (SlA 1 s (l'.map ub) :: L) → k w') :
    loopE (S := Int) (fun X i => br (decide (i < (s.len : Int))) (owe ((0 : Int) ≤ i ∧ i < (s.len : Int)) <| deref s.a fun a => ldC (.int .u8) (a.add (Int.toNat i * 1)) fun (t : Int) => owe ((0 : Int) ≤ i ∧ i < (s.len : Int)) <| deref s.a fun a => Eng.st (a.add (Int.toNat i * 1)) (.int .u8 (bXor .u8 t 255)) <| X (IntKind.wrap .i64 (i + 1))) k) 0 w := by
  have hsl := slA_len1 h.sl
  rw [List.length_map] at hsl
  refine loop_of (fun i W => ∃ (j : Nat) (l' : List UInt8), i = j ∧ j ≤ l.length ∧ l'.length = l.length ∧ St F0 w0 W (SlA 1 s (l'.map ub) :: L)) (fun i _ => l.length - i.toNat) ⟨0, l, rfl, by omega, rfl, h⟩ ?_
  rintro _ W ⟨j, l', rfl, hj, hl', st⟩
  refine br_of (fun hlt => ?_) (fun hge => hk W l' st)
  simp only [decide_eq_true_eq] at hlt
  have hj' : j < l'.length := by omega
  refine at_bs (b := l'[j]) st.sl.bs (by simp [hj']) ?_
  obtain ⟨b, hb⟩ := u8_of (l'[j].toNat : Int)
  rw [hb]
  refine put_byte st (by omega) fun w' s' => ?_
  rw [wrap_succ (by omega)]
  exact ⟨⟨j + 1, _, rfl, by omega, by rw [List.length_set]; exact hl', s'⟩, by omega⟩

theorem cleanGo_bd : ∀ (ks : List Int) (C : CM) (D : DM) (N : Nat), D.ok → D.bd N → (cleanGo ks C D).2.2.ok ∧ (cleanGo ks C D).2.2.bd (N + 2 * ks.length) ∧ (cleanGo ks C D).2.2.blocks.length = D.blocks.length
  | [], C, D, N, h1, h2 => ⟨h1, h2, rfl⟩
  | k :: ks, C, D, N, h1, h2 => by
    obtain ⟨w1, w2, w3⟩ := writeD_ok h1 h2 k (bytesAt C k)
    rw [cleanGo_cons]
    have hm : ∀ {E : DM} {a b : Nat}, E.bd a → a ≤ b → E.bd b := fun h hab => ⟨h.armed, ⟨h.ops.1, by have := h.ops.2; omega⟩, by have := h.wait; omega⟩
    split
    · exact ⟨w1, hm w2 (by rw [List.length_cons]; omega), w3⟩
    · obtain ⟨g1, g2, g3⟩ := cleanGo_bd ks (setClean C k) (writeD D k (bytesAt C k)).2 (N + 2) w1 w2
      exact ⟨g1, hm g2 (by rw [List.length_cons]; omega), g3.trans w3⟩

theorem DM.bd.mono {D : DM} {a b : Nat} (h : D.bd a) (hab : a ≤ b) : D.bd b := ⟨h.armed, ⟨h.ops.1, by have := h.ops.2; omega⟩, by have := h.wait; omega⟩

theorem armD_ok {D : DM} {N : Nat} (h1 : D.ok) (h2 : D.bd N) (n : Int) (hn : n ≤ 9223372036854775807) (l : List UInt8) : (armD D n l).2.ok ∧ (armD D n l).2.bd N ∧ (armD D n l).2.blocks.length = D.blocks.length := by
  unfold armD
  split
  · exact ⟨h1, h2, rfl⟩
  · split
    · exact ⟨h1, h2, rfl⟩
    · exact ⟨⟨h1.len, h1.wlen, h1.pos, h1.le⟩, ⟨⟨by dsimp only; omega, hn⟩, h2.ops, h2.wait⟩, rfl⟩
theorem upD_ok {D : DM} {N : Nat} (h1 : D.ok) (h2 : D.bd N) : (upD D).2.ok ∧ (upD D).2.bd N ∧ (upD D).2.blocks.length = D.blocks.length := by
  unfold upD
  split
  · exact ⟨⟨h1.len, h1.wlen, h1.pos, h1.le⟩, ⟨h2.armed, h2.ops, h2.wait⟩, rfl⟩
  · exact ⟨h1, h2, rfl⟩
end Go.Proofs

/-! Layer 9: CacheDoes, the walk. -/
namespace Go.Proofs
open Go.Eng

/-- what the law holds, behind each act -/
def Both (N : Nat) (C : CM) (M : RM) (D : DM) : Prop := C.ok 9 ∧ C.asked ≤ N ∧ D.ok ∧ D.bd (600 * N) ∧ D.blocks.length = 9 ∧ Sim C M

/-- between the cache's write and the document's -/
def MidB (w : World) (c dp c2 dp2 b : Nat) (C : CM) (M : RM) (D : DM) (u : Sl) (x : Oc) (e : Int) (W : World) : Prop :=
  ∃ C', WriteQ C D x.1.k x.1.o x.2 e C' ∧ St noF w W [CacheA c dp C', DiskA dp D, SlA 1 u (x.2.map ub), BoxA b [.int .i64 x.1.d, .int .i64 x.1.k, .int .i64 x.1.o, slV x.1.b], RCacheA c2 dp2 M, DiskA dp2 D]

theorem cpy_in {F0 : Nat → Prop} {w0 w : World} {L : List HA} {t src : Sl} {vs l : List UInt8} {k : Pr} (h : St F0 w0 w (SlA 1 t (vs.map ub) :: L)) (hs : BS w src l) (hk : ∀ w' (l' : List UInt8), l'.length = vs.length → St F0 w0 w' (SlA 1 t (l'.map ub) :: L) → k w') : cpy 1 t src k w := by
  have htl := slA_len1 h.sl
  rw [List.length_map] at htl
  have hsl := hs.len
  refine cpy_min ?_
  have hmin : Nat.min src.len t.len ≤ src.len := Nat.min_le_left _ _
  have hmin2 : Nat.min src.len t.len ≤ t.len := Nat.min_le_right _ _
  have hcut := BS.cut hs (Nat.min src.len t.len) 0 hmin
  refine cpy_mid h.sl (o := 0) (by omega) (.inl ?_) (by omega) hcut.row (fun _ => ?_) hcut.none_len hmin2 NotAgg_ub ?_
  · rw [Nat.zero_mul, map_add_zero]
  · simp only [List.length_map, List.length_take, Nat.mul_one]; omega
  · intro w' g1 g2 g3
    have hll : ((l.take (Nat.min src.len t.len)).map ub).length ≤ vs.length := by simp only [List.length_map, List.length_take]; omega
    refine hk w' (l.take (Nat.min src.len t.len) ++ vs.drop ((l.take (Nat.min src.len t.len)).map ub).length) ?_ (h.slm g2 ?_ fun _ h => .inl h)
    · rw [List.length_append, List.length_drop]
      simp only [List.length_map] at *
      omega
    · rw [Nat.zero_mul, List.take_zero, List.nil_append, Nat.zero_add, ← List.map_drop, ← List.map_append] at g1
      exact g1

theorem beq_self_eq (z : List UInt8) : (z == z) = true := by simp

theorem law12 (room : Int) (s : Sl) (xs : List Oc) (w : World) (hs : OL w s xs) (hle : s.len ≤ s.cap) (hr : ∀ x ∈ xs, x.1.o ≤ 9223372036854775807 ∧ x.1.b.len ≤ 140737488351232) :
    Calls Try.prog 12 #[.int .i64 room, .slice s.a s.len s.cap] w (RetT [.c .bool] fun r w' => r = true ∧ Grow w w') := by
  refine F12_calls _ _ _ _ ?_
  unfold F12
  refine callF_of (C30 9 w) ?_
  rintro ⟨q, e⟩ w1 h1
  rw [if_pos (by decide)] at h1
  obtain ⟨rfl, dp, rfl, s1⟩ := h1
  refine callF_of (C43 9 w1) ?_
  rintro ⟨q, e⟩ w2 h2
  rw [if_pos (by decide)] at h2
  obtain ⟨rfl, dp2, rfl, s2⟩ := h2
  have s3 := s1.call0 s2
  refine jn_of (fun b W => b = false ∧ St noF w W [DiskA dp2 (newD 9), DiskA dp (newD 9)]) ?_ ?_
  · refine callF_of (C31 w2) ?_
    rintro _ W ⟨rfl, g⟩
    exact br_f rfl (br_f rfl ⟨trivial, rfl, s3.grow g⟩)
  clear s3 s2 s1
  rintro _ w3 ⟨rfl, s3⟩
  refine br_f rfl ?_
  have hD : (newD 9).ok := newD_ok (by decide) (by decide)
  obtain ⟨G, _, _, g1, _, _, _, _⟩ := (s3.bring 1).call1
  refine callF_of (C32 dp (newD 9) room w3 G g1 hD) ?_
  rintro ⟨q, e⟩ w4 h4
  by_cases hroom : 2 ≤ room ∧ room ≤ 256
  rotate_left
  · rw [if_neg hroom] at h4
    obtain ⟨h4, rfl⟩ := h4
    cases h4
    refine callF_of (C44 dp2 room w3) ?_
    rintro ⟨q, e⟩ w5 h5
    rw [if_neg hroom] at h5
    obtain ⟨h5, rfl⟩ := h5
    cases h5
    refine jn_of (fun b W => b = false ∧ w3 = W) (br_f rfl ⟨trivial, trivial, rfl, rfl⟩) ?_
    rintro _ _ ⟨rfl, rfl⟩
    exact br_f rfl ⟨trivial, br_t rfl ⟨rfl, s3.gro⟩⟩
  rw [if_pos hroom] at h4
  obtain ⟨rfl, c, rfl, s4⟩ := h4
  have s5 := s3.call0 s4
  refine callF_of (C44 dp2 room w4) ?_
  rintro ⟨q, e⟩ w5 h5
  rw [if_pos hroom] at h5
  obtain ⟨rfl, c2, rfl, s6⟩ := h5
  have s7 := (s5.call0 s6).sel [1, 3, 0, 2] 4
  refine jn_of (fun b W => b = false ∧ w5 = W) (br_f rfl ⟨trivial, trivial, rfl, rfl⟩) ?_
  rintro _ _ ⟨rfl, rfl⟩
  refine br_f rfl ⟨trivial, br_f rfl ?_⟩
  refine slc_ol (hs.grow s7.gro) hle fun t ht htl => ?_
  have htlen := (ht w5 (hs.grow s7.gro)).len
  simp only [deref_some']
  refine loop_of (fun z W => ∃ (j : Nat) (C : CM) (M : RM) (D : DM), z = j ∧ j ≤ t.len ∧ Both j C M D ∧ St noF w W [CacheA c dp C, DiskA dp D, RCacheA c2 dp2 M, DiskA dp2 D]) (fun z _ => t.len - z.toNat)
    ⟨0, ⟨room, 0, []⟩, ⟨room, []⟩, newD 9, rfl, by omega, ⟨newC_ok hroom 9, by simp, hD, ⟨by simp [newD], by simp [newD], by simp [newD]⟩, by simp [newD], ⟨[], .refl _, List.Pairwise.nil, rfl, rfl⟩⟩, s7⟩ ?_
  rintro _ W ⟨j, C, M, D, rfl, hj, ⟨hok, hask, hD', hbd, hDl, hsim⟩, s8⟩
  refine br_of (fun hlt => ?_) (fun hge => ⟨trivial, s8.gro⟩)
  simp only [decide_eq_true_eq] at hlt
  have hjt : j < t.len := by omega
  have hol : OL W t (xs.take 100) := ht W (hs.grow s8.gro)
  obtain ⟨x, hx⟩ : ∃ x, (xs.take 100)[j]? = some x := ⟨(xs.take 100)[j]'(by omega), by rw [List.getElem?_eq_getElem (by omega)]⟩
  have hxmem := List.mem_of_mem_take (List.mem_of_getElem? hx)
  have hxb : Rd w noF x.1.b x.2 := Rd.noF (hs.2 x hxmem)
  obtain ⟨hxr, hxlen⟩ := hr x hxmem
  refine op_at hol hx ?_
  dsimp only
  refine St.nw s8 fun b W1 s9 _ _ => ?_
  refine s9.st0 trivial fun W2 s10 => ?_
  refine s10.st (i := 1) (by simp) trivial fun W3 s11 => ?_
  refine s11.st (i := 2) (by simp) trivial fun W4 s12 => ?_
  refine s12.st (i := 3) (by simp) trivial fun W5 s13 => ?_
  replace s13 : St noF w W5 [BoxA b [.int .i64 x.1.d, .int .i64 x.1.k, .int .i64 x.1.o, slV x.1.b], CacheA c dp C, DiskA dp D, RCacheA c2 dp2 M, DiskA dp2 D] := s13
  clear s12 s11 s10 s9
  have hok9 : C.ok D.blocks.length := by rw [hDl]; exact hok
  have hMok := hsim.ok hok
  have hask2 : C.asked ≤ 1000000000000000 := by omega
  have hDw : D.wait.length ≤ 1000000000 := by have := hbd.wait; omega
  have hC256' : C.l.length ≤ 256 := by have h1 := hok.le; have h2 := hok.room; omega
  refine jn_of (fun q W' => q = true ∧ ∃ (C : CM) (M : RM) (D : DM), Both (j + 1) C M D ∧ St noF w W' [CacheA c dp C, DiskA dp D, RCacheA c2 dp2 M, DiskA dp2 D]) ?_ ?_
  rotate_left
  · rintro _ W6 ⟨rfl, C', M', D', hB, s14⟩
    obtain ⟨k1, k2, k3, k4, k5, k6⟩ := id hB
    refine jn_of (fun q W' => q = false ∧ St noF w W' [CacheA c dp C', DiskA dp D', RCacheA c2 dp2 M', DiskA dp2 D']) ?_ ?_
    · refine br_f rfl ?_
      obtain ⟨G, _, g1, _, _, _, gc⟩ := St.call [CacheA c dp C', DiskA dp D', RCacheA c2 dp2 M', DiskA dp2 D'] (l := []) s14
      refine callF_of (C53 c dp c2 dp2 C' M' D' W6 G g1 k6 (by rw [k5]; exact k1) k3) ?_
      rintro _ W7 ⟨rfl, s15⟩
      refine br_f rfl ?_
      have s16 := gc _ _ s15
      obtain ⟨G2, _, _, g2, _, _, _, _⟩ := (s16.bring 1).call1
      refine callF_of (C54 dp D' W7 G2 g2 k3) ?_
      rintro u W8 s17
      have s18 := s16.call0 s17
      obtain ⟨G3, _, _, g3, _, _, _, _⟩ := (s18.bring 4).call1
      refine callF_of (C55 dp2 D' W8 G3 g3 k3) ?_
      rintro v W9 s19
      have s20 := s18.call0 s19
      refine callF_of (C18 u v _ _ W9 (s20.bring 1).sl.bs s20.sl.bs) ?_
      rintro q W10 ⟨hq, rfl⟩
      have hq1 : q = true := hq.trans (beq_self_eq _)
      subst hq1
      exact ⟨rfl, s20.sel [2, 3, 4, 5] 6⟩
    · rintro _ W7 ⟨rfl, s15⟩
      refine br_f rfl ?_
      rw [wrap_succ (by omega)]
      exact ⟨⟨j + 1, C', M', D', rfl, hjt, hB, s15⟩, by omega⟩
  have hN1 : D.bd (600 * (j + 1)) := hbd.mono (by omega)
  refine s13.ld (i := 0) (s := .int .i64) (p := x.1.d) rfl ?_
  refine br_of (fun h0 => ?_) (fun h0 => br_of (fun h1 => ?_) (fun h1 => br_of (fun h2 => ?_) (fun h2 => br_of (fun h3 => ?_) (fun h3 => br_of (fun h4 => ?_) (fun h4 => br_of (fun h5 => ?_) (fun h5 => ?_))))))
  · -- read
    refine s13.ld (i := 1) (s := .int .i64) (p := x.1.k) rfl ?_
    obtain ⟨G, _, g2, _, _, _, gc⟩ := St.call [CacheA c dp C, DiskA dp D] (s13.sel [1, 2, 0, 3, 4] 5)
    refine callF_of (C34 c dp C D x.1.k W5 G g2 hok9 hD' hDw hask2) ?_
    rintro ⟨u, e⟩ W6 ⟨C', out, hq, s14⟩
    have s15 := gc _ _ s14
    -- u, cache', disk, box, rcache, disk2
    refine (s15.bring 3).ld (i := 1) (s := .int .i64) (p := x.1.k) rfl ?_
    obtain ⟨G3, _, g3, _, _, _, gc3⟩ := St.call [RCacheA c2 dp2 M, DiskA dp2 D] (s15.sel [4, 5, 0, 1, 2, 3] 6)
    refine callF_of (C45 c2 dp2 M D x.1.k W6 G3 g3 hMok hD' hDw) ?_
    rintro ⟨v, e2⟩ W7 ⟨M', out2, hq2, s16⟩
    have s17 := gc3 _ _ s16
    -- v, rcache', disk2, u, cache', disk, box
    dsimp only at hq hq2 s17 ⊢
    obtain ⟨rfl, rfl, hsim'⟩ := read_sim hq hq2 hsim hok9
    obtain ⟨k1, k2, _⟩ := hq.ok hok9 hD'
    rw [hDl] at k1
    refine jn_of (fun q W' => q = true ∧ W7 = W') ?_ ?_
    · refine callF_of (C18 u v out2 out2 W7 (s17.bring 3).sl.bs s17.sl.bs) ?_
      rintro q W10 ⟨hq, rfl⟩
      have hq1 : q = true := hq.trans (beq_self_eq _)
      subst hq1
      exact br_t rfl ⟨by simp, rfl⟩
    rintro _ _ ⟨rfl, rfl⟩
    have hol2 : out2.length ≤ 1000000000000000 := by
      rcases hq2 with ⟨_, _, _, rfl⟩ | ⟨_, hc, ⟨_, rfl⟩ | ⟨_, pre, y, hy, rfl⟩⟩
      · simp
      · simp
      · rw [hc.b256 hMok hD' y (by rw [hy]; simp)]; decide
    refine fill_loop (b := 77) (s17.bring 3) hol2 fun W8 l' s18 => ?_
    exact ⟨rfl, C', M', D, ⟨k1, by omega, hD', hN1, hDl, hsim'⟩, s18.sel [4, 5, 2, 3] 7⟩
  · -- write
    refine s13.ld (i := 3) (s := .slice) (p := x.1.b) rfl ?_
    have hxb5 := hxb.at s13
    have hxl := hxb5.len
    refine callF_of (C15 x.1.b x.2 W5 hxb5 hxlen) ?_
    rintro u W6 ⟨hu, _, g⟩
    have s14 := (s13.mksl g hu).drew
    have A1 : ∀ {f : Int → Pr}, f x.1.k W6.drew → ldC (.int .i64) (Addr.add ⟨b, 0, none⟩ 1) f W6.drew := fun hf => (s14.bring 1).ld (i := 1) (s := .int .i64) (p := x.1.k) rfl hf
    have A2 : ∀ {f : Int → Pr}, f x.1.o W6.drew → ldC (.int .i64) (Addr.add ⟨b, 0, none⟩ 2) f W6.drew := fun hf => (s14.bring 1).ld (i := 2) (s := .int .i64) (p := x.1.o) rfl hf
    have A3 : ∀ {f : Sl → Pr}, f x.1.b W6.drew → ldC .slice (Addr.add ⟨b, 0, none⟩ 3) f W6.drew := fun hf => (s14.bring 1).ld (i := 3) (s := .slice) (p := x.1.b) rfl hf
    have call33 : ∀ {f : Int → Pr}, (∀ e W', MidB w c dp c2 dp2 b C M D u x e W' → f e W') → callF Try.prog 33 [P0 c, .int .i64 x.1.k, .int .i64 x.1.o, .slice u.a u.len u.cap] [.c (.int .i64)] f W6.drew := by
      intro f hf
      obtain ⟨G, H, g2, g3, g4, _, gc⟩ := St.call [CacheA c dp C, DiskA dp D] (s14.sel [2, 3, 0, 1, 4, 5] 6)
      refine callF_of (C33 c dp C D x.1.k x.1.o u x.2 _ G g2 (Rd.own g3 g4) hok9 hD' hDw hask2) ?_
      rintro e W' ⟨C', hq, s15⟩
      exact hf e W' ⟨C', hq, gc _ _ s15⟩
    have B1 : ∀ {e : Int} {W' : World}, MidB w c dp c2 dp2 b C M D u x e W' → ∀ {f : Int → Pr}, f x.1.k W' → ldC (.int .i64) (Addr.add ⟨b, 0, none⟩ 1) f W' := fun ⟨_, _, s⟩ _ hf => (s.bring 3).ld (i := 1) (s := .int .i64) (p := x.1.k) rfl hf
    have B2 : ∀ {e : Int} {W' : World}, MidB w c dp c2 dp2 b C M D u x e W' → ∀ {f : Int → Pr}, f x.1.o W' → ldC (.int .i64) (Addr.add ⟨b, 0, none⟩ 2) f W' := fun ⟨_, _, s⟩ _ hf => (s.bring 3).ld (i := 2) (s := .int .i64) (p := x.1.o) rfl hf
    have B3 : ∀ {e : Int} {W' : World}, MidB w c dp c2 dp2 b C M D u x e W' → ∀ {f : Sl → Pr}, f x.1.b W' → ldC .slice (Addr.add ⟨b, 0, none⟩ 3) f W' := fun ⟨_, _, s⟩ _ hf => (s.bring 3).ld (i := 3) (s := .slice) (p := x.1.b) rfl hf
    have call46 : ∀ {e : Int} {W' : World}, MidB w c dp c2 dp2 b C M D u x e W' → callF Try.prog 46 [P0 c2, .int .i64 x.1.k, .int .i64 x.1.o, .slice x.1.b.a x.1.b.len x.1.b.cap] [.c (.int .i64)]
        (fun t129 W'' => (e == t129) = true ∧ ∃ (C : CM) (M : RM), Both (j + 1) C M D ∧ St noF w W'' [SlA 1 u (x.2.map ub), CacheA c dp C, DiskA dp D, RCacheA c2 dp2 M, DiskA dp2 D]) W' := by
      rintro e W' ⟨C', hq, s15⟩
      obtain ⟨G, _, g2, _, _, g3, gc⟩ := St.call [RCacheA c2 dp2 M, DiskA dp2 D] (s15.sel [4, 5, 0, 1, 2, 3] 6)
      refine callF_of (C46 c2 dp2 M D x.1.k x.1.o x.1.b x.2 W' G g2 (hxb.go s15 g3) hMok hD' hDw) ?_
      rintro e2 W'' ⟨M', hq2, s16⟩
      obtain ⟨rfl, hsim'⟩ := write_sim hq hq2 hsim hok9
      obtain ⟨k1, k2⟩ := hq.ok hok9 hD'
      rw [hDl] at k1
      exact ⟨by simp, C', M', ⟨k1, by omega, hD', hN1, hDl, hsim'⟩, (gc _ _ s16).sel [4, 2, 3, 0, 1] 6⟩
    refine jn_of (fun q W' => q = true ∧ ∃ (C : CM) (M : RM), Both (j + 1) C M D ∧ St noF w W' [SlA 1 u (x.2.map ub), CacheA c dp C, DiskA dp D, RCacheA c2 dp2 M, DiskA dp2 D]) ?_ ?_
    · rw [drw_def]
      repeat' (first
        | exact call46 (by assumption)
        | refine B1 (by assumption) ?_
        | refine B2 (by assumption) ?_
        | refine B3 (by assumption) ?_
        | refine A1 ?_
        | refine A2 ?_
        | refine A3 ?_
        | refine call33 fun e W' hB => ?_
        | refine ⟨?_, ?_⟩)
    · rintro _ W7 ⟨rfl, C', M', hB, s15⟩
      refine turn_loop s15 (by omega) fun W8 l' s16 => ?_
      exact ⟨rfl, C', M', D, hB, s16.drop⟩
  · -- clean
    obtain ⟨G, _, g2, _, _, _, gc⟩ := St.call [CacheA c dp C, DiskA dp D] (s13.sel [1, 2, 0, 3, 4] 5)
    refine callF_of (C42 c dp C D W5 G g2 hok.nod (by omega) hD' (600 * j) hbd (by omega)) ?_
    rintro e W6 ⟨rfl, s14⟩
    have s15 := (gc _ _ s14).sel [3, 4, 0, 1, 2] 5
    obtain ⟨G3, _, g3, _, _, _, gc3⟩ := St.call [RCacheA c2 dp2 M, DiskA dp2 D] s15
    refine callF_of (C47 c2 dp2 M D W6 G3 g3 hMok hD' (600 * j) hbd (by omega)) ?_
    rintro e2 W7 ⟨rfl, s16⟩
    have s17 := gc3 _ _ s16
    rw [hDl, dirty_sim hsim hok] at s17 ⊢
    obtain ⟨q1, q2, q3, q4, q5⟩ := clean_sim (dirtyK C) C M D 9 hsim hok fun k hk => by
      obtain ⟨y, hy, hyk, _⟩ := mem_dirtyK.1 hk
      exact List.mem_map.2 ⟨y, hy, hyk⟩
    obtain ⟨p1, p2, p3⟩ := cleanGo_bd (dirtyK C) C D (600 * j) hD' hbd
    have hdl := dirtyK_len C
    refine ⟨by rw [q1]; simp, (cleanGo (dirtyK C) C D).2.1, (cleanR (dirtyK C) M D).2.1, (cleanGo (dirtyK C) C D).2.2, ⟨q4, by rw [q5]; omega, p1, p2.mono (by omega), p3.trans hDl, q3⟩, ?_⟩
    rw [q2] at s17
    exact s17.sel [2, 3, 0, 1] 5
  · -- the disk, past the cache
    refine s13.mkSi (k := 1) 256 rfl rfl (by omega) (by omega) fun u W6 s14 _ => ?_
    rw [zc_u8] at s14
    refine (s14.bring 1).ld (i := 3) (s := .slice) (p := x.1.b) rfl ?_
    refine cpy_in s14 (hxb.at s14) fun W7 l' hl' s15 => ?_
    have hl256 : l'.length = 256 := by rw [hl', List.length_replicate]
    rw [drw_def]
    have s16 := s15.drew
    -- u, box, cache, disk, rcache, disk2
    refine (s16.bring 1).ld (i := 1) (s := .int .i64) (p := x.1.k) rfl ?_
    have hA := hbd.armed
    have hO := hbd.ops
    have hWt := hbd.wait
    have one : ∀ {f : Int → Pr}, (∀ W', St noF w W' [DiskA dp (writeD D x.1.k l').2, SlA 1 u (l'.map ub), BoxA b [.int .i64 x.1.d, .int .i64 x.1.k, .int .i64 x.1.o, slV x.1.b], CacheA c dp C, RCacheA c2 dp2 M, DiskA dp2 D] → f (writeD D x.1.k l').1 W') → callF Try.prog 40 [P0 dp, .int .i64 x.1.k, .slice u.a u.len u.cap] [.c (.int .i64)] f W7.drew := by
      intro f hf
      obtain ⟨G, H, g2, g3, g4, _, gc⟩ := St.call [DiskA dp D] (s16.sel [3, 0, 1, 2, 4, 5] 6)
      refine callF_of (C40' dp D x.1.k u l' _ G g2 (Rd.own g3 g4) hD' (by omega) hA.1 hA.2 ⟨hO.1, by omega⟩) ?_
      rintro e W' ⟨rfl, s17⟩
      exact hf W' (gc _ _ s17)
    obtain ⟨w1', w2', w3'⟩ := writeD_ok hD' hbd x.1.k l'
    have two : ∀ {W' : World}, St noF w W' [DiskA dp (writeD D x.1.k l').2, SlA 1 u (l'.map ub), BoxA b [.int .i64 x.1.d, .int .i64 x.1.k, .int .i64 x.1.o, slV x.1.b], CacheA c dp C, RCacheA c2 dp2 M, DiskA dp2 D] →
        callF Try.prog 48 [P0 dp2, .int .i64 x.1.k, .slice u.a u.len u.cap] [.c (.int .i64)] (fun t166 W'' => ((writeD D x.1.k l').1 == t166) = true ∧ ∃ (C : CM) (M : RM) (D : DM), Both (j + 1) C M D ∧ St noF w W'' [CacheA c dp C, DiskA dp D, RCacheA c2 dp2 M, DiskA dp2 D]) W' := by
      intro W' s17
      obtain ⟨G, H, g2, g3, g4, _, gc⟩ := St.call [DiskA dp2 D] (s17.sel [5, 1, 0, 2, 3, 4] 6)
      refine callF_of (C48 dp2 D x.1.k u l' _ G g2 (Rd.own g3 g4) hD' (by omega) hA.1 hA.2 ⟨hO.1, by omega⟩) ?_
      rintro e W'' ⟨rfl, s18⟩
      exact ⟨by simp, C, M, (writeD D x.1.k l').2, ⟨hok, by omega, w1', w2'.mono (by omega), w3'.trans hDl, hsim⟩, (gc _ _ s18).sel [4, 2, 5, 0] 6⟩
    refine ⟨?_, ?_⟩
    · refine one fun W' s17 => ?_
      refine (s17.bring 2).ld (i := 1) (s := .int .i64) (p := x.1.k) rfl ?_
      exact two s17
    · refine (s16.bring 1).ld (i := 1) (s := .int .i64) (p := x.1.k) rfl ?_
      exact one fun W' s17 => two s17
  · -- the power is armed
    rw [drw_def]
    have s14 := s13.drew
    refine s14.ld (i := 2) (s := .int .i64) (p := x.1.o) rfl ?_
    have hnil : ∀ (W : World) (F : Nat → Prop), Rd W F ⟨none, 0, 0⟩ [] := fun W F => ⟨BS.nil _ _, fun b hb => absurd rfl hb⟩
    obtain ⟨a1, a2, a3⟩ := armD_ok hD' hbd x.1.o hxr []
    have one : ∀ {f : Int → Pr}, (∀ W', St noF w W' [DiskA dp (armD D x.1.o []).2, BoxA b [.int .i64 x.1.d, .int .i64 x.1.k, .int .i64 x.1.o, slV x.1.b], CacheA c dp C, RCacheA c2 dp2 M, DiskA dp2 D] → f (armD D x.1.o []).1 W') → callF Try.prog 49 [P0 dp, .int .i64 x.1.o, .slice none 0 0] [.c (.int .i64)] f W5.drew := by
      intro f hf
      obtain ⟨G, H, g2, _, _, _, gc⟩ := St.call [DiskA dp D] (s14.sel [2, 0, 1, 3, 4] 5)
      refine callF_of (C49 dp D x.1.o ⟨none, 0, 0⟩ [] _ G g2 (hnil _ _) hD' (by simp)) ?_
      rintro e W' ⟨rfl, s17⟩
      exact hf W' (gc _ _ s17)
    have two : ∀ {W' : World}, St noF w W' [DiskA dp (armD D x.1.o []).2, BoxA b [.int .i64 x.1.d, .int .i64 x.1.k, .int .i64 x.1.o, slV x.1.b], CacheA c dp C, RCacheA c2 dp2 M, DiskA dp2 D] →
        callF Try.prog 50 [P0 dp2, .int .i64 x.1.o, .slice none 0 0] [.c (.int .i64)] (fun t177 W'' => ((armD D x.1.o []).1 == t177) = true ∧ ∃ (C : CM) (M : RM) (D : DM), Both (j + 1) C M D ∧ St noF w W'' [CacheA c dp C, DiskA dp D, RCacheA c2 dp2 M, DiskA dp2 D]) W' := by
      intro W' s17
      obtain ⟨G, H, g2, _, _, _, gc⟩ := St.call [DiskA dp2 D] (s17.sel [4, 0, 1, 2, 3] 5)
      refine callF_of (C50 dp2 D x.1.o ⟨none, 0, 0⟩ [] _ G g2 (hnil _ _) (by simp)) ?_
      rintro e W'' ⟨rfl, s18⟩
      exact ⟨by simp, C, M, (armD D x.1.o []).2, ⟨hok, by omega, a1, a2.mono (by omega), a3.trans hDl, hsim⟩, (gc _ _ s18).sel [3, 1, 4, 0] 5⟩
    refine ⟨?_, ?_⟩
    · refine one fun W' s17 => ?_
      refine (s17.bring 1).ld (i := 2) (s := .int .i64) (p := x.1.o) rfl ?_
      exact two s17
    · refine s14.ld (i := 2) (s := .int .i64) (p := x.1.o) rfl ?_
      exact one fun W' s17 => two s17
  · -- the power comes back
    obtain ⟨a1, a2, a3⟩ := upD_ok hD' hbd
    obtain ⟨G, H, g2, _, _, _, gc⟩ := St.call [DiskA dp D] (s13.sel [2, 0, 1, 3, 4] 5)
    refine callF_of (C51 dp D W5 G g2 hD') ?_
    rintro e W6 ⟨rfl, s14⟩
    have s15 := gc _ _ s14
    obtain ⟨G3, H3, g3, _, _, _, gc3⟩ := St.call [DiskA dp2 D] (s15.sel [4, 0, 1, 2, 3] 5)
    refine callF_of (C52 dp2 D W6 G3 g3) ?_
    rintro e2 W7 ⟨rfl, s16⟩
    exact ⟨by simp, C, M, (upD D).2, ⟨hok, by omega, a1, a2.mono (by omega), a3.trans hDl, hsim⟩, (gc3 _ _ s16).sel [3, 1, 4, 0] 5⟩
  · exact ⟨rfl, C, M, D, ⟨hok, by omega, hD', hN1, hDl, hsim⟩, s13.drop⟩
end Go.Proofs
