import Derived.Test.YtlenkeefncbmcaaLA
import Derived.Test.YtlenkeefncbmcaaDA
import Derived.Test.YtlenkeefncbmcaaFA
import Derived.Test.YtlenkeefncbmcaaCA
set_option linter.unusedVariables false
set_option linter.unusedSimpArgs false
set_option linter.unusedSectionVars false
/-! Layer 9, the cache: what it is; New, can, oldest, Has. -/
namespace Go.Proofs
open Go.Eng

/-- a buffer, and where it lies -/
structure Bf where
  key : Int
  ptr : Nat
  s : Sl
  b : List UInt8
  dirty : Bool
  asked : Int

/-- a buffer by itself -/
structure Bm where
  key : Int
  b : List UInt8
  dirty : Bool
  asked : Int

structure CM where
  room : Int
  asked : Int
  l : List Bm

def Bf.m (x : Bf) : Bm := ⟨x.key, x.b, x.dirty, x.asked⟩
def bufA (x : Bf) : HA := bigA [BoxA x.ptr [slV x.s, .bool x.dirty, .int .i64 x.asked], SlA 1 x.s (x.b.map ub)]
def bkv (x : Bf) : Int × Value := (x.key, P0 x.ptr)

/-- a cache laid open -/
def cacheO (c dp : Nat) (C : CM) (m : Nat) (bs : List Bf) : List HA :=
  [BoxA c [P0 dp, .int .i64 C.room, .map (some m), .int .i64 C.asked], MapA intKT m (bs.map bkv), bigA (bs.map bufA)]

def CacheA (c dp : Nat) (C : CM) : HA := exA fun i : Nat × List Bf => pA (C.l = i.2.map Bf.m) :: cacheO c dp C i.1 i.2

structure CM.ok (C : CM) (n : Nat) : Prop where
  nod : (C.l.map (·.key)).Nodup
  len : ∀ x ∈ C.l, x.b.length = 256
  key : ∀ x ∈ C.l, 0 ≤ x.key ∧ x.key < n
  room : 2 ≤ C.room ∧ C.room ≤ 256
  le : (C.l.length : Int) ≤ C.room
  age : ∀ x ∈ C.l, x.asked ≤ C.asked
  ages : (C.l.map (·.asked)).Nodup
  small : 0 ≤ C.asked

section
variable {F0 : Nat → Prop} {w0 w : World} {L : List HA} {c dp : Nat} {C : CM}
theorem _root_.Go.Eng.St.cOpen (h : St F0 w0 w (CacheA c dp C :: L)) : ∃ (m : Nat) (bs : List Bf), C.l = bs.map Bf.m ∧ St F0 w0 w (BoxA c [P0 dp, .int .i64 C.room, .map (some m), .int .i64 C.asked] :: MapA intKT m (bs.map bkv) :: bigA (bs.map bufA) :: L) := by
  obtain ⟨i, h⟩ := h.ex
  obtain ⟨h1, h⟩ := h.p
  exact ⟨i.1, i.2, h1, h⟩
theorem _root_.Go.Eng.St.cClose {m : Nat} {bs : List Bf} (h : St F0 w0 w (BoxA c [P0 dp, .int .i64 C.room, .map (some m), .int .i64 C.asked] :: MapA intKT m (bs.map bkv) :: bigA (bs.map bufA) :: L)) (hl : C.l = bs.map Bf.m) : St F0 w0 w (CacheA c dp C :: L) :=
  St.mkex (f := fun i : Nat × List Bf => pA (C.l = i.2.map Bf.m) :: cacheO c dp C i.1 i.2) (m, bs) (h.mkp hl)
/-- the box of one buffer, read -/
theorem _root_.Go.Eng.St.buf {bs : List Bf} {j : Nat} {x : Bf} (h : St F0 w0 w (bigA (bs.map bufA) :: L)) (hj : bs[j]? = some x) : Box w x.ptr [slV x.s, .bool x.dirty, .int .i64 x.asked] ∧ OwnS w 0 1 x.s (x.b.map ub) := by
  have h1 := (h.pick (i := j) (A := bufA x) (by simp [hj])).big
  exact ⟨h1.box, (h1.bring 1).sl⟩
end

theorem lkp_bkv (k : Int) : ∀ (bs : List Bf), (lkp k (bs.map bkv) = none ∧ ∀ x ∈ bs, x.key ≠ k) ∨ ∃ (j : Nat) (x : Bf), bs[j]? = some x ∧ x.key = k ∧ lkp k (bs.map bkv) = some (P0 x.ptr)
  | [] => .inl ⟨rfl, by simp⟩
  | x :: bs => by
    by_cases h : k = x.key
    · exact .inr ⟨0, x, rfl, h.symm, by simp [lkp, bkv, h]⟩
    · rcases lkp_bkv k bs with ⟨h1, h2⟩ | ⟨j, y, h1, h2, h3⟩
      · refine .inl ⟨by simp [lkp, bkv, h]; exact h1, fun y hy => ?_⟩
        rcases List.mem_cons.1 hy with rfl | hy
        · exact fun h' => h h'.symm
        · exact h2 y hy
      · exact .inr ⟨j + 1, y, by simpa using h1, h2, by simp [lkp, bkv, h]; exact h3⟩

theorem C72 (c dp : Nat) (vs : List Value) (w : World) (h : Box w c (P0 dp :: vs)) : Calls Try.prog 72 #[P0 c] w (RetT [.c .bool] fun r w' => r = false ∧ w = w') := by
  refine F72_calls _ _ _ ?_
  unfold F72
  refine ⟨trivial, br_f rfl ?_⟩
  simp only [deref_some']
  exact h.ld (i := 0) (s := .ptr) (p := some ⟨dp, 0, none⟩) rfl ⟨trivial, rfl, rfl⟩

theorem cbox {c dp : Nat} {C : CM} {w : World} {F : Nat → Prop} (h : Has [CacheA c dp C] w F) : ∃ m, Box w c [P0 dp, .int .i64 C.room, .map (some m), .int .i64 C.asked] := by
  obtain ⟨m, bs, _, st⟩ := (St.init h).cOpen
  exact ⟨m, st.box⟩

theorem C68 (c dp : Nat) (C : CM) (D : DM) (i : Int) (w : World) (F G : Nat → Prop) (h : Has [CacheA c dp C] w F) (hd : Has [DiskA dp D] w G) :
    Calls Try.prog 68 #[P0 c, .int .i64 i] w (RetT [.c (.int .i64)] fun r w' => r = (if 0 ≤ i ∧ i < D.blocks.length then 0 else 30) ∧ w = w') := by
  refine F68_calls _ _ _ _ ?_
  unfold F68
  obtain ⟨m, hb⟩ := cbox h
  refine callF_of (C72 c dp _ w hb) ?_
  rintro _ _ ⟨rfl, rfl⟩
  refine br_f rfl (jn_of (fun b w' => b = decide (i < 0 ∨ i ≥ D.blocks.length) ∧ w = w') ?_ ?_)
  · refine br_of (fun h0 => ⟨?_, rfl⟩) (fun h0 => ?_)
    · simp only [decide_eq_true_eq] at h0
      symm; rw [decide_eq_true_eq]; exact .inl h0
    · simp only [decide_eq_false_iff_not] at h0
      simp only [deref_some']
      refine hb.ld (i := 0) (s := .ptr) (p := some ⟨dp, 0, none⟩) rfl ?_
      refine callF_of (C67 dp D w G hd) ?_
      rintro _ _ ⟨rfl, rfl⟩
      refine ⟨?_, rfl⟩
      rw [decide_eq_decide]; omega
  · rintro _ _ ⟨rfl, rfl⟩
    by_cases hc : i < 0 ∨ i ≥ D.blocks.length
    · refine br_t (by simp [hc]) ⟨?_, rfl⟩
      rw [if_neg (by omega)]
    · refine br_f (by simp [hc]) ⟨?_, rfl⟩
      rw [if_pos (by omega)]

theorem C36 (c dp : Nat) (C : CM) (k : Int) (w : World) (F : Nat → Prop) (h : Has [CacheA c dp C] w F) :
    Calls Try.prog 36 #[P0 c, .int .i64 k] w (RetT [.c .bool] fun r w' => r = C.l.any (fun x => x.key == k) ∧ w = w') := by
  refine F36_calls _ _ _ _ ?_
  unfold F36
  obtain ⟨m, bs, hl, st⟩ := (St.init h).cOpen
  refine callF_of (C72 c dp _ w st.box) ?_
  rintro _ _ ⟨rfl, rfl⟩
  refine br_t rfl ?_
  simp only [deref_some']
  refine st.ld (i := 2) (s := .map) (p := some m) rfl ?_
  refine St.mapAt (T := intKT) (st.bring 1) (k := k) (fun v hv => ?_) (fun hv => ?_)
  · rcases lkp_bkv k bs with ⟨h1, _⟩ | ⟨j, x, h1, h2, h3⟩
    · rw [h1] at hv; cases hv
    · rw [h3, Option.some.injEq] at hv
      refine ⟨some ⟨x.ptr, 0, none⟩, hv.symm, trivial, ?_, rfl⟩
      symm
      show (C.l.any fun x => x.key == k) = true
      rw [List.any_eq_true]
      exact ⟨x.m, by rw [hl]; exact List.mem_map.2 ⟨x, List.mem_of_getElem? h1, rfl⟩, by simpa [Bf.m] using h2⟩
  · rcases lkp_bkv k bs with ⟨_, h1⟩ | ⟨j, x, h1, h2, h3⟩
    · refine ⟨none, rfl, trivial, ?_, rfl⟩
      symm
      show C.l.any (fun x => x.key == k) = false
      rw [List.any_eq_false]
      intro y hy
      rw [hl] at hy
      obtain ⟨x, hx, rfl⟩ := List.mem_map.1 hy
      simpa [Bf.m] using h1 x hx
    · rw [h3] at hv; cases hv

theorem C32 (dp : Nat) (D : DM) (room : Int) (w : World) (F : Nat → Prop) (h : Has [DiskA dp D] w F) (hok : D.ok) :
    Calls Try.prog 32 #[P0 dp, .int .i64 room] w (RetT [.c .ptr, .c (.int .i64)] fun r w' =>
      if 2 ≤ room ∧ room ≤ 256 then r.2 = 0 ∧ ∃ c, r.1 = some ⟨c, 0, none⟩ ∧ St noF w w' [CacheA c dp ⟨room, 0, []⟩] else r = (none, 1) ∧ w = w') := by
  refine F32_calls _ _ _ _ ?_
  unfold F32
  refine callF_of (C67 dp D w F h) ?_
  rintro _ _ ⟨rfl, rfl⟩
  have hp := hok.pos
  refine br_f (by rw [beq_eq_false_iff_ne]; omega) (jn_of (fun b w' => b = decide (room < 2 ∨ room > 256) ∧ w = w') ?_ ?_)
  · refine br_of (fun h0 => ⟨?_, rfl⟩) (fun h0 => ⟨?_, rfl⟩)
    · simp only [decide_eq_true_eq] at h0
      symm; rw [decide_eq_true_eq]; exact .inl h0
    · simp only [decide_eq_false_iff_not] at h0
      rw [decide_eq_decide]; omega
  · rintro _ _ ⟨rfl, rfl⟩
    by_cases hc : room < 2 ∨ room > 256
    · refine br_t (by simp [hc]) ?_
      dsimp only
      rw [if_neg (by omega)]
      exact ⟨rfl, rfl⟩
    · refine br_f (by simp [hc]) ?_
      refine St.newMap (T := intKT) (St.init0 w) fun m w1 s1 => ?_
      refine St.nw s1 fun c w2 s2 _ _ => ?_
      dsimp only
      rw [if_pos (by omega)]
      refine ⟨rfl, c, rfl, ?_⟩
      exact St.cClose (C := ⟨room, 0, []⟩) (bs := []) (s2.nobig.sel [1, 2, 0] 3) rfl

theorem len_sub {α : Type} : ∀ {l1 l2 : List α}, l1.Nodup → (∀ x ∈ l1, x ∈ l2) → l1.length ≤ l2.length
  | [], _, _, _ => by simp
  | x :: l1, l2, h, hs => by
    rw [List.nodup_cons] at h
    obtain ⟨a, b, rfl⟩ := List.append_of_mem (hs x (by simp))
    have := len_sub (l1 := l1) (l2 := a ++ b) h.2 fun y hy => by
      have h2 := hs y (by simp [hy])
      rcases List.mem_append.1 h2 with h3 | h3
      · exact List.mem_append_left _ h3
      · rcases List.mem_cons.1 h3 with h4 | h4
        · exact absurd (h4 ▸ hy) h.1
        · exact List.mem_append_right _ h4
    simp only [List.length_append, List.length_cons] at this ⊢
    omega
theorem nodup_le {n : Nat} {l : List Nat} (h1 : l.Nodup) (h2 : ∀ j ∈ l, j < n) : l.length ≤ n := by
  have := len_sub h1 (l2 := List.range n) fun j hj => List.mem_range.2 (h2 j hj)
  simpa using this

/-- the clean buffer that was asked for longest ago, if there is one -/
def OldQ (C : CM) (r : Int) : Prop := (r = -1 ∧ ∀ x ∈ C.l, x.dirty = true) ∨ ∃ x ∈ C.l, r = x.key ∧ x.dirty = false ∧ ∀ y ∈ C.l, y.dirty = false → x.asked ≤ y.asked

theorem C93 (c dp : Nat) (C : CM) (n : Nat) (w : World) (F : Nat → Prop) (h : Has [CacheA c dp C] w F) (hok : C.ok n) :
    Calls Try.prog 93 #[P0 c] w (RetT [.c (.int .i64)] fun r w' => OldQ C r ∧ St F w w' [CacheA c dp C]) := by
  refine F93_calls _ _ _ ?_
  unfold F93
  obtain ⟨m, bs, hl, st⟩ := (St.init h).cOpen
  simp only [deref_some']
  refine st.ld (i := 2) (s := .map) (p := some m) rfl ?_
  refine St.mrange (T := intKT) (st.bring 1) fun it w1 s1 => ?_
  have hnb : (bs.map bkv).length = bs.length := by simp
  have hkey0 : ∀ x ∈ bs, 0 ≤ x.key := fun x hx => (hok.key x.m (by rw [hl]; exact List.mem_map.2 ⟨x, hx, rfl⟩)).1
  refine loop_of (fun r W => ∃ done, St F w W [MapItA intKT m it (bs.map bkv) done, BoxA c [P0 dp, .int .i64 C.room, .map (some m), .int .i64 C.asked], bigA (bs.map bufA)] ∧
      ((r = -1 ∧ ∀ (j : Nat) x, j ∈ done → bs[j]? = some x → x.dirty = true) ∨ ∃ (k : Nat) (x : Bf), k ∈ done ∧ bs[k]? = some x ∧ r = x.key ∧ x.dirty = false ∧ ∀ (j : Nat) y, j ∈ done → bs[j]? = some y → y.dirty = false → x.asked ≤ y.asked))
    (fun _ W => bs.length - itSeen it W) ⟨[], s1, .inl ⟨rfl, by simp⟩⟩ ?_
  rintro r W ⟨done, s, hr⟩
  have hds := s.itSeen
  have hdl : done.length ≤ bs.length := by
    obtain ⟨_, _, _, _, _, h3, h4, _⟩ := s.itOpen
    rw [hnb] at h3
    have := nodup_le h4 h3
    exact this
  refine St.mnext s (fun hp W' s' => ?_) (fun i en W' hi hnd s' => ?_)
  · refine ⟨?_, St.cClose (C := C) ((s'.itMap).sel [1, 0, 2] 3) hl⟩
    have hall : ∀ j, j < bs.length → j ∈ done := fun j hj => hp.symm.subset (by rw [hnb]; exact List.mem_range.2 hj)
    rcases hr with ⟨h1, h2⟩ | ⟨k, x, _, h2, h3, h4, h5⟩
    · refine .inl ⟨h1, fun y hy => ?_⟩
      rw [hl] at hy
      obtain ⟨x, hx, rfl⟩ := List.mem_map.1 hy
      obtain ⟨j, hj, rfl⟩ := List.getElem_of_mem hx
      exact h2 j _ (hall j hj) (by simp)
    · refine .inr ⟨x.m, by rw [hl]; exact List.mem_map.2 ⟨x, List.mem_of_getElem? h2, rfl⟩, h3, h4, fun y hy hd => ?_⟩
      rw [hl] at hy
      obtain ⟨z, hz, rfl⟩ := List.mem_map.1 hy
      obtain ⟨j, hj, rfl⟩ := List.getElem_of_mem hz
      exact h5 j _ (hall j hj) (by simp) hd
  · rw [hnb] at hi
    refine s'.mentry fun en2 kvx hkv hk hv => ?_
    have hbi : bs[i]? = some bs[i] := by simp
    rw [List.getElem?_map, hbi, Option.map_some, Option.some.injEq] at hkv
    subst hkv
    refine ⟨bs[i].key, hk, some ⟨bs[i].ptr, 0, none⟩, hv, ?_⟩
    have hds' := s'.itSeen
    simp only [List.length_append, List.length_singleton] at hds'
    have hdl' : done.length + 1 ≤ bs.length := by
      obtain ⟨_, _, _, _, _, h3, h4, _⟩ := s'.itOpen
      rw [hnb] at h3
      have := nodup_le h4 h3
      simpa using this
    refine jn_of (fun b W2 => St F w W2 [MapItA intKT m it (bs.map bkv) (done ++ [i]), BoxA c [P0 dp, .int .i64 C.room, .map (some m), .int .i64 C.asked], bigA (bs.map bufA)] ∧
      (b = true → bs[i].dirty = false ∧ (r = -1 ∨ ∀ (k : Nat) x, bs[k]? = some x → r = x.key → bs[i].asked ≤ x.asked)) ∧ (b = false → bs[i].dirty = true ∨ (∀ (k : Nat) x, bs[k]? = some x → r = x.key → x.asked ≤ bs[i].asked) ∧ r ≠ -1)) ?_ ?_
    · rw [drw_def]
      simp only [deref_some']
      have sd := s'.drew
      have hbuf := (sd.bring 2).buf hbi
      refine hbuf.1.ld (i := 1) (s := .bool) (p := bs[i].dirty) rfl ?_
      refine br_of (fun hcl => ?_) (fun hdt => ⟨sd, ⟨fun h => (by cases h), fun _ => .inl (by simpa using hdt)⟩⟩)
      have hcl : bs[i].dirty = false := by simpa using hcl
      refine br_of (fun hneg => ?_) (fun hpos => ?_)
      · simp only [decide_eq_true_eq] at hneg
        refine ⟨sd, fun _ => ⟨hcl, .inl ?_⟩, fun h => (by cases h)⟩
        rcases hr with ⟨h1, _⟩ | ⟨k, x, _, h2, h3, _⟩
        · exact h1
        · have := hkey0 x (List.mem_of_getElem? h2); omega
      · simp only [decide_eq_false_iff_not] at hpos
        rcases hr with ⟨h1, _⟩ | ⟨k, x, _, h2, h3, h4, h5⟩
        · rw [h1] at hpos; exact absurd (by decide) hpos
        refine hbuf.1.ld (i := 2) (s := .int .i64) (p := bs[i].asked) rfl ?_
        refine (sd.bring 1).ld (i := 2) (s := .map) (p := some m) rfl ?_
        have huniq : ∀ (k' : Nat) x', bs[k']? = some x' → r = x'.key → x' = x := by
          intro k' x' hk' hrk
          have hn := hok.nod
          rw [hl, List.map_map] at hn
          have e1 : (bs.map ((fun x => x.key) ∘ Bf.m))[k']? = some r := by rw [List.getElem?_map, hk', hrk]; rfl
          have e2 : (bs.map ((fun x => x.key) ∘ Bf.m))[k]? = some r := by rw [List.getElem?_map, h2, h3]; rfl
          have := (List.getElem?_inj (split_at e1).2 hn).1 (e1.trans e2.symm)
          subst this
          rw [h2] at hk'
          exact (Option.some.inj hk').symm
        refine St.mapAt (T := intKT) (sd.itMap) (k := r) (fun v hv => ?_) (fun hv => ?_)
        · rcases lkp_bkv r bs with ⟨g1, _⟩ | ⟨k', x', g1, g2, g3⟩
          · rw [g1] at hv; cases hv
          · rw [g3, Option.some.injEq] at hv
            have hx' := huniq k' x' g1 g2.symm
            refine ⟨some ⟨x'.ptr, 0, none⟩, hv.symm, ?_⟩
            simp only [deref_some']
            refine ((sd.bring 2).buf g1).1.ld (i := 2) (s := .int .i64) (p := x'.asked) rfl ?_
            refine ⟨sd, fun hb => ⟨hcl, .inr fun k2 x2 hk2 hr2 => ?_⟩, fun hb => .inr ⟨fun k2 x2 hk2 hr2 => ?_, ?_⟩⟩
            · rw [huniq k2 x2 hk2 hr2, ← hx']
              simp only [decide_eq_true_eq] at hb
              omega
            · rw [huniq k2 x2 hk2 hr2, ← hx']
              simp only [decide_eq_false_iff_not] at hb
              omega
            · have := hkey0 x (List.mem_of_getElem? h2); omega
        · rcases lkp_bkv r bs with ⟨_, g1⟩ | ⟨k', x', g1, g2, g3⟩
          · exact absurd h3.symm (g1 x (List.mem_of_getElem? h2))
          · rw [g3] at hv; cases hv
    · rintro b W2 ⟨s2, hb1, hb2⟩
      have hds2 := s2.itSeen
      simp only [List.length_append, List.length_singleton] at hds2
      have hbi2 : ∀ (j : Nat) y, j ∈ done ++ [i] → bs[j]? = some y → j ∈ done ∨ y = bs[i] := by
        intro j y hj hy
        rcases List.mem_append.1 hj with h | h
        · exact .inl h
        · rw [List.mem_singleton] at h; subst h; rw [hbi] at hy; exact .inr (Option.some.inj hy).symm
      refine br_of (fun hb => ?_) (fun hb => ?_)
      · obtain ⟨g1, g2⟩ := hb1 hb
        refine ⟨⟨done ++ [i], s2, .inr ⟨i, bs[i], by simp, hbi, rfl, g1, fun j y hj hy hyd => ?_⟩⟩, by omega⟩
        rcases hbi2 j y hj hy with h | h
        · rcases hr with ⟨_, h2⟩ | ⟨k, x, _, h2, h3, h4, h5⟩
          · have := h2 j y h hy; rw [this] at hyd; cases hyd
          · rcases g2 with g2 | g2
            · have := hkey0 x (List.mem_of_getElem? h2); omega
            · have := g2 k x h2 h3
              have := h5 j y h hy hyd
              omega
        · rw [h]; exact Int.le_refl _
      · refine ⟨⟨done ++ [i], s2, ?_⟩, by omega⟩
        rcases hr with ⟨h1, h2⟩ | ⟨k, x, h0, h2, h3, h4, h5⟩
        · refine .inl ⟨h1, fun j y hj hy => ?_⟩
          rcases hbi2 j y hj hy with h | h
          · exact h2 j y h hy
          · rcases hb2 hb with g | ⟨_, g⟩
            · rw [h]; exact g
            · exact absurd h1 g
        · refine .inr ⟨k, x, by simp [h0], h2, h3, h4, fun j y hj hy hyd => ?_⟩
          rcases hbi2 j y hj hy with h | h
          · exact h5 j y h hy hyd
          · rcases hb2 hb with g | ⟨g, _⟩
            · rw [← h, hyd] at g; cases g
            · rw [h]; exact g k x h2 h3
end Go.Proofs

/-! Layer 9, the cache: a block comes in. -/
namespace Go.Proofs
open Go.Eng

def CM.tick (C : CM) : CM := { C with asked := C.asked + 1 }
def newB (C : CM) (D : DM) (i : Int) : Bm := ⟨i, rdD D i, false, C.asked + 1⟩

inductive ComesQ (C : CM) (D : DM) (i : Int) : Int → CM → Nat → Prop
  | hit (k : Nat) (x : Bm) (h1 : C.l[k]? = some x) (h2 : x.key = i) : ComesQ C D i 0 { C.tick with l := C.l.set k { x with asked := C.asked + 1 } } k
  | full (no : ∀ x ∈ C.l, x.key ≠ i) (hf : C.room ≤ (C.l.length : Int)) (hd : ∀ x ∈ C.l, x.dirty = true) : ComesQ C D i 6 C.tick 0
  | err (no : ∀ x ∈ C.l, x.key ≠ i) (he : placeE D i ≠ 0) (hc : C.room ≤ (C.l.length : Int) → ∃ x ∈ C.l, x.dirty = false) : ComesQ C D i (placeE D i) C.tick 0
  | more (no : ∀ x ∈ C.l, x.key ≠ i) (hp : placeE D i = 0) (hf : ¬ C.room ≤ (C.l.length : Int)) : ComesQ C D i 0 { C.tick with l := C.l ++ [newB C D i] } C.l.length
  | swap (no : ∀ x ∈ C.l, x.key ≠ i) (hp : placeE D i = 0) (hf : C.room ≤ (C.l.length : Int)) (k : Nat) (y : Bm) (h1 : C.l[k]? = some y) (h2 : y.dirty = false) (h3 : ∀ z ∈ C.l, z.dirty = false → y.asked ≤ z.asked) :
    ComesQ C D i 0 { C.tick with l := C.l.eraseIdx k ++ [newB C D i] } (C.l.length - 1)

theorem CM.tick_ok {C : CM} {n : Nat} (h : C.ok n) : C.tick.ok n :=
  ⟨h.nod, h.len, h.key, h.room, h.le, fun x hx => by have := h.age x hx; show x.asked ≤ C.asked + 1; omega, h.ages, by have := h.small; show 0 ≤ C.asked + 1; omega⟩

/-- a key has one place -/
theorem key_inj {C : CM} {n : Nat} (h : C.ok n) {j k : Nat} {x y : Bm} (hx : C.l[j]? = some x) (hy : C.l[k]? = some y) (hk : x.key = y.key) : j = k := by
  have e1 : (C.l.map (·.key))[j]? = some x.key := by rw [List.getElem?_map, hx]; rfl
  have e2 : (C.l.map (·.key))[k]? = some x.key := by rw [List.getElem?_map, hy, hk]; rfl
  exact (List.getElem?_inj (split_at e1).2 h.nod).1 (e1.trans e2.symm)

theorem C69 (c dp : Nat) (C : CM) (D : DM) (i : Int) (n : Nat) (w : World) (F : Nat → Prop) (h : Has [CacheA c dp C, DiskA dp D] w F) (hok : C.ok n) (hD : D.ok) (hwl : D.wait.length ≤ 1000000000) (ha : C.asked ≤ 1000000000000000) :
    Calls Try.prog 69 #[P0 c, .int .i64 i] w (RetT [.c .ptr, .c (.int .i64)] fun r w' => ∃ C' j, ComesQ C D i r.2 C' j ∧ ∃ (m : Nat) (bs : List Bf), C'.l = bs.map Bf.m ∧ (r.2 = 0 → ∃ x : Bf, bs[j]? = some x ∧ r.1 = some ⟨x.ptr, 0, none⟩) ∧
      St F w w' [BoxA c [P0 dp, .int .i64 C'.room, .map (some m), .int .i64 C'.asked], MapA intKT m (bs.map bkv), bigA (bs.map bufA), DiskA dp D]) := by
  refine F69_calls _ _ _ _ ?_
  unfold F69
  obtain ⟨m, bs, hl, st⟩ := (St.init h).cOpen
  have hsm := hok.small
  simp only [deref_some']
  refine st.ld (i := 3) (s := .int .i64) (p := C.asked) rfl ?_
  rw [show IntKind.wrap .i64 (C.asked + 1) = C.asked + 1 from wrap_i64 (by omega)]
  refine st.st (i := 3) (by simp) trivial fun w1 s1 => ?_
  replace s1 : St F w w1 [BoxA c [P0 dp, .int .i64 C.tick.room, .map (some m), .int .i64 C.tick.asked], MapA intKT m (bs.map bkv), bigA (bs.map bufA), DiskA dp D] := s1
  refine s1.ld (i := 2) (s := .map) (p := some m) rfl ?_
  refine St.mapAt (T := intKT) (s1.bring 1) (k := i) (fun v hv => ?_) (fun hv => ?_)
  · -- it is there
    rcases lkp_bkv i bs with ⟨h1, _⟩ | ⟨j, x, h1, h2, h3⟩
    · rw [h1] at hv; cases hv
    rw [h3, Option.some.injEq] at hv
    refine ⟨some ⟨x.ptr, 0, none⟩, hv.symm, trivial, br_t rfl ?_⟩
    refine s1.ld (i := 3) (s := .int .i64) (p := C.tick.asked) rfl ?_
    simp only [deref_some']
    have s2 := ((s1.bring 2).pick (i := j) (A := bufA x) (by simp [h1])).big
    refine s2.st (i := 2) (by simp) trivial fun w2 s3 => ?_
    have hjl : j < (bs.map bufA).length := (split_at (show (bs.map bufA)[j]? = some (bufA x) by simp [h1])).2
    have s4 := (St.mkbig (xs := [_, _]) s3).unpick hjl
    refine ⟨{ C.tick with l := C.l.set j { x.m with asked := C.asked + 1 } }, j, .hit j x.m (by rw [hl]; simp [h1]) h2, m, bs.set j { x with asked := C.asked + 1 }, by rw [hl, List.map_set]; rfl, fun _ => ⟨{ x with asked := C.asked + 1 }, ?_, rfl⟩, ?_⟩
    · rw [List.getElem?_set_self (by simpa using hjl)]
    · have e1 : (bs.set j { x with asked := C.asked + 1 }).map bkv = bs.map bkv := by
        rw [List.map_set]
        refine List.ext_getElem? fun k => ?_
        rw [List.getElem?_set]
        split
        · rename_i hjk
          subst hjk
          rw [List.getElem?_map, h1]
          simp [bkv, (split_at h1).2]
        · rfl
      rw [e1, List.map_set]
      exact s4.sel [1, 2, 0, 3] 4
  -- it is not there
  have hno : ∀ x ∈ C.l, x.key ≠ i := by
    rcases lkp_bkv i bs with ⟨_, h1⟩ | ⟨j, x, h1, h2, h3⟩
    · intro y hy
      rw [hl] at hy
      obtain ⟨x, hx, rfl⟩ := List.mem_map.1 hy
      exact h1 x hx
    · rw [h3] at hv; cases hv
  refine ⟨none, rfl, trivial, br_f rfl ?_⟩
  have s2 := s1.drew
  rw [drw_def]
  refine s2.ld (i := 2) (s := .map) (p := some m) rfl ?_
  refine St.mapLen (T := intKT) (s2.bring 1) ?_
  refine s2.ld (i := 1) (s := .int .i64) (p := C.room) rfl ?_
  have hlen : ((bs.map bkv).length : Int) = (C.l.length : Int) := by rw [hl]; simp
  rw [hlen]
  refine jn_of (fun s W => St F w W [CacheA c dp C.tick, DiskA dp D] ∧ (C.room ≤ (C.l.length : Int) → ∃ (k : Nat) (y : Bm), C.l[k]? = some y ∧ s = y.key ∧ y.dirty = false ∧ ∀ z ∈ C.l, z.dirty = false → y.asked ≤ z.asked)) ?_ ?_
  · have s3 := s2.cClose (C := C.tick) hl
    refine br_of (fun hf => ?_) (fun hf => ⟨s3, fun h => ?_⟩)
    · simp only [ge_iff_le, decide_eq_true_eq] at hf
      obtain ⟨G, H, _, g1, _, _, _, gc⟩ := s3.call1
      refine callF_of (C93 c dp C.tick n _ G g1 (CM.tick_ok hok)) ?_
      rintro r w3 ⟨hr, s4⟩
      have s5 := gc w3 _ s4
      refine br_of (fun hneg => ?_) (fun hpos => ?_)
      · simp only [decide_eq_true_eq] at hneg
        obtain ⟨m', bs', hl', s6⟩ := St.cOpen s5
        refine ⟨C.tick, 0, .full hno hf ?_, m', bs', hl', fun h => (by cases h), s6⟩
        rcases hr with ⟨_, h2⟩ | ⟨x, hx, h2, _⟩
        · exact h2
        · have := (hok.key x hx).1; omega
      · simp only [decide_eq_false_iff_not] at hpos
        refine ⟨s5, fun _ => ?_⟩
        rcases hr with ⟨h1, _⟩ | ⟨x, hx, h2, h3, h4⟩
        · rw [h1] at hpos; exact absurd (by decide) hpos
        · obtain ⟨k, hk⟩ := List.getElem?_of_mem hx
          exact ⟨k, x, hk, h2, h3, h4⟩
    · simp only [ge_iff_le, decide_eq_false_iff_not] at hf
      exact absurd h hf
  rintro s W ⟨sW, hs⟩
  obtain ⟨m1, bs1, hl1, s3⟩ := St.cOpen sW
  refine s3.ld (i := 0) (s := .ptr) (p := some ⟨dp, 0, none⟩) rfl ?_
  obtain ⟨G, H, _, g1, _, _, _, _⟩ := (s3.bring 3).call1
  refine callF_of (C35 dp D i W G g1 hD hwl) ?_
  rintro ⟨t, e⟩ w4 ⟨rfl, st4⟩
  have s4 := s3.call0 st4
  dsimp only at s4 ⊢
  refine br_of (fun hne => ?_) (fun heq => ?_)
  · have hne : placeE D i ≠ 0 := by simpa using hne
    refine ⟨C.tick, 0, .err hno hne fun hf => ?_, m1, bs1, hl1, fun h => absurd h hne, s4.drop⟩
    obtain ⟨k, y, h1, _, h3, _⟩ := hs hf
    exact ⟨y, List.mem_of_getElem? h1, h3⟩
  have hp0 : placeE D i = 0 := by simpa using heq
  rw [if_pos hp0] at s4
  have hmem : ∀ x ∈ bs1, x.key ≠ i := fun x hx => hno x.m (by show x.m ∈ C.tick.l; rw [hl1]; exact List.mem_map.2 ⟨x, hx, rfl⟩)
  refine jn_of (fun _ W2 => ∃ bs2 : List Bf, (∀ x ∈ bs2, x.key ≠ i) ∧ (C.room ≤ (C.l.length : Int) → ∃ (k : Nat) (y : Bm), C.l[k]? = some y ∧ y.dirty = false ∧ (∀ z ∈ C.l, z.dirty = false → y.asked ≤ z.asked) ∧ bs2.map Bf.m = C.l.eraseIdx k) ∧
      (¬ C.room ≤ (C.l.length : Int) → bs2.map Bf.m = C.l) ∧
      St F w W2 [BoxA c [P0 dp, .int .i64 C.tick.room, .map (some m1), .int .i64 C.tick.asked], MapA intKT m1 (bs2.map bkv), bigA (bs2.map bufA), SlA 1 t ((rdD D i).map ub), DiskA dp D]) ?_ ?_
  · refine br_of (fun hf => ?_) (fun hf => ?_)
    · simp only [ge_iff_le, decide_eq_true_eq] at hf
      obtain ⟨k, y, h1, rfl, h3, h4⟩ := hs hf
      refine (s4.bring 1).ld (i := 2) (s := .map) (p := some m1) rfl ?_
      have hkb : ∃ x : Bf, bs1[k]? = some x ∧ x.m = y := by
        have h5 : (bs1.map Bf.m)[k]? = some y := by rw [← hl1]; exact h1
        rw [List.getElem?_map] at h5
        cases hb : bs1[k]? with
        | none => rw [hb] at h5; cases h5
        | some x => rw [hb] at h5; exact ⟨x, rfl, Option.some.inj h5⟩
      obtain ⟨x, hx, rfl⟩ := hkb
      refine St.mapDel (T := intKT) (k := x.m.key) (s4.bring 2) (fun k' v W2 hk' _ s5 => ?_) (fun hnk => ?_)
      · have hkk : k' = k := by
          rw [List.getElem?_map] at hk'
          cases hb : bs1[k']? with
          | none => rw [hb] at hk'; cases hk'
          | some x' =>
            rw [hb] at hk'
            simp only [Option.map_some, Option.some.injEq, bkv, Prod.mk.injEq] at hk'
            refine key_inj (CM.tick_ok hok) (x := x'.m) (y := x.m) ?_ ?_ hk'.1
            · rw [hl1, List.getElem?_map, hb]; rfl
            · rw [hl1, List.getElem?_map, hx]; rfl
        subst hkk
        refine ⟨bs1.eraseIdx k', fun z hz => hmem z (List.mem_of_mem_eraseIdx hz), fun _ => ⟨k', x.m, h1, h3, h4, ?_⟩, fun h => absurd hf h, ?_⟩
        · rw [eraseIdx_map, ← hl1]; rfl
        · rw [eraseIdx_map, eraseIdx_map]
          have s6 := (s5.bring 3).pick (i := k') (A := bufA x) (by simp [hx])
          exact s6.sel [4, 2, 1, 3, 5] 6
      · exfalso
        refine hnk ?_
        rw [List.map_map]
        exact List.mem_map.2 ⟨x, List.mem_of_getElem? hx, rfl⟩
    · simp only [ge_iff_le, decide_eq_false_iff_not] at hf
      exact ⟨bs1, hmem, fun h => absurd h hf, fun _ => hl1.symm, s4.sel [1, 2, 3, 0, 4] 5⟩
  rintro ⟨⟩ W2 ⟨bs2, hn2, hf1, hf2, s5⟩
  refine s5.ld (i := 3) (s := .int .i64) (p := C.tick.asked) rfl ?_
  refine St.nw s5 fun r W3 s6 _ _ => ?_
  refine (s6.bring 1).ld (i := 2) (s := .map) (p := some m1) rfl ?_
  refine St.mapPut (T := intKT) (k := i) (s6.bring 2) (fun k' u W4 hk' _ _ => ?_) (fun _ W4 s7 => ?_)
  · exfalso
    rw [List.getElem?_map] at hk'
    cases hb : bs2[k']? with
    | none => rw [hb] at hk'; cases hk'
    | some x' =>
      rw [hb] at hk'
      simp only [Option.map_some, Option.some.injEq, bkv, Prod.mk.injEq] at hk'
      exact hn2 x' (List.mem_of_getElem? hb) hk'.1
  have s8 := (St.mkbig (xs := [_, _]) (s7.sel [1, 4, 3, 2, 0, 5] 6)).push
  obtain ⟨nb, hnb⟩ : ∃ nb : Bf, nb = ⟨i, r, t, rdD D i, false, C.tick.asked⟩ := ⟨_, rfl⟩
  have hl9 : (bs2 ++ [nb]).map Bf.m = bs2.map Bf.m ++ [newB C D i] := by rw [List.map_append, hnb]; rfl
  by_cases hf : C.room ≤ (C.l.length : Int)
  · obtain ⟨k, y, h1, h2, h3, h4⟩ := hf1 hf
    refine ⟨{ C.tick with l := C.l.eraseIdx k ++ [newB C D i] }, C.l.length - 1, .swap hno hp0 hf k y h1 h2 h3, m1, bs2 ++ [nb], ?_, fun _ => ⟨nb, ?_, by rw [hnb]⟩, ?_⟩
    · rw [hl9, h4]
    · have h5 := congrArg List.length h4
      rw [List.length_map, List.length_eraseIdx_of_lt (split_at h1).2] at h5
      rw [List.getElem?_append_right (by omega), h5, Nat.sub_self]; rfl
    · rw [List.map_append, List.map_append, hnb]
      exact s8.sel [1, 2, 0, 3] 4
  · have h4 := hf2 hf
    refine ⟨{ C.tick with l := C.l ++ [newB C D i] }, C.l.length, .more hno hp0 hf, m1, bs2 ++ [nb], ?_, fun _ => ⟨nb, ?_, by rw [hnb]⟩, ?_⟩
    · rw [hl9, h4]
    · have h5 := congrArg List.length h4
      rw [List.length_map] at h5
      rw [List.getElem?_append_right (by omega), h5, Nat.sub_self]; rfl
    · rw [List.map_append, List.map_append, hnb]
      exact s8.sel [1, 2, 0, 3] 4
end Go.Proofs

/-! Layer 9, the cache: Read, Write. -/
namespace Go.Proofs
open Go.Eng

theorem _root_.Go.Eng.St.cpy_lo {F0 : Nat → Prop} {w0 w : World} {L : List HA} {t src : Sl} {vs l : List UInt8} {o : Int} {k : Pr} (h : St F0 w0 w (SlA 1 t (vs.map ub) :: L)) (hs : BS w src l) (h0 : 0 ≤ o) (h1 : o + l.length ≤ vs.length)
    (hk : ∀ w', St F0 w0 w' (SlA 1 t ((lay vs o.toNat l).map ub) :: L) → k w') : (slc 1 t (some o) none none fun s' => cpy 1 s' src k) w := by
  have hl := slA_len1 h.sl
  rw [List.length_map] at hl
  have hsl := hs.len
  have hle := h.sl.le
  refine slc_lo h0 (by omega) ?_
  refine cpy_own h.sl (o := o.toNat) (by omega) ?_ rfl hs.row (fun _ => by simp [hsl]) hs.none_len (by dsimp only; omega) NotAgg_ub ?_
  · dsimp only
    by_cases hc : t.cap = o.toNat
    · exact .inr (by omega)
    · rw [if_neg hc]; exact .inl rfl
  · intro w' g1 g2 g3
    refine hk w' (h.slm g2 ?_ fun _ h => .inl h)
    have e : (vs.map ub).take (o.toNat * 1) ++ l.map ub ++ (vs.map ub).drop (o.toNat * 1 + (l.map ub).length) = (lay vs o.toNat l).map ub := by
      unfold lay
      simp only [Nat.mul_one, List.map_append, List.map_take, List.map_drop, List.length_map]
    rw [← e]
    exact g1

theorem rdD_len {D : DM} (hD : D.ok) {i : Int} (h0 : 0 ≤ i) (h1 : i < D.blocks.length) : (rdD D i).length = 256 := by
  unfold rdD
  cases hf : D.wait.reverse.find? (·.1 == i) with
  | none =>
    simp only [Option.map_none, Option.getD_none]
    have hi : i.toNat < D.blocks.length := by omega
    rw [List.getElem?_eq_getElem hi]
    exact hD.len _ (List.getElem_mem hi)
  | some x =>
    have := List.mem_of_find?_eq_some hf
    exact (hD.wlen x (List.mem_reverse.1 this)).2.2

theorem place0 {D : DM} {i : Int} (h : placeE D i = 0) : D.off = false ∧ 0 ≤ i ∧ i < D.blocks.length := by
  unfold placeE at h
  split at h
  · cases h
  · split at h
    · cases h
    · rename_i h1 h2
      exact ⟨by simpa using h1, by omega⟩

theorem set_getElem?_mem {α : Type} {l : List α} {k : Nat} {a b : α} (h : b ∈ l.set k a) : b ∈ l ∨ b = a := List.mem_or_eq_of_mem_set h

theorem map_set_same {α β : Type} (f : α → β) {l : List α} {k : Nat} {a x : α} (hx : l[k]? = some x) (hf : f a = f x) : (l.set k a).map f = l.map f := by
  rw [List.map_set, hf]
  refine List.ext_getElem? fun j => ?_
  rw [List.getElem?_set]
  split
  · rename_i h; subst h
    rw [List.getElem?_map, hx]
    simp [(split_at hx).2]
  · rfl

theorem nodup_eraseIdx {α : Type} {l : List α} (h : l.Nodup) (k : Nat) : (l.eraseIdx k).Nodup := h.sublist (List.eraseIdx_sublist _ _)

theorem nodup_snoc {α : Type} {l : List α} {a : α} (h : l.Nodup) (ha : a ∉ l) : (l ++ [a]).Nodup := by
  rw [List.nodup_append]
  refine ⟨h, by simp, fun x hx y hy => ?_⟩
  rw [List.mem_singleton] at hy
  subst hy
  exact fun e => ha (e ▸ hx)

theorem nodup_set {α : Type} {a : α} : ∀ {l : List α}, l.Nodup → a ∉ l → ∀ k, (l.set k a).Nodup
  | [], h, _, _ => h
  | x :: l, h, ha, 0 => by
    rw [List.nodup_cons] at h
    exact List.nodup_cons.2 ⟨fun hm => ha (by simp [hm]), h.2⟩
  | x :: l, h, ha, k + 1 => by
    rw [List.nodup_cons] at h
    refine List.nodup_cons.2 ⟨fun hm => ?_, nodup_set h.2 (fun hm => ha (by simp [hm])) k⟩
    rcases List.mem_or_eq_of_mem_set hm with h1 | h1
    · exact h.1 h1
    · exact ha (by simp [h1])

theorem ComesQ.asked {C C' : CM} {D : DM} {i e : Int} {j : Nat} (h : ComesQ C D i e C' j) : C'.asked = C.asked + 1 ∧ C'.room = C.room := by
  cases h <;> exact ⟨rfl, rfl⟩

theorem ComesQ.ok {C C' : CM} {D : DM} {i e : Int} {j : Nat} (h : ComesQ C D i e C' j) (hok : C.ok D.blocks.length) (hD : D.ok) : C'.ok D.blocks.length := by
  have ht := CM.tick_ok hok
  cases h with
  | hit _ x h1 h2 =>
    have hmem := List.mem_of_getElem? h1
    refine ⟨?_, ?_, ?_, hok.room, ?_, ?_, ?_, ht.small⟩
    · show ((C.l.set j _).map (·.key)).Nodup
      rw [map_set_same (·.key) (a := { x with asked := C.asked + 1 }) h1 rfl]; exact hok.nod
    · intro y hy
      rcases set_getElem?_mem hy with h | rfl
      · exact hok.len y h
      · exact hok.len x hmem
    · intro y hy
      rcases set_getElem?_mem hy with h | rfl
      · exact hok.key y h
      · exact hok.key x hmem
    · show (((C.l.set j _).length : Nat) : Int) ≤ C.room
      rw [List.length_set]; exact hok.le
    · intro y hy
      rcases set_getElem?_mem hy with h | rfl
      · exact ht.age y h
      · exact Int.le_refl _
    · show ((C.l.set j _).map (·.asked)).Nodup
      rw [List.map_set]
      refine nodup_set hok.ages (fun hm => ?_) j
      obtain ⟨y, hy, hk⟩ := List.mem_map.1 hm
      have := hok.age y hy
      have hk' : y.asked = C.asked + 1 := hk
      omega
  | full no hf hd => exact ht
  | err no he hc => exact ht
  | more no hp hf =>
    obtain ⟨_, p1, p2⟩ := place0 hp
    refine ⟨?_, ?_, ?_, hok.room, ?_, ?_, ?_, ht.small⟩
    · show ((C.l ++ [newB C D i]).map (·.key)).Nodup
      rw [List.map_append]
      refine nodup_snoc hok.nod fun hm => ?_
      obtain ⟨x, hx, hk⟩ := List.mem_map.1 hm
      exact no x hx hk
    · intro y hy
      rcases List.mem_append.1 hy with h | h
      · exact hok.len y h
      · rw [List.mem_singleton] at h; subst h; exact rdD_len hD p1 p2
    · intro y hy
      rcases List.mem_append.1 hy with h | h
      · exact hok.key y h
      · rw [List.mem_singleton] at h; subst h; exact ⟨p1, p2⟩
    · show (((C.l ++ [newB C D i]).length : Nat) : Int) ≤ C.room
      rw [List.length_append, List.length_singleton]; omega
    · intro y hy
      rcases List.mem_append.1 hy with h | h
      · exact ht.age y h
      · rw [List.mem_singleton] at h; subst h; exact Int.le_refl _
    · show ((C.l ++ [newB C D i]).map (·.asked)).Nodup
      rw [List.map_append]
      refine nodup_snoc hok.ages fun hm => ?_
      obtain ⟨x, hx, hk⟩ := List.mem_map.1 hm
      have := hok.age x hx
      have hk' : x.asked = C.asked + 1 := hk
      omega
  | swap no hp hf k y h1 h2 h3 =>
    obtain ⟨_, p1, p2⟩ := place0 hp
    refine ⟨?_, ?_, ?_, hok.room, ?_, ?_, ?_, ht.small⟩
    · show ((C.l.eraseIdx k ++ [newB C D i]).map (·.key)).Nodup
      rw [List.map_append, eraseIdx_map]
      refine nodup_snoc (nodup_eraseIdx hok.nod k) fun hm => ?_
      obtain ⟨x, hx, hk⟩ := List.mem_map.1 (List.mem_of_mem_eraseIdx hm)
      exact no x hx hk
    · intro y hy
      rcases List.mem_append.1 hy with h | h
      · exact hok.len y (List.mem_of_mem_eraseIdx h)
      · rw [List.mem_singleton] at h; subst h; exact rdD_len hD p1 p2
    · intro y hy
      rcases List.mem_append.1 hy with h | h
      · exact hok.key y (List.mem_of_mem_eraseIdx h)
      · rw [List.mem_singleton] at h; subst h; exact ⟨p1, p2⟩
    · show (((C.l.eraseIdx k ++ [newB C D i]).length : Nat) : Int) ≤ C.room
      rw [List.length_append, List.length_singleton, List.length_eraseIdx_of_lt (split_at h1).2]
      have := hok.le
      have := (split_at h1).2
      omega
    · intro y hy
      rcases List.mem_append.1 hy with h | h
      · exact ht.age y (List.mem_of_mem_eraseIdx h)
      · rw [List.mem_singleton] at h; subst h; exact Int.le_refl _
    · show ((C.l.eraseIdx k ++ [newB C D i]).map (·.asked)).Nodup
      rw [List.map_append, eraseIdx_map]
      refine nodup_snoc (nodup_eraseIdx hok.ages k) fun hm => ?_
      obtain ⟨x, hx, hk⟩ := List.mem_map.1 (List.mem_of_mem_eraseIdx hm)
      have := hok.age x hx
      have hk' : x.asked = C.asked + 1 := hk
      omega

theorem ComesQ.at {C C' : CM} {D : DM} {i : Int} {j : Nat} (h : ComesQ C D i 0 C' j) : ∃ x, C'.l[j]? = some x ∧ x.key = i := by
  generalize he : (0 : Int) = e at h
  cases h with
  | hit _ x h1 h2 => exact ⟨{ x with asked := C.asked + 1 }, by show (C.l.set j _)[j]? = _; rw [List.getElem?_set_self (split_at h1).2], h2⟩
  | full no hf hd => cases he
  | err no he' hc => exact absurd he.symm he'
  | more no hp hf => exact ⟨newB C D i, by show (C.l ++ [_])[C.l.length]? = _; simp, rfl⟩
  | swap no hp hf k y h1 h2 h3 =>
    refine ⟨newB C D i, ?_, rfl⟩
    show (C.l.eraseIdx k ++ [_])[C.l.length - 1]? = _
    have h5 := List.length_eraseIdx_of_lt (split_at h1).2
    rw [List.getElem?_append_right (by omega), h5, Nat.sub_self]; rfl

def ReadQ (C : CM) (D : DM) (i e : Int) (C' : CM) (out : List UInt8) : Prop :=
  (¬ (0 ≤ i ∧ i < D.blocks.length) ∧ e = 30 ∧ C' = C ∧ out = []) ∨
  ((0 ≤ i ∧ i < D.blocks.length) ∧ ∃ j, ComesQ C D i e C' j ∧ ((e ≠ 0 ∧ out = []) ∨ (e = 0 ∧ ∃ x, C'.l[j]? = some x ∧ out = x.b)))

theorem C34 (c dp : Nat) (C : CM) (D : DM) (i : Int) (w : World) (F : Nat → Prop) (h : Has [CacheA c dp C, DiskA dp D] w F) (hok : C.ok D.blocks.length) (hD : D.ok) (hwl : D.wait.length ≤ 1000000000) (ha : C.asked ≤ 1000000000000000) :
    Calls Try.prog 34 #[P0 c, .int .i64 i] w (RetT [.c .slice, .c (.int .i64)] fun r w' => ∃ C' out, ReadQ C D i r.2 C' out ∧ St F w w' [SlA 1 r.1 (out.map ub), CacheA c dp C', DiskA dp D]) := by
  refine F34_calls _ _ _ _ ?_
  unfold F34
  have st := St.init h
  obtain ⟨G1, _, _, g1, _, _, _, _⟩ := st.call1
  obtain ⟨G2, _, _, g2, _, _, _, _⟩ := (st.bring 1).call1
  refine callF_of (C68 c dp C D i w G1 G2 g1 g2) ?_
  rintro _ _ ⟨rfl, rfl⟩
  by_cases hr : 0 ≤ i ∧ i < D.blocks.length
  rotate_left
  · refine br_t (by rw [if_neg hr]; rfl) ⟨C, [], .inl ⟨hr, by rw [if_neg hr], rfl, rfl⟩, st.nosl 1⟩
  refine br_f (by rw [if_pos hr]; rfl) ?_
  refine callF_of (C69 c dp C D i D.blocks.length w F h hok hD hwl ha) ?_
  rintro ⟨p, e⟩ w1 ⟨C', j, hq, m, bs, hl, hx, s1⟩
  dsimp only at hq hx ⊢
  refine br_of (fun hne => ?_) (fun heq => ?_)
  · have hne : e ≠ 0 := by simpa using hne
    exact ⟨C', [], .inr ⟨hr, j, hq, .inl ⟨hne, rfl⟩⟩, (St.cClose s1 hl).nosl 1⟩
  have he : e = 0 := by simpa using heq
  subst he
  obtain ⟨x, hxj, rfl⟩ := hx rfl
  simp only [deref_some']
  have hb := (s1.bring 2).buf hxj
  refine hb.1.ld (i := 0) (s := .slice) (p := x.s) rfl ?_
  have hxm : C'.l[j]? = some x.m := by rw [hl, List.getElem?_map, hxj]; rfl
  have h256 : x.b.length = 256 := (hq.ok hok hD).len x.m (List.mem_of_getElem? hxm)
  have hbs := hb.2.bs
  have := hbs.len
  refine callF_of (C15 x.s x.b _ hbs (by omega)) ?_
  rintro t w2 ⟨ht, _, g5⟩
  have s2 := (St.cClose s1 hl).mksl g5 ht
  exact ⟨C', x.b, .inr ⟨hr, j, hq, .inr ⟨rfl, x.m, hxm, rfl⟩⟩, s2⟩

def WriteQ (C : CM) (D : DM) (i off : Int) (l : List UInt8) (e : Int) (C' : CM) : Prop :=
  (¬ (0 ≤ i ∧ i < D.blocks.length) ∧ e = 30 ∧ C' = C) ∨
  ((0 ≤ i ∧ i < D.blocks.length) ∧ ¬ (0 ≤ off ∧ off + l.length ≤ 256) ∧ e = 1 ∧ C' = C) ∨
  ((0 ≤ i ∧ i < D.blocks.length) ∧ (0 ≤ off ∧ off + l.length ≤ 256) ∧ ∃ C1 j, ComesQ C D i e C1 j ∧ (((e ≠ 0 ∨ l = []) ∧ C' = C1) ∨ (e = 0 ∧ l ≠ [] ∧ ∃ x, C1.l[j]? = some x ∧ C' = { C1 with l := C1.l.set j { x with b := lay x.b off.toNat l, dirty := true } })))

theorem C33 (c dp : Nat) (C : CM) (D : DM) (i off : Int) (b : Sl) (l : List UInt8) (w : World) (F : Nat → Prop) (h : Has [CacheA c dp C, DiskA dp D] w F) (hb : Rd w F b l) (hok : C.ok D.blocks.length) (hD : D.ok) (hwl : D.wait.length ≤ 1000000000) (ha : C.asked ≤ 1000000000000000) :
    Calls Try.prog 33 #[P0 c, .int .i64 i, .int .i64 off, .slice b.a b.len b.cap] w (RetT [.c (.int .i64)] fun r w' => ∃ C', WriteQ C D i off l r C' ∧ St F w w' [CacheA c dp C', DiskA dp D]) := by
  refine F33_calls _ _ _ _ _ _ ?_
  unfold F33
  have st := St.init h
  obtain ⟨G1, _, _, g1, _, _, _, _⟩ := st.call1
  obtain ⟨G2, _, _, g2, _, _, _, _⟩ := (st.bring 1).call1
  have hbl := hb.bs.len
  refine callF_of (C68 c dp C D i w G1 G2 g1 g2) ?_
  rintro _ _ ⟨rfl, rfl⟩
  by_cases hr : 0 ≤ i ∧ i < D.blocks.length
  rotate_left
  · exact br_t (by rw [if_neg hr]; rfl) ⟨C, .inl ⟨hr, by rw [if_neg hr], rfl⟩, st⟩
  refine br_f (by rw [if_pos hr]; rfl) ?_
  refine jn_of (fun q W => q = decide (¬ (0 ≤ off ∧ off + l.length ≤ 256)) ∧ w = W) ?_ ?_
  · refine br_of (fun h1 => ⟨?_, rfl⟩) (fun h1 => br_of (fun h2 => ⟨?_, rfl⟩) (fun h2 => ⟨?_, rfl⟩))
    · simp only [decide_eq_true_eq] at h1
      symm; rw [decide_eq_true_eq]; omega
    · simp only [gt_iff_lt, decide_eq_true_eq] at h2
      symm; rw [decide_eq_true_eq]; omega
    · simp only [decide_eq_false_iff_not] at h1 h2
      rw [wrap_i64 (by omega), decide_eq_decide]; omega
  rintro _ _ ⟨rfl, rfl⟩
  by_cases hlo : 0 ≤ off ∧ off + l.length ≤ 256
  rotate_left
  · exact br_t (by simp only [hlo, not_false_eq_true, decide_true]) ⟨C, .inr (.inl ⟨hr, hlo, rfl, rfl⟩), st⟩
  refine br_f (by simp only [hlo, and_self, not_true_eq_false, decide_false]) ?_
  refine callF_of (C69 c dp C D i D.blocks.length w F h hok hD hwl ha) ?_
  rintro ⟨p, e⟩ w1 ⟨C', j, hq, m, bs, hl, hx, s1⟩
  dsimp only at hq hx ⊢
  refine jn_of (fun q W => q = decide (e ≠ 0 ∨ l = []) ∧ w1 = W) ?_ ?_
  · refine br_of (fun h1 => ⟨?_, rfl⟩) (fun h1 => ⟨?_, rfl⟩)
    · symm; rw [decide_eq_true_eq]; exact .inl (by simpa using h1)
    · have he : e = 0 := by simpa using h1
      rw [Bool.eq_iff_iff, beq_iff_eq, decide_eq_true_eq]
      constructor
      · intro h; exact .inr (List.eq_nil_of_length_eq_zero (by omega))
      · rintro (h | rfl)
        · exact absurd he h
        · simp only [List.length_nil] at hbl; omega
  rintro _ _ ⟨rfl, rfl⟩
  by_cases hel : e ≠ 0 ∨ l = []
  · exact br_t (by simp only [hel, decide_true]) ⟨C', .inr (.inr ⟨hr, hlo, C', j, hq, .inl ⟨hel, rfl⟩⟩), St.cClose s1 hl⟩
  refine br_f (by simp only [hel, decide_false]) ?_
  have he : e = 0 := Classical.byContradiction fun h => hel (.inl h)
  have hln : l ≠ [] := fun h => hel (.inr h)
  subst he
  obtain ⟨x, hxj, rfl⟩ := hx rfl
  simp only [deref_some']
  have hxm : C'.l[j]? = some x.m := by rw [hl, List.getElem?_map, hxj]; rfl
  have h256 : x.b.length = 256 := (hq.ok hok hD).len x.m (List.mem_of_getElem? hxm)
  have s2 := ((s1.bring 2).pick (i := j) (A := bufA x) (by simp [hxj])).big
  refine s2.ld (i := 0) (s := .slice) (p := x.s) rfl ?_
  refine St.cpy_lo (s2.bring 1) (hb.at s1) hlo.1 (by omega) fun w2 s3 => ?_
  refine (s3.bring 1).st (i := 1) (by simp) trivial fun w3 s4 => ?_
  have hjl : j < (bs.map bufA).length := (split_at (show (bs.map bufA)[j]? = some (bufA x) by simp [hxj])).2
  have s5 := (St.mkbig (xs := [_, _]) s4).unpick hjl
  refine ⟨{ C' with l := C'.l.set j { x.m with b := lay x.b off.toNat l, dirty := true } }, .inr (.inr ⟨hr, hlo, C', j, hq, .inr ⟨rfl, hln, x.m, hxm, rfl⟩⟩), ?_⟩
  refine St.cClose (C := { C' with l := C'.l.set j { x.m with b := lay x.b off.toNat l, dirty := true } }) (m := m) (bs := bs.set j { x with b := lay x.b off.toNat l, dirty := true }) ?_ (by rw [hl, List.map_set]; rfl)
  rw [map_set_same bkv (a := { x with b := lay x.b off.toNat l, dirty := true }) hxj rfl, List.map_set]
  exact s5.sel [1, 2, 0, 3] 4
end Go.Proofs

/-! Layer 9, the cache: its dirty blocks; Len, Dirty; what a law takes of them. -/
namespace Go.Proofs
open Go.Eng

def dirtyK (C : CM) : List Int := sortI ((C.l.filter (·.dirty)).map (·.key))

/-- the dirty ones among the places done -/
def dpick (bs : List Bf) (j : Nat) : Option Int := (bs[j]?).bind fun x => if x.dirty = true then some x.key else none

theorem dpick_all : ∀ (bs : List Bf), (List.range bs.length).filterMap (dpick bs) = (bs.filter (·.dirty)).map (·.key) := by
  intro bs
  have h : ∀ (l pre : List Bf), (List.range' pre.length l.length).filterMap (dpick (pre ++ l)) = (l.filter (·.dirty)).map (·.key) := by
    intro l
    induction l with
    | nil => intro pre; rfl
    | cons x l ih =>
      intro pre
      rw [List.length_cons, List.range'_succ, List.filterMap_cons]
      have h1 := ih (pre ++ [x])
      rw [List.length_append, List.length_singleton, List.append_assoc, List.singleton_append] at h1
      have h2 : dpick (pre ++ x :: l) pre.length = if x.dirty = true then some x.key else none := by
        unfold dpick
        rw [List.getElem?_append_right (Nat.le_refl _), Nat.sub_self]
        rfl
      rw [h1, h2, List.filter_cons]
      cases hx : x.dirty <;> simp
  have := h bs []
  rw [List.range_eq_range']
  simpa using this

theorem filterMap_len {α β : Type} (f : α → Option β) (l : List α) : (l.filterMap f).length ≤ l.length := List.length_filterMap_le f l

theorem dirty_m (bs : List Bf) : (bs.map Bf.m).filter (·.dirty) = (bs.filter (·.dirty)).map Bf.m := by
  induction bs with
  | nil => rfl
  | cons x bs ih => rw [List.map_cons, List.filter_cons, List.filter_cons, ih]; cases hx : x.dirty <;> simp [Bf.m, hx]

theorem C77 (c dp : Nat) (C : CM) (w : World) (F : Nat → Prop) (h : Has [CacheA c dp C] w F) (hn : C.l.length ≤ 1000000) :
    Calls Try.prog 77 #[P0 c] w (RetT [.c .slice] fun r w' => St F w w' [SlA 1 r (ints (dirtyK C)), CacheA c dp C]) := by
  refine F77_calls _ _ _ ?_
  unfold F77
  obtain ⟨m, bs, hl, st⟩ := (St.init h).cOpen
  refine callF_of (C72 c dp _ w st.box) ?_
  rintro _ _ ⟨rfl, rfl⟩
  refine br_f rfl ?_
  simp only [deref_some']
  refine st.ld (i := 2) (s := .map) (p := some m) rfl ?_
  refine St.mrange (T := intKT) (st.bring 1) fun it w1 s1 => ?_
  have hnb : (bs.map bkv).length = bs.length := by simp
  have hbl : bs.length ≤ 1000000 := by rw [hl, List.length_map] at hn; exact hn
  refine loop_of (fun t W => ∃ done, St F w W [MapItA intKT m it (bs.map bkv) done, SlA 1 t (ints (done.filterMap (dpick bs))), BoxA c [P0 dp, .int .i64 C.room, .map (some m), .int .i64 C.asked], bigA (bs.map bufA)])
    (fun _ W => bs.length - itSeen it W) ⟨[], (s1.nosl 1).sel [1, 0, 2, 3] 4⟩ ?_
  rintro t W ⟨done, s⟩
  have hds := s.itSeen
  have hdl : done.length ≤ bs.length := by
    obtain ⟨_, _, _, _, _, h3, h4, _⟩ := s.itOpen
    rw [hnb] at h3
    exact nodup_le h4 h3
  refine St.mnext s (fun hp W' s' => ?_) (fun i en W' hi hnd s' => ?_)
  · have hfl := filterMap_len (dpick bs) done
    have htl := slA_len1 (s'.bring 1).sl
    rw [ints_length] at htl
    refine callF_of (C91 t _ 0 W' (s'.bring 1).sl (by omega)) ?_
    rintro ⟨⟩ w3 ⟨h1, h2⟩
    have s2 := (s'.bring 1).slm h2 h1 fun _ h => .inl h
    have hd : sortI (done.filterMap (dpick bs)) = dirtyK C := by
      unfold dirtyK
      refine sortI_congr ?_
      rw [hl, dirty_m, List.map_map]
      rw [hnb] at hp
      have := hp.filterMap (dpick bs)
      rw [dpick_all] at this
      exact this
    rw [hd] at s2
    have s3 := (s2.bring 1).itMap
    exact ((s3.sel [2, 0, 3, 1] 4).cClose (C := C) hl).bring 1
  · rw [hnb] at hi
    refine s'.mentry fun en2 kvx hkv hk hv => ?_
    have hbi : bs[i]? = some bs[i] := by simp
    rw [List.getElem?_map, hbi, Option.map_some, Option.some.injEq] at hkv
    subst hkv
    refine ⟨bs[i].key, hk, some ⟨bs[i].ptr, 0, none⟩, hv, ?_⟩
    have hds' := s'.itSeen
    simp only [List.length_append, List.length_singleton] at hds'
    have hdl' : done.length + 1 ≤ bs.length := by
      obtain ⟨_, _, _, _, _, h3, h4, _⟩ := s'.itOpen
      rw [hnb] at h3
      have := nodup_le h4 h3
      simpa using this
    simp only [deref_some']
    have hbuf := (s'.bring 3).buf hbi
    refine hbuf.1.ld (i := 1) (s := .bool) (p := bs[i].dirty) rfl ?_
    have hpk : (done ++ [i]).filterMap (dpick bs) = done.filterMap (dpick bs) ++ (if bs[i].dirty = true then [bs[i].key] else []) := by
      rw [List.filterMap_append, List.filterMap_cons, List.filterMap_nil]
      unfold dpick
      rw [hbi]
      cases hb : bs[i].dirty <;> simp [hb]
    refine br_of (fun hd => ?_) (fun hd => ?_)
    · rw [if_pos hd] at hpk
      have hfl := filterMap_len (dpick bs) done
      have htl := slA_len1 (s'.bring 1).sl
      rw [ints_length] at htl
      refine St.nw s' fun r w2 s2 _ _ => ?_
      refine (s2.bring 2).app (new := [.int .i64 bs[i].key]) (fun _ => rfl) (fun h => by cases h) (readsAt_row.2 s2.box.row) (by simp) rfl (by decide) (by dsimp only; omega) fun t2 w3 s3 _ => ?_
      have s4 := s3.sel [2, 0, 3, 4] 5
      have hds3 := St.itSeen (done := done ++ [i]) s4
      simp only [List.length_append, List.length_singleton] at hds3
      refine ⟨⟨done ++ [i], ?_⟩, by omega⟩
      rw [hpk, show ints (done.filterMap (dpick bs) ++ [bs[i].key]) = ints (done.filterMap (dpick bs)) ++ [.int .i64 bs[i].key] by simp [ints]]
      exact s4
    · rw [if_neg (by simp [hd]), List.append_nil] at hpk
      refine ⟨⟨done ++ [i], ?_⟩, by omega⟩
      rw [hpk]
      exact s'

theorem dirtyK_len (C : CM) : (dirtyK C).length ≤ C.l.length := by
  unfold dirtyK
  rw [(sortI_perm _).length_eq, List.length_map]
  exact List.length_filter_le _ _

theorem C41 (c dp : Nat) (C : CM) (w : World) (F : Nat → Prop) (h : Has [CacheA c dp C] w F) (hn : C.l.length ≤ 1000000) :
    Calls Try.prog 41 #[P0 c] w (RetT [.c (.int .i64), .c (.int .i64)] fun r w' => r = ((C.l.length : Int) - (dirtyK C).length, ((dirtyK C).length : Int)) ∧ St F w w' [CacheA c dp C]) := by
  refine F41_calls _ _ _ ?_
  unfold F41
  obtain ⟨m0, hb⟩ := cbox h
  refine callF_of (C72 c dp _ w hb) ?_
  rintro _ _ ⟨rfl, rfl⟩
  refine br_f rfl ?_
  refine callF_of (C77 c dp C w F h hn) ?_
  rintro t w1 s1
  have htl := slA_len1 s1.sl
  rw [ints_length] at htl
  have hd := dirtyK_len C
  obtain ⟨m, bs, hl, st⟩ := St.cOpen s1.drop
  simp only [deref_some']
  refine st.ld (i := 2) (s := .map) (p := some m) rfl ?_
  refine St.mapLen (T := intKT) (st.bring 1) ?_
  have hbl : (bs.map bkv).length = C.l.length := by rw [hl]; simp
  refine ⟨?_, s1.drop⟩
  rw [hbl, htl, wrap_i64 (by omega)]

theorem C64' (s : Sl) (w : World) : Calls Try.prog 64 #[.slice s.a s.len s.cap] w (RetT [.c .any] fun r w' => ∃ b, r = .func (.func 89) #[] #[P0 b] ∧ St noF w w' [BoxA b [slV s]]) := by
  refine F64_calls s _ _ ?_
  unfold F64
  exact ⟨trivial, St.nw (St.init0 w) fun b w2 st _ _ => ⟨b, rfl, st⟩⟩

theorem C73 (c dp : Nat) (C : CM) (w : World) (F : Nat → Prop) (h : Has [CacheA c dp C] w F) (hn : C.l.length ≤ 1000000) :
    Calls Try.prog 73 #[P0 c] w (RetT [.c .any] fun r w' => ∃ b t, r = .func (.func 89) #[] #[P0 b] ∧ St F w w' [BoxA b [slV t], SlA 1 t (ints (dirtyK C)), CacheA c dp C]) := by
  refine F73_calls _ _ _ ?_
  unfold F73
  refine callF_of (C77 c dp C w F h hn) ?_
  rintro t w1 s1
  refine callF_of (C64' t w1) ?_
  rintro v w2 ⟨b, rfl, s2⟩
  exact ⟨b, t, rfl, s1.call0 s2⟩

/-- going through whole numbers -/
theorem C89' (y : Value) (b : Nat) (s : Sl) (xs : List Int) (w : World) (I : Nat → World → Prop) (D : World → Prop) (hM : ∀ j W, I j W → Box W b [slV s] ∧ OwnS W 0 1 s (ints xs)) (h0 : I 0 w) (hl : xs.length ≤ 1000000000)
    (hr : ∀ j x W, xs[j]? = some x → I j W → callV Try.prog y [.int .i64 x] [.c .bool] (fun c W' => if c = true then I (j + 1) W' else D W') W) :
    Calls Try.prog 89 #[y, P0 b] w (RetT [] fun _ w' => I xs.length w' ∨ D w') := by
  refine F89_calls y _ _ _ ?_
  unfold F89
  simp only [deref_some']
  refine ldC_of (s := .slice) (p := s) (hM _ _ h0).1.cell0 ?_
  have hsl := slA_len1 (hM _ _ h0).2
  rw [ints_length] at hsl
  refine loop_of (fun z W => ∃ j : Nat, z = j ∧ j ≤ xs.length ∧ I j W) (fun z _ => xs.length - z.toNat) ⟨0, rfl, by omega, h0⟩ ?_
  rintro _ W ⟨j, rfl, hj, hI⟩
  refine br_of (fun hlt => ?_) (fun hge => ?_)
  · simp only [decide_eq_true_eq] at hlt
    have hjl : j < xs.length := by omega
    refine ⟨⟨by omega, hlt⟩, ?_⟩
    rw [Int.toNat_natCast]
    refine at_own (hM _ _ hI).2 (c := .int .i64) (p := xs[j]) (by simp [ints, hjl]) ?_
    refine callV_mono ?_ (hr j xs[j] W (by simp [hjl]) hI)
    intro c W' hc
    refine br_of (fun hf => ?_) (fun ht => ?_)
    · rw [if_neg (by simpa using hf)] at hc
      exact .inr hc
    · rw [if_pos (by simpa using ht)] at hc
      rw [wrap_succ (by omega)]
      exact ⟨⟨j + 1, rfl, hjl, hc⟩, by omega⟩
  · simp only [decide_eq_false_iff_not] at hge
    have : j = xs.length := by omega
    subst this
    exact .inl hI

theorem C37 (c dp : Nat) (C : CM) (most : Int) (w : World) (F : Nat → Prop) (h : Has [CacheA c dp C] w F) (hn : C.l.length ≤ 1000000) (hm : 0 ≤ most) :
    Calls Try.prog 37 #[P0 c, .int .i64 most] w (RetT [.c .slice] fun r w' => St F w w' [SlA 1 r (ints ((dirtyK C).take most.toNat)), CacheA c dp C]) := by
  refine F37_calls _ _ _ _ ?_
  unfold F37
  refine ⟨trivial, St.nw (St.init h) fun r w1 s1 _ _ => ⟨trivial, St.nw s1 fun r1 w2 s2 _ _ => ?_⟩⟩
  obtain ⟨G, H, g1, _, _, _, gc⟩ := St.call [CacheA c dp C] (s2.bring 2)
  refine callF_of (C73 c dp C w2 G g1 hn) ?_
  rintro _ w3 ⟨b, t, rfl, s3⟩
  have s4 : St F w w3 [BoxA b [slV t], SlA 1 t (ints (dirtyK C)), CacheA c dp C, BoxA r1 [slV ⟨none, 0, 0⟩], BoxA r [.int .i64 most]] := gc _ _ s3
  have hdl := dirtyK_len C
  refine ⟨.inl trivial, br_f rfl ?_⟩
  simp only [deref_some']
  refine jn_of (fun z W => z.1 = [w3.heap.size] ∧ ∃ u, St F w W [ObjA w3.heap.size (.deferred (some [])), BoxA r1 [slV u], SlA 1 u (ints ((dirtyK C).take most.toNat)), CacheA c dp C]) ?_ ?_
  · refine ⟨89, _, rfl, by kernel_rfl, fun L hL hY => ?_⟩
    have s6 := ((s4.nosl 1).mkobj (.deferred (some []))).mkobj (L .ready none)
    rw [World.size_alloc] at s6
    refine Calls.mono (C89' (.func (.yield (w3.heap.size + 1)) #[] #[]) b t (dirtyK C) _
      (fun j W => j ≤ most.toNat ∧ ∃ u, St F w W [ObjA (w3.heap.size + 1) (L .ready none), BoxA b [slV t], SlA 1 t (ints (dirtyK C)), ObjA w3.heap.size (.deferred (some [])), BoxA r1 [slV u], SlA 1 u (ints ((dirtyK C).take j)), CacheA c dp C, BoxA r [.int .i64 most]])
      (fun W => ∃ u, St F w W [ObjA (w3.heap.size + 1) (L .done (some (jcode (some 0)))), ObjA w3.heap.size (.deferred (some [])), BoxA r1 [slV u], SlA 1 u (ints ((dirtyK C).take most.toNat)), CacheA c dp C])
      (fun j W hI => by obtain ⟨_, u, hs⟩ := hI; exact ⟨(hs.bring 1).box, (hs.bring 2).sl⟩) ⟨Nat.zero_le _, ⟨none, 0, 0⟩, s6.sel [0, 3, 4, 1, 6, 2, 5, 7] 8⟩ (by omega) ?_) ?_
    · rintro j x W hx ⟨hjm, u, sW⟩
      refine .inr ⟨w3.heap.size + 1, #[], rfl, ?_⟩
      refine hY W x _ sW.obj ?_
      refine ⟨sW.obj, ?_⟩
      have s7 := sW.putObj (L .busy none)
      have hul := slA_len1 (s7.bring 5).sl
      rw [ints_length] at hul
      have hjd := (split_at hx).2
      rw [List.length_take] at hul
      refine (s7.bring 4).ld0 (s := .slice) (p := u) rfl ?_
      refine (s7.bring 7).ld0 (s := .int .i64) (p := most) rfl ?_
      refine br_of (fun hge => ?_) (fun hlt => ?_)
      · simp only [ge_iff_le, decide_eq_true_eq] at hge
        have hjm' : j = most.toNat := by omega
        refine ⟨s7.obj, ?_⟩
        have s8 := s7.putObj (L .done (some (jcode (some 0))))
        rw [if_neg (by simp)]
        rw [hjm'] at s8
        exact ⟨u, s8.sel [0, 3, 4, 5, 6] 8⟩
      · simp only [ge_iff_le, decide_eq_false_iff_not] at hlt
        refine (s7.bring 4).ld0 (s := .slice) (p := u) rfl ?_
        refine St.nw s7 fun r2 w4 s8 _ _ => ?_
        refine (s8.bring 6).app (new := [.int .i64 x]) (fun _ => rfl) (fun h => by cases h) (readsAt_row.2 s8.box.row) (by simp) rfl (by decide) (by dsimp only; omega) fun u2 w5 s9 _ => ?_
        refine (s9.bring 6).st0 trivial fun w6 s10 => ?_
        refine ⟨(s10.bring 3).obj, ?_⟩
        have s11 := (s10.bring 3).putObj (L .ready none)
        rw [if_pos rfl]
        refine ⟨by omega, u2, ?_⟩
        have e : ints ((dirtyK C).take (j + 1)) = ints ((dirtyK C).take j) ++ [.int .i64 x] := by
          have := (split_at hx).1
          have hg : (dirtyK C)[j] = x := by
            rw [List.getElem?_eq_getElem hjd, Option.some.injEq] at hx; exact hx
          rw [List.take_add_one, List.getElem?_eq_getElem hjd, hg]
          simp [ints]
        rw [e]
        exact s11.sel [0, 4, 5, 6, 1, 2, 7, 8] 9
    · rintro e W ⟨u, rfl, ⟨hle, u2, hI⟩ | ⟨u2, hD⟩⟩
      · refine ⟨⟨_, rfl⟩, .inl ⟨hI.obj, rfl, u2, ?_⟩⟩
        have s7 := hI.putObj (L .exhausted none)
        have e : (dirtyK C).take most.toNat = (dirtyK C).take (dirtyK C).length := by
          rw [List.take_of_length_le hle, List.take_length]
        rw [e]
        exact s7.sel [3, 4, 5, 6] 8
      · refine ⟨⟨_, rfl⟩, .inr ⟨some 0, hD.obj, rfl, u2, ?_⟩⟩
        exact (hD.putObj (L .exhausted (some (jcode (some 0))))).drop
  rintro ⟨ds, ⟨⟩⟩ W ⟨hds, u, sW⟩
  dsimp only at hds
  subst hds
  refine (sW.bring 1).ld0 (s := .slice) (p := u) rfl ?_
  refine takes_of sW fun W2 s8 => ?_
  exact s8.sel [2, 3] 4
end Go.Proofs

/-! Layer 9, the cache: Clean. -/
namespace Go.Proofs
open Go.Eng

def bytesAt (C : CM) (k : Int) : List UInt8 := ((C.l.find? (·.key == k)).map (·.b)).getD []
def setClean (C : CM) (k : Int) : CM := { C with l := C.l.map fun x => if x.key = k then { x with dirty := false } else x }
def cleanGo : List Int → CM → DM → Int × CM × DM
  | [], C, D => (0, C, D)
  | k :: ks, C, D => if (writeD D k (bytesAt C k)).1 ≠ 0 then ((writeD D k (bytesAt C k)).1, C, (writeD D k (bytesAt C k)).2) else cleanGo ks (setClean C k) (writeD D k (bytesAt C k)).2

theorem cleanGo_cons (k : Int) (ks : List Int) (C : CM) (D : DM) : cleanGo (k :: ks) C D = if (writeD D k (bytesAt C k)).1 ≠ 0 then ((writeD D k (bytesAt C k)).1, C, (writeD D k (bytesAt C k)).2) else cleanGo ks (setClean C k) (writeD D k (bytesAt C k)).2 := rfl

theorem set_same {α : Type} {l : List α} {j : Nat} {a : α} (h : l[j]? = some a) : l.set j a = l := by
  refine List.ext_getElem? fun i => ?_
  rw [List.getElem?_set]
  split
  · rename_i h2; subst h2; rw [if_pos (split_at h).2, h]
  · rfl

theorem map_if_set {l : List Bm} {i : Nat} {x : Bm} {f : Bm → Bm} (hn : (l.map (·.key)).Nodup) (hi : l[i]? = some x) : (l.map fun y => if y.key = x.key then f y else y) = l.set i (f x) := by
  refine List.ext_getElem? fun j => ?_
  rw [List.getElem?_map, List.getElem?_set]
  by_cases h : i = j
  · subst h
    rw [hi, if_pos rfl, if_pos (split_at hi).2]
    simp
  · rw [if_neg h]
    cases hj : l[j]? with
    | none => rfl
    | some y =>
      have : y.key ≠ x.key := by
        intro he
        have e1 : (l.map (·.key))[i]? = some x.key := by rw [List.getElem?_map, hi]; rfl
        have e2 : (l.map (·.key))[j]? = some x.key := by rw [List.getElem?_map, hj, ← he]; rfl
        exact h ((List.getElem?_inj (split_at e1).2 hn).1 (e1.trans e2.symm))
      simp [this]

theorem find_at {l : List Bm} {i : Nat} {x : Bm} (hn : (l.map (·.key)).Nodup) (hi : l[i]? = some x) : l.find? (·.key == x.key) = some x := by
  have h1 := split_at hi
  rw [h1.1, List.find?_append]
  have : (l.take i).find? (·.key == x.key) = none := by
    rw [List.find?_eq_none]
    intro y hy hk
    simp only [beq_iff_eq] at hk
    obtain ⟨j, hj⟩ := List.getElem?_of_mem hy
    rw [List.getElem?_take] at hj
    split at hj
    · rename_i hji
      have e1 : (l.map (·.key))[i]? = some x.key := by rw [List.getElem?_map, hi]; rfl
      have e2 : (l.map (·.key))[j]? = some x.key := by rw [List.getElem?_map, hj, ← hk]; rfl
      have := (List.getElem?_inj (split_at e1).2 hn).1 (e1.trans e2.symm)
      omega
    · cases hj
  rw [this]
  simp

structure DM.bd (D : DM) (N : Nat) : Prop where
  armed : 0 ≤ D.armed ∧ D.armed ≤ 9223372036854775807
  ops : 0 ≤ D.ops ∧ D.ops ≤ (N : Int)
  wait : D.wait.length ≤ N

theorem fallGo_len : ∀ (ws : List (Int × List UInt8)) (ps : List UInt8) (bl : List (List UInt8)), (fallGo bl ws ps).length = bl.length
  | [], _, bl => by unfold fallGo; rfl
  | _ :: _, [], bl => by unfold fallGo; rfl
  | x :: ws, p :: ps, bl => by unfold fallGo; rw [fallGo_len ws ps]; simp

theorem fallGo_256 : ∀ (ws : List (Int × List UInt8)) (ps : List UInt8) (bl : List (List UInt8)), (∀ b ∈ bl, b.length = 256) → (∀ x ∈ ws, 0 ≤ x.1 ∧ x.1 < (bl.length : Int) ∧ x.2.length = 256) → ∀ b ∈ fallGo bl ws ps, b.length = 256
  | [], _, bl, h, _ => by unfold fallGo; exact h
  | _ :: _, [], bl, h, _ => by unfold fallGo; exact h
  | x :: ws, p :: ps, bl, h, hw => by
    unfold fallGo
    have hx := hw x (by simp)
    refine fallGo_256 ws ps _ ?_ ?_
    · intro b hb
      rcases List.mem_or_eq_of_mem_set hb with h1 | rfl
      · exact h b h1
      · have hi : x.1.toNat < bl.length := by omega
        rw [List.getElem?_eq_getElem hi]
        exact reachB_len (h _ (List.getElem_mem hi)) hx.2.2 4 (by omega)
    · intro y hy
      have := hw y (by simp [hy])
      rw [List.length_set]
      exact this

theorem fallsD_ok {D : DM} (h : D.ok) (pl : List UInt8) : (fallsD D pl).ok :=
  ⟨fallGo_256 D.wait pl D.blocks h.len h.wlen, fun x hx => by simp [fallsD] at hx, by show 1 ≤ (fallGo _ _ _).length; rw [fallGo_len]; exact h.pos, by show (fallGo _ _ _).length ≤ 2048; rw [fallGo_len]; exact h.le⟩

theorem goesD_ok {D : DM} (h : D.ok) {N : Nat} (hb : D.bd N) : (goesD D).2.ok ∧ (goesD D).2.bd (N + 1) ∧ (goesD D).2.blocks.length = D.blocks.length := by
  have h1 := hb.armed
  have h2 := hb.ops
  have h3 := hb.wait
  unfold goesD
  split
  · exact ⟨⟨h.len, h.wlen, h.pos, h.le⟩, ⟨h1, ⟨by dsimp only; omega, by dsimp only; omega⟩, by dsimp only; omega⟩, rfl⟩
  · split
    · exact ⟨⟨h.len, h.wlen, h.pos, h.le⟩, ⟨⟨by dsimp only; omega, by dsimp only; omega⟩, ⟨by dsimp only; omega, by dsimp only; omega⟩, by dsimp only; omega⟩, rfl⟩
    · refine ⟨fallsD_ok (D := { D with ops := D.ops + 1 }) ⟨h.len, h.wlen, h.pos, h.le⟩ _, ⟨⟨by simp [fallsD], by simp [fallsD]⟩, ⟨by simp only [fallsD]; omega, by simp only [fallsD]; omega⟩, by simp [fallsD]⟩, by show (fallGo _ _ _).length = _; rw [fallGo_len]⟩

theorem writeD_ok {D : DM} (h : D.ok) {N : Nat} (hb : D.bd N) (i : Int) (l : List UInt8) : (writeD D i l).2.ok ∧ (writeD D i l).2.bd (N + 2) ∧ (writeD D i l).2.blocks.length = D.blocks.length := by
  have h1 := hb.armed
  have h2 := hb.ops
  have h3 := hb.wait
  have hb2 : D.bd (N + 2) := ⟨h1, ⟨h2.1, by omega⟩, by omega⟩
  unfold writeD
  split
  · exact ⟨h, hb2, rfl⟩
  · rename_i hp
    split
    · exact ⟨h, hb2, rfl⟩
    · rename_i hl
      obtain ⟨_, p1, p2⟩ := place0 (Classical.not_not.1 hp)
      have := goesD_ok (addW_ok h ⟨p1, p2⟩ (Classical.not_not.1 hl)) (N := N + 1) ⟨h1, ⟨h2.1, by show D.ops ≤ _; omega⟩, by show (D.wait ++ [_]).length ≤ _; rw [List.length_append, List.length_singleton]; omega⟩
      exact this

theorem setClean_keys (C : CM) (k : Int) : (setClean C k).l.map (·.key) = C.l.map (·.key) := by
  show (C.l.map _).map _ = _
  rw [List.map_map]
  refine List.map_congr_left fun x _ => ?_
  show (if x.key = k then _ else _ : Bm).key = x.key
  split <;> rfl

theorem C42 (c dp : Nat) (C : CM) (D : DM) (w : World) (F : Nat → Prop) (h : Has [CacheA c dp C, DiskA dp D] w F) (hnod : (C.l.map (·.key)).Nodup) (hn : C.l.length ≤ 1000) (hD : D.ok) (N : Nat) (hb : D.bd N) (hN : N ≤ 1000000) :
    Calls Try.prog 42 #[P0 c] w (RetT [.c (.int .i64)] fun r w' => r = (cleanGo (dirtyK C) C D).1 ∧ St F w w' [CacheA c dp (cleanGo (dirtyK C) C D).2.1, DiskA dp (cleanGo (dirtyK C) C D).2.2]) := by
  refine F42_calls _ _ _ ?_
  unfold F42
  have st := St.init h
  obtain ⟨G1, _, _, g1, _, _, _, gc⟩ := st.call1
  obtain ⟨m0, hbx⟩ := cbox g1
  refine callF_of (C72 c dp _ w hbx) ?_
  rintro _ _ ⟨rfl, rfl⟩
  refine br_f rfl ?_
  simp only [deref_some']
  refine callF_of (C77 c dp C w G1 g1 (by omega)) ?_
  rintro t w1 s0
  have s1 : St F w w1 [SlA 1 t (ints (dirtyK C)), CacheA c dp C, DiskA dp D] := gc _ _ s0
  have htl := slA_len1 s1.sl
  rw [ints_length] at htl
  have hdl := dirtyK_len C
  have hks : ∀ k ∈ dirtyK C, k ∈ C.l.map (·.key) := fun k hk => by
    have h2 := (sortI_perm _).subset hk
    obtain ⟨x, hx, rfl⟩ := List.mem_map.1 h2
    exact List.mem_map.2 ⟨x, (List.mem_filter.1 hx).1, rfl⟩
  refine loop_of (fun z W => ∃ (j : Nat) (Cj : CM) (Dj : DM), z = j ∧ j ≤ (dirtyK C).length ∧ cleanGo ((dirtyK C).drop j) Cj Dj = cleanGo (dirtyK C) C D ∧ Cj.l.map (·.key) = C.l.map (·.key) ∧ Dj.ok ∧ Dj.bd (N + 2 * j) ∧ St F w W [SlA 1 t (ints (dirtyK C)), CacheA c dp Cj, DiskA dp Dj])
    (fun z _ => (dirtyK C).length - z.toNat) ⟨0, C, D, rfl, by omega, rfl, rfl, hD, hb, s1⟩ ?_
  rintro _ W ⟨j, Cj, Dj, rfl, hj, hgo, hkj, hDj, hbj, s⟩
  refine br_of (fun hlt => ?_) (fun hge => ?_)
  rotate_left
  · simp only [decide_eq_false_iff_not] at hge
    rw [List.drop_eq_nil_of_le (by omega)] at hgo
    have hgo' : (0, Cj, Dj) = cleanGo (dirtyK C) C D := hgo
    rw [← hgo']
    exact ⟨rfl, s.drop⟩
  simp only [decide_eq_true_eq] at hlt
  have hjl : j < (dirtyK C).length := by omega
  have hdrop : (dirtyK C).drop j = (dirtyK C)[j] :: (dirtyK C).drop (j + 1) := List.drop_eq_getElem_cons hjl
  generalize hk : (dirtyK C)[j] = k at hdrop
  have hkm : k ∈ Cj.l.map (·.key) := by rw [hkj, ← hk]; exact hks _ (List.getElem_mem hjl)
  refine ⟨⟨by omega, hlt⟩, ?_⟩
  rw [Int.toNat_natCast]
  refine at_own s.sl (i := j) (c := .int .i64) (p := k) (by simp [ints, hjl, hk]) ?_
  obtain ⟨m, bs, hl, s2⟩ := St.cOpen (s.bring 1)
  refine s2.ld (i := 2) (s := .map) (p := some m) rfl ?_
  have hnj : (Cj.l.map (·.key)).Nodup := by rw [hkj]; exact hnod
  rcases lkp_bkv k bs with ⟨_, h1⟩ | ⟨i, x, h1, h2, h3⟩
  · exfalso
    obtain ⟨y, hy, hyk⟩ := List.mem_map.1 hkm
    rw [hl] at hy
    obtain ⟨z, hz, rfl⟩ := List.mem_map.1 hy
    exact h1 z hz hyk
  have hxm : Cj.l[i]? = some x.m := by rw [hl, List.getElem?_map, h1]; rfl
  refine St.mapAt (T := intKT) (s2.bring 1) (k := k) (fun v hv => ?_) (fun hv => by rw [h3] at hv; cases hv)
  rw [h3, Option.some.injEq] at hv
  refine ⟨some ⟨x.ptr, 0, none⟩, hv.symm, ?_⟩
  rw [drw_def]
  have s3 := s2.drew
  refine s3.ld (i := 0) (s := .ptr) (p := some ⟨dp, 0, none⟩) rfl ?_
  simp only [deref_some']
  have s4 := ((s3.bring 2).pick (i := i) (A := bufA x) (by simp [h1])).big
  replace s4 : St F w W.drew [BoxA x.ptr [slV x.s, .bool x.dirty, .int .i64 x.asked], SlA 1 x.s (x.b.map ub), bigA ((bs.map bufA).eraseIdx i), BoxA c [P0 dp, .int .i64 Cj.room, .map (some m), .int .i64 Cj.asked], MapA intKT m (bs.map bkv), SlA 1 t (ints (dirtyK C)), DiskA dp Dj] := s4
  refine s4.ld (i := 0) (s := .slice) (p := x.s) rfl ?_
  have s5 := s4.sel [6, 1, 0, 2, 3, 4, 5] 7
  obtain ⟨G, H, g2, g3, g4, _, gc2⟩ := St.call [DiskA dp Dj] s5
  have hb1 := hbj.armed
  have hb2 := hbj.ops
  have hb3 := hbj.wait
  have hby : bytesAt Cj k = x.b := by
    unfold bytesAt
    rw [← h2, show x.key = x.m.key from rfl, find_at hnj hxm]
    rfl
  refine callF_of (C40' dp Dj k x.s x.b _ G g2 (Rd.own g3 g4) hDj (by omega) hb1.1 hb1.2 ⟨hb2.1, by omega⟩) ?_
  rintro e w2 ⟨he, s6⟩
  have s7 := gc2 _ _ s6
  rw [← hby] at he s7
  have hwo := writeD_ok hDj hbj k (bytesAt Cj k)
  rw [hdrop, cleanGo_cons] at hgo
  refine br_of (fun hne => ?_) (fun heq => ?_)
  · have hne : (writeD Dj k (bytesAt Cj k)).1 ≠ 0 := by rw [← he]; simpa using hne
    rw [if_pos hne] at hgo
    rw [← hgo]
    refine ⟨he, ?_⟩
    rw [hby] at s7
    have s8 := St.unpick (A := bufA x) (St.mkbig (xs := [_, _]) (s7.sel [2, 1, 3, 4, 5, 0] 7)) (split_at (show (bs.map bufA)[i]? = some (bufA x) by simp [h1])).2
    rw [set_same (show (bs.map bufA)[i]? = some (bufA x) by simp [h1])] at s8
    rw [hby]
    exact (s8.sel [1, 2, 0, 3] 4).cClose (C := Cj) hl
  · have heq : (writeD Dj k (bytesAt Cj k)).1 = 0 := by rw [← he]; simpa using heq
    rw [if_neg (by simp [heq])] at hgo
    refine (s7.bring 2).st (i := 1) (by simp) trivial fun w3 s8 => ?_
    rw [wrap_succ (by omega)]
    refine ⟨⟨j + 1, setClean Cj k, (writeD Dj k (bytesAt Cj k)).2, rfl, hjl, hgo, by rw [setClean_keys, hkj], hwo.1, ?_, ?_⟩, by omega⟩
    · rw [show N + 2 * (j + 1) = N + 2 * j + 2 by omega]; exact hwo.2.1
    · rw [hby] at s8 ⊢
      have s9 := St.unpick (A := bufA { x with dirty := false }) (St.mkbig (xs := [_, _]) (s8.sel [0, 2, 3, 4, 5, 1, 6] 7)) (split_at (show (bs.map bufA)[i]? = some (bufA x) by simp [h1])).2
      have e1 : (bs.map bufA).set i (bufA { x with dirty := false }) = (bs.set i { x with dirty := false }).map bufA := by rw [List.map_set]
      have e2 : bs.map bkv = (bs.set i { x with dirty := false }).map bkv := (map_set_same bkv (a := { x with dirty := false }) h1 rfl).symm
      rw [e1, e2] at s9
      have s10 := (s9.sel [1, 2, 0, 3, 4] 5).cClose (C := setClean Cj k) (bs := bs.set i { x with dirty := false }) (by
        show (Cj.l.map _) = _
        rw [List.map_set, ← hl, show k = x.m.key from h2.symm, map_if_set (f := fun y => { y with dirty := false }) hnj hxm]
        rfl)
      exact s10.sel [2, 0, 1] 3
end Go.Proofs

/-! Layer 9, the law's own: its example; scripts. -/
namespace Go.Proofs
open Go.Eng

def cs (j : Nat) : CM := match j with
  | 0 => ⟨2, 0, []⟩
  | 1 => ⟨2, 1, [⟨5, zero256, false, 1⟩]⟩
  | 2 => ⟨2, 2, [⟨5, zero256, false, 1⟩, ⟨6, zero256, false, 2⟩]⟩
  | 3 => ⟨2, 3, [⟨5, zero256, false, 3⟩, ⟨6, zero256, false, 2⟩]⟩
  | _ => ⟨2, 4, [⟨5, zero256, false, 3⟩, ⟨7, zero256, false, 4⟩]⟩
def ksq : List Int := [5, 6, 5, 7]

theorem newD_place {n : Nat} {k : Int} (h : 0 ≤ k ∧ k < n) : placeE (newD n) k = 0 := by
  unfold placeE
  rw [if_neg (by simp [newD]), if_neg (by simp only [newD, List.length_replicate]; omega)]
theorem newD_rd {n : Nat} {k : Int} (h : 0 ≤ k ∧ k < n) : rdD (newD n) k = zero256 := by
  unfold rdD
  have : k.toNat < n := by omega
  show ((([] : List (Int × List UInt8)).reverse.find? _).map _).getD (((List.replicate n zero256)[k.toNat]?).getD []) = _
  simp [this]

theorem comes_cs {j : Nat} {e : Int} {C' : CM} {p : Nat} (hj : j < 4) (h : ComesQ (cs j) (newD 9) (ksq[j]?.getD 0) e C' p) : e = 0 ∧ C' = cs (j + 1) := by
  have hp : ∀ k : Int, 0 ≤ k ∧ k < 9 → placeE (newD 9) k = 0 := fun k hk => newD_place hk
  have hr : ∀ k : Int, 0 ≤ k ∧ k < 9 → rdD (newD 9) k = zero256 := fun k hk => newD_rd hk
  match j, hj with
  | 0, _ =>
    replace h : ComesQ ⟨2, 0, []⟩ (newD 9) 5 e C' p := h
    cases h with
    | hit k x h1 h2 => simp at h1
    | full no hf hd => simp at hf
    | err no he hc => exact absurd (hp 5 (by decide)) he
    | more no hp' hf => exact ⟨rfl, by simp [CM.tick, newB, hr 5 (by decide), cs]⟩
    | swap no hp' hf k y h1 h2 h3 => simp at h1
  | 1, _ =>
    replace h : ComesQ ⟨2, 1, [⟨5, zero256, false, 1⟩]⟩ (newD 9) 6 e C' p := h
    cases h with
    | hit k x h1 h2 => exfalso; have := List.mem_of_getElem? h1; simp at this; rw [this] at h2; simp at h2
    | full no hf hd => simp at hf
    | err no he hc => exact absurd (hp 6 (by decide)) he
    | more no hp' hf => exact ⟨rfl, by simp [CM.tick, newB, hr 6 (by decide), cs]⟩
    | swap no hp' hf k y h1 h2 h3 => simp at hf
  | 2, _ =>
    replace h : ComesQ ⟨2, 2, [⟨5, zero256, false, 1⟩, ⟨6, zero256, false, 2⟩]⟩ (newD 9) 5 e C' p := h
    cases h with
    | hit k x h1 h2 =>
      match p, h1 with
      | 0, h1 => simp at h1; subst h1; exact ⟨rfl, by simp [CM.tick, cs]⟩
      | 1, h1 => simp at h1; subst h1; simp at h2
      | k + 2, h1 => simp at h1
    | full no hf hd => exact absurd rfl (no ⟨5, zero256, false, 1⟩ (by simp))
    | err no he hc => exact absurd rfl (no ⟨5, zero256, false, 1⟩ (by simp))
    | more no hp' hf => exact absurd rfl (no ⟨5, zero256, false, 1⟩ (by simp))
    | swap no hp' hf k y h1 h2 h3 => exact absurd rfl (no ⟨5, zero256, false, 1⟩ (by simp))
  | 3, _ =>
    replace h : ComesQ ⟨2, 3, [⟨5, zero256, false, 3⟩, ⟨6, zero256, false, 2⟩]⟩ (newD 9) 7 e C' p := h
    cases h with
    | hit k x h1 h2 => exfalso; have := List.mem_of_getElem? h1; simp at this; rcases this with rfl | rfl <;> simp at h2
    | full no hf hd => have := hd ⟨5, zero256, false, 3⟩ (by simp); simp at this
    | err no he hc => exact absurd (hp 7 (by decide)) he
    | more no hp' hf => simp at hf
    | swap no hp' hf k y h1 h2 h3 =>
      have h4 := h3 ⟨6, zero256, false, 2⟩ (by simp) rfl
      match k, h1 with
      | 0, h1 => simp at h1; subst h1; simp at h4
      | 1, h1 => simp at h1; subst h1; exact ⟨rfl, by simp [CM.tick, newB, hr 7 (by decide), cs]⟩
      | k + 2, h1 => simp at h1

theorem cs_asked (j : Nat) : (cs j).asked ≤ 4 := by
  unfold cs
  split <;> decide

theorem newC_ok {room : Int} (h : 2 ≤ room ∧ room ≤ 256) (n : Nat) : CM.ok ⟨room, 0, []⟩ n :=
  ⟨List.nodup_nil, by simp, by simp, h, by simp; omega, by simp, List.nodup_nil, by simp⟩

theorem C31 (w : World) : Calls Try.prog 31 #[] w (RetT [.c .bool] fun r w' => r = true ∧ Grow w w') := by
  refine F31_calls _ _ ?_
  unfold F31
  refine callF_of (C30 9 w) ?_
  rintro ⟨p, e⟩ w1 h1
  rw [if_pos (by decide)] at h1
  obtain ⟨rfl, dp, rfl, s1⟩ := h1
  refine jn_of (fun b W => b = false ∧ w1 = W) (br_f rfl ⟨trivial, rfl, rfl⟩) ?_
  rintro _ _ ⟨rfl, rfl⟩
  refine br_f rfl ?_
  obtain ⟨G, _, _, g1, _, _, _, _⟩ := s1.call1
  have hD : (newD 9).ok := newD_ok (by decide) (by decide)
  refine callF_of (C32 dp (newD 9) 2 w1 G g1 hD) ?_
  rintro ⟨q, e⟩ w2 h2
  rw [if_pos (by decide)] at h2
  obtain ⟨rfl, c, rfl, s2⟩ := h2
  have s3 := s1.call0 s2
  refine jn_of (fun b W => b = false ∧ w2 = W) (br_f rfl ⟨trivial, rfl, rfl⟩) ?_
  rintro _ _ ⟨rfl, rfl⟩
  refine br_f rfl ?_
  refine St.nw s3 fun r w3 s4 _ _ => ?_
  simp only [deref_some']
  refine loop_of (fun z W => ∃ j : Nat, z = j ∧ j ≤ 4 ∧ (cs j).ok 9 ∧ St noF w W [BoxA r [.int .i64 5, .int .i64 6, .int .i64 5, .int .i64 7], CacheA c dp (cs j), DiskA dp (newD 9)]) (fun z _ => 4 - z.toNat)
    ⟨0, rfl, by omega, newC_ok (by decide) 9, s4⟩ ?_
  rintro _ W ⟨j, rfl, hj, hok, s⟩
  refine br_of (fun hlt => ?_) (fun hge => ?_)
  · simp only [decide_eq_true_eq] at hlt
    have hj4 : j < 4 := by omega
    refine ⟨⟨by omega, hlt⟩, ?_⟩
    rw [Int.toNat_natCast, Nat.mul_one]
    have hk : ([.int .i64 5, .int .i64 6, .int .i64 5, .int .i64 7] : List Value)[j]? = some (.int .i64 (ksq[j]?.getD 0)) := by
      match j, hj4 with
      | 0, _ => rfl
      | 1, _ => rfl
      | 2, _ => rfl
      | 3, _ => rfl
    refine s.ld (i := j) (s := .int .i64) (p := ksq[j]?.getD 0) hk ?_
    obtain ⟨G, _, g2, _, _, _, gc⟩ := St.call [CacheA c dp (cs j), DiskA dp (newD 9)] (s.sel [1, 2, 0] 3)
    have := cs_asked j
    refine callF_of (C34 c dp (cs j) (newD 9) _ W G g2 hok hD (by simp [newD]) (by omega)) ?_
    rintro ⟨t, e⟩ w4 ⟨C', out, hq, s5⟩
    have s6 := gc _ _ s5
    have hkr : 0 ≤ (ksq[j]?.getD 0 : Int) ∧ (ksq[j]?.getD 0 : Int) < (newD 9).blocks.length := by
      match j, hj4 with
      | 0, _ => decide
      | 1, _ => decide
      | 2, _ => decide
      | 3, _ => decide
    rcases hq with ⟨h, _⟩ | ⟨_, p, hcq, ho⟩
    · exact absurd hkr h
    obtain ⟨he, hC⟩ := comes_cs hj4 hcq
    have hok' : C'.ok 9 := hcq.ok hok hD
    dsimp only at he ho ⊢
    subst he
    rcases ho with ⟨h, _⟩ | ⟨_, x, hx, rfl⟩
    · exact absurd rfl h
    have hxl := hok'.len x (List.mem_of_getElem? hx)
    have htl := slA_len1 s6.sl
    rw [List.length_map, hxl] at htl
    refine jn_of (fun b W => b = false ∧ w4 = W) (br_f rfl ⟨by rw [htl]; rfl, rfl⟩) ?_
    rintro _ _ ⟨rfl, rfl⟩
    refine br_f rfl ?_
    rw [wrap_succ (by omega)]
    rw [hC] at s6 hok'
    exact ⟨⟨j + 1, rfl, by omega, hok', s6.sel [3, 1, 2] 4⟩, by omega⟩
  · simp only [decide_eq_false_iff_not] at hge
    have : j = 4 := by omega
    subst this
    obtain ⟨G, _, _, g2, _, _, _, _⟩ := (s.bring 1).call1
    have hg := s.gro
    refine callF_of (C36 c dp (cs 4) 6 W G g2) ?_
    rintro _ _ ⟨rfl, rfl⟩
    refine br_t rfl ?_
    refine callF_of (C36 c dp (cs 4) 5 W G g2) ?_
    rintro _ _ ⟨rfl, rfl⟩
    refine br_t rfl ?_
    refine callF_of (C36 c dp (cs 4) 7 W G g2) ?_
    rintro _ _ ⟨rfl, rfl⟩
    exact ⟨rfl, hg⟩

/-! ### scripts -/

structure Ow where
  d : Int
  k : Int
  o : Int
  b : Sl
def Ow.cells (x : Ow) : List Value := [.int .i64 x.d, .int .i64 x.k, .int .i64 x.o, slV x.b]
@[simp] theorem Ow.cells_len (x : Ow) : x.cells.length = 4 := rfl
abbrev Oc := Ow × List UInt8
def OL (w : World) (s : Sl) (xs : List Oc) : Prop := SS Ow.cells w s (xs.map (·.1)) ∧ ∀ x ∈ xs, BS w x.1.b x.2
theorem OL.grow {w w' : World} {s : Sl} {xs : List Oc} (h : OL w s xs) (hm : Grow w w') : OL w' s xs := ⟨h.1.grow hm, fun x hx => (h.2 x hx).grow hm⟩
theorem OL.len {w : World} {s : Sl} {xs : List Oc} (h : OL w s xs) : s.len = xs.length := by rw [h.1.len]; simp

theorem _root_.Go.Eng.SS.take {α : Type} {f : α → List Value} {n : Nat} (hf : ∀ r, (f r).length = n) {w : World} {s : Sl} {rs : List α} (h : SS f w s rs) {e : Nat} (he : e ≤ s.len) (c : Nat) : SS f w ⟨s.a, e, c⟩ (rs.take e) := by
  have hl := h.len
  refine ⟨by simp; omega, ?_⟩
  have hr := h.row
  have e1 : (rs.take e).flatMap f = (rs.flatMap f).take (e * n) := by
    have h1 : rs.flatMap f = (rs.take e).flatMap f ++ (rs.drop e).flatMap f := by rw [← List.flatMap_append, List.take_append_drop]
    rw [h1, List.take_left' (by rw [flatMap_len hf, List.length_take, Nat.min_eq_left (by omega)])]
  rw [e1]
  cases ha : s.a with
  | none =>
    rw [ha] at hr
    have : rs.flatMap f = [] := hr
    show (rs.flatMap f).take (e * n) = []
    rw [this, List.take_nil]
  | some ad =>
    rw [ha] at hr
    exact readsAt_row.2 ((readsAt_row.1 hr).take _)

theorem OL.take {w : World} {s : Sl} {xs : List Oc} (h : OL w s xs) {e : Nat} (he : e ≤ s.len) (c : Nat) : OL w ⟨s.a, e, c⟩ (xs.take e) := by
  refine ⟨?_, fun x hx => h.2 x (List.mem_of_mem_take hx)⟩
  have := h.1.take Ow.cells_len he c
  rwa [List.map_take]

/-- a script's first ones -/
theorem slc_ol {w : World} {s : Sl} {xs : List Oc} {k : Sl → Pr} (h : OL w s xs) (hle : s.len ≤ s.cap) (hk : ∀ t, (∀ W, OL W s xs → OL W t (xs.take 100)) → t.len ≤ 100 → k t w) : slc 4 s none (some (imin (s.len : Int) 100)) none k w := by
  have hm : imin (s.len : Int) 100 = ((min s.len 100 : Nat) : Int) := by unfold imin; split <;> omega
  rw [hm]
  refine slc_hi (by omega) (by omega) ?_
  rw [map_add_zero, ite_self, Int.toNat_natCast]
  have hl := h.len
  refine hk _ (fun W hW => ?_) (by dsimp only; omega)
  have := hW.take (e := min s.len 100) (by omega) s.cap
  have e1 : xs.take (min s.len 100) = xs.take 100 := by
    rw [hl]
    rcases Nat.le_total xs.length 100 with h' | h'
    · rw [Nat.min_eq_left h', List.take_of_length_le (Nat.le_refl _), List.take_of_length_le h']
    · rw [Nat.min_eq_right h']
  rwa [e1] at this

/-- one act of a script, as it is printed -/
theorem op_at {w : World} {s : Sl} {xs : List Oc} {j : Nat} {x : Oc} {k : Int × Int × Int × Sl → Pr} (h : OL w s xs) (hx : xs[j]? = some x) (hk : k (x.1.d, x.1.k, x.1.o, x.1.b) w) :
    (owe ((0 : Int) ≤ (j : Int) ∧ (j : Int) < (s.len : Int)) <| deref s.a fun a => ldA [.int .i64, .int .i64, .int .i64, .slice] (a.add (Int.toNat (j : Int) * 4)) k) w := by
  have hl := h.len
  have := (split_at hx).2
  refine ⟨⟨by omega, by omega⟩, ?_⟩
  obtain ⟨ad, ha, hrow⟩ := h.1.get (n := 4) Ow.cells_len (i := j) (r := x.1) (by simp [hx]) (by decide)
  rw [ha]
  simp only [deref_some', Int.toNat_natCast]
  exact ldA_of (p := (x.1.d, x.1.k, x.1.o, x.1.b)) (show readsAt w (ad.add (j * 4)) 0 (valA [.int .i64, .int .i64, .int .i64, .slice] (x.1.d, x.1.k, x.1.o, x.1.b)) from readsAt_row.2 hrow) hk

theorem mod9 (n : Int) : ∃ i : Nat, i < 9 ∧ IntKind.wrap .i64 ((IntKind.wrap .u64 n).tmod 9) = (i : Int) := by
  have h0 : 0 ≤ IntKind.wrap .u64 n := by
    simp only [IntKind.wrap, IntKind.signed, IntKind.bits]
    simp
    omega
  have h1 := Int.tmod_nonneg 9 h0
  have h2 := Int.tmod_lt_of_pos (IntKind.wrap .u64 n) (show (0 : Int) < 9 by decide)
  rw [wrap_i64 (by omega)]
  exact ⟨((IntKind.wrap .u64 n).tmod 9).toNat, by omega, by omega⟩

theorem room5 {p : Int} (h : 0 ≤ p ∧ p ≤ 255) : ∃ n : Int, 2 ≤ n ∧ n ≤ 6 ∧ IntKind.wrap .i64 (2 + (IntKind.wrap .i64 (p.tmod 5))) = n := by
  have h1 := Int.tmod_nonneg 5 h.1
  have h2 := Int.tmod_lt_of_pos p (show (0 : Int) < 5 by decide)
  refine ⟨2 + p.tmod 5, by omega, by omega, ?_⟩
  rw [wrap_i64 (n := p.tmod 5) (by omega), wrap_i64 (by omega)]
end Go.Proofs

/-! Layer 9: CacheStays. -/
namespace Go.Proofs
open Go.Eng

/-- the blocks of dirty buffers -/
def isD (C : CM) (k : Int) : Prop := ∃ x ∈ C.l, x.key = k ∧ x.dirty = true

theorem mem_set_self {α : Type} {l : List α} {j : Nat} {x : α} (a : α) (h : l[j]? = some x) : a ∈ l.set j a := List.mem_of_getElem? (i := j) (by rw [List.getElem?_set_self (split_at h).2])

theorem ComesQ.isD {C C' : CM} {D : DM} {i e : Int} {j : Nat} (h : ComesQ C D i e C' j) (k : Int) : isD C' k ↔ isD C k := by
  cases h with
  | hit _ x h1 h2 =>
    constructor
    · rintro ⟨y, hy, g1, g2⟩
      rcases set_getElem?_mem hy with h | rfl
      · exact ⟨y, h, g1, g2⟩
      · exact ⟨x, List.mem_of_getElem? h1, g1, g2⟩
    · rintro ⟨y, hy, g1, g2⟩
      obtain ⟨a, ha⟩ := List.getElem?_of_mem hy
      by_cases haj : j = a
      · subst haj
        rw [h1] at ha
        cases ha
        exact ⟨{ x with asked := C.asked + 1 }, mem_set_self _ h1, g1, g2⟩
      · exact ⟨y, List.mem_of_getElem? (i := a) (show (C.l.set j _)[a]? = some _ by rw [List.getElem?_set_ne haj]; exact ha), g1, g2⟩
  | full no hf hd => exact Iff.rfl
  | err no he hc => exact Iff.rfl
  | more no hp hf =>
    constructor
    · rintro ⟨y, hy, g1, g2⟩
      rcases List.mem_append.1 hy with h | h
      · exact ⟨y, h, g1, g2⟩
      · rw [List.mem_singleton] at h; subst h; cases g2
    · rintro ⟨y, hy, g1, g2⟩
      exact ⟨y, List.mem_append_left _ hy, g1, g2⟩
  | swap no hp hf a y h1 h2 h3 =>
    constructor
    · rintro ⟨z, hz, g1, g2⟩
      rcases List.mem_append.1 hz with h | h
      · exact ⟨z, List.mem_of_mem_eraseIdx h, g1, g2⟩
      · rw [List.mem_singleton] at h; subst h; cases g2
    · rintro ⟨z, hz, g1, g2⟩
      refine ⟨z, List.mem_append_left _ ?_, g1, g2⟩
      obtain ⟨b, hb⟩ := List.getElem?_of_mem hz
      have hne : b ≠ a := by
        rintro rfl
        rw [h1] at hb; cases hb
        rw [h2] at g2; cases g2
      rw [List.eraseIdx_eq_take_drop_succ]
      rcases Nat.lt_or_ge b a with h' | h'
      · exact List.mem_append_left _ (List.mem_of_getElem? (i := b) (by rw [List.getElem?_take, if_pos h']; exact hb))
      · exact List.mem_append_right _ (List.mem_of_getElem? (i := b - (a + 1)) (by rw [List.getElem?_drop, show a + 1 + (b - (a + 1)) = b by omega]; exact hb))

theorem lay_len' {p d : List UInt8} {o : Nat} (h : o + d.length ≤ p.length) : (lay p o d).length = p.length := lay_len h

/-- what a write leaves -/
theorem WriteQ.ok {C C' : CM} {D : DM} {i off e : Int} {l : List UInt8} (h : WriteQ C D i off l e C') (hok : C.ok D.blocks.length) (hD : D.ok) : C'.ok D.blocks.length ∧ C'.asked ≤ C.asked + 1 := by
  rcases h with ⟨_, _, rfl⟩ | ⟨_, _, _, rfl⟩ | ⟨_, hlo, C1, j, hq, ⟨_, rfl⟩ | ⟨_, _, x, hx, rfl⟩⟩
  · exact ⟨hok, by omega⟩
  · exact ⟨hok, by omega⟩
  · exact ⟨hq.ok hok hD, by rw [hq.asked.1]; exact Int.le_refl _⟩
  · have h1 := hq.ok hok hD
    have hm := List.mem_of_getElem? hx
    refine ⟨⟨?_, ?_, ?_, h1.room, ?_, ?_, ?_, h1.small⟩, by show C1.asked ≤ _; rw [hq.asked.1]; exact Int.le_refl _⟩
    · show ((C1.l.set j _).map (·.key)).Nodup
      rw [map_set_same (·.key) (a := { x with b := lay x.b off.toNat l, dirty := true }) hx rfl]; exact h1.nod
    · intro y hy
      rcases set_getElem?_mem hy with h | rfl
      · exact h1.len y h
      · have := h1.len x hm
        show (lay x.b off.toNat l).length = 256
        rw [lay_len (by omega)]; exact this
    · intro y hy
      rcases set_getElem?_mem hy with h | rfl
      · exact h1.key y h
      · exact h1.key x hm
    · show (((C1.l.set j _).length : Nat) : Int) ≤ C1.room
      rw [List.length_set]; exact h1.le
    · intro y hy
      rcases set_getElem?_mem hy with h | rfl
      · exact h1.age y h
      · exact h1.age x hm
    · show ((C1.l.set j _).map (·.asked)).Nodup
      rw [map_set_same (·.asked) (a := { x with b := lay x.b off.toNat l, dirty := true }) hx rfl]; exact h1.ages

theorem WriteQ.isD {C C' : CM} {D : DM} {i off e : Int} {l : List UInt8} (h : WriteQ C D i off l e C') (k : Int) : isD C' k ↔ (isD C k ∨ (e = 0 ∧ l ≠ [] ∧ k = i)) := by
  rcases h with ⟨_, h1, rfl⟩ | ⟨_, _, h1, rfl⟩ | ⟨_, hlo, C1, j, hq, ⟨h1, rfl⟩ | ⟨he, hl, x, hx, rfl⟩⟩
  · exact ⟨.inl, fun h => h.elim id fun h => by omega⟩
  · exact ⟨.inl, fun h => h.elim id fun h => by omega⟩
  · rw [hq.isD]
    exact ⟨.inl, fun h => h.elim id fun h => by rcases h1 with h1 | h1; exact absurd h.1 h1; exact absurd h1 h.2.1⟩
  · subst he
    obtain ⟨x', hx', hk⟩ := hq.at
    rw [hx] at hx'; cases hx'
    rw [← hq.isD]
    constructor
    · rintro ⟨y, hy, g1, g2⟩
      rcases set_getElem?_mem hy with h | rfl
      · exact .inl ⟨y, h, g1, g2⟩
      · exact .inr ⟨rfl, hl, g1.symm.trans hk⟩
    · rintro (⟨y, hy, g1, g2⟩ | ⟨_, _, rfl⟩)
      · obtain ⟨a, ha⟩ := List.getElem?_of_mem hy
        by_cases haj : j = a
        · subst haj
          rw [hx] at ha; cases ha
          exact ⟨{ x with b := lay x.b off.toNat l, dirty := true }, mem_set_self _ hx, g1, rfl⟩
        · exact ⟨y, List.mem_of_getElem? (i := a) (show (C1.l.set j _)[a]? = some _ by rw [List.getElem?_set_ne haj]; exact ha), g1, g2⟩
      · exact ⟨{ x with b := lay x.b off.toNat l, dirty := true }, mem_set_self _ hx, hk, rfl⟩

theorem ReadQ.ok {C C' : CM} {D : DM} {i e : Int} {out : List UInt8} (h : ReadQ C D i e C' out) (hok : C.ok D.blocks.length) (hD : D.ok) : C'.ok D.blocks.length ∧ C'.asked ≤ C.asked + 1 ∧ ∀ k, isD C' k ↔ isD C k := by
  rcases h with ⟨_, _, rfl, _⟩ | ⟨_, j, hq, _⟩
  · exact ⟨hok, by omega, fun _ => Iff.rfl⟩
  · exact ⟨hq.ok hok hD, by rw [hq.asked.1]; exact Int.le_refl _, hq.isD⟩

theorem mem_dirtyK {C : CM} {k : Int} : k ∈ dirtyK C ↔ isD C k := by
  unfold dirtyK isD
  rw [(sortI_perm _).mem_iff, List.mem_map]
  constructor
  · rintro ⟨x, hx, rfl⟩
    exact ⟨x, (List.mem_filter.1 hx).1, rfl, (List.mem_filter.1 hx).2⟩
  · rintro ⟨x, hx, rfl, hd⟩
    exact ⟨x, List.mem_filter.2 ⟨hx, hd⟩, rfl⟩

theorem dirtyK_nodup {C : CM} (h : (C.l.map (·.key)).Nodup) : (dirtyK C).Nodup := by
  unfold dirtyK
  rw [(sortI_perm _).nodup_iff]
  exact h.sublist ((List.filter_sublist (l := C.l)).map _)

theorem cast_nodup : ∀ {l : List Nat}, l.Nodup → (l.map fun (j : Nat) => (j : Int)).Nodup
  | [], _ => List.nodup_nil
  | x :: l, h => by
    rw [List.nodup_cons] at h
    refine List.nodup_cons.2 ⟨fun hm => ?_, cast_nodup h.2⟩
    obtain ⟨y, hy, he⟩ := List.mem_map.1 hm
    have he' : (y : Int) = (x : Int) := he
    have : y = x := by omega
    exact h.1 (this ▸ hy)

/-- as many dirty ones as marks -/
theorem dirty_count {C : CM} {st : List Bool} (hok : C.ok 9) (hst : st.length = 9) (h : ∀ j : Nat, j < 9 → (st[j]? = some true ↔ isD C j)) :
    (dirtyK C).length = ((List.range 9).filter fun j => st[j]? == some true).length := by
  have hp : (dirtyK C).Perm (((List.range 9).filter fun j => st[j]? == some true).map fun (j : Nat) => (j : Int)) := by
    refine (List.perm_ext_iff_of_nodup (dirtyK_nodup hok.nod) ?_).2 fun k => ?_
    · exact cast_nodup (List.nodup_range.filter _)
    · rw [mem_dirtyK, List.mem_map]
      constructor
      · intro hk
        obtain ⟨x, hx, rfl, hd⟩ := id hk
        have := hok.key x hx
        refine ⟨x.key.toNat, ?_, by omega⟩
        rw [List.mem_filter, List.mem_range]
        refine ⟨by omega, ?_⟩
        rw [beq_iff_eq, h _ (by omega)]
        rwa [show ((x.key.toNat : Nat) : Int) = x.key by omega]
      · rintro ⟨j, hj, rfl⟩
        rw [List.mem_filter, List.mem_range] at hj
        exact (h j hj.1).1 (by simpa using hj.2)
  rw [hp.length_eq, List.length_map]
end Go.Proofs

/-! Layer 9: what a cache on its disk reads as. -/
namespace Go.Proofs
open Go.Eng

/-- what is clean is the disk's -/
def coh (C : CM) (D : DM) : Prop := ∀ x ∈ C.l, x.dirty = false → x.b = rdD D x.key
/-- a block reads as v -/
def vis (C : CM) (D : DM) (k : Int) (v : List UInt8) : Prop := (∃ x ∈ C.l, x.key = k ∧ v = x.b) ∨ ((∀ x ∈ C.l, x.key ≠ k) ∧ v = rdD D k)

theorem key_uniq {C : CM} {n : Nat} (h : C.ok n) {x y : Bm} (hx : x ∈ C.l) (hy : y ∈ C.l) (hk : x.key = y.key) : x = y := by
  obtain ⟨a, ha⟩ := List.getElem?_of_mem hx
  obtain ⟨b, hb⟩ := List.getElem?_of_mem hy
  have := key_inj h ha hb hk
  subst this
  rw [ha] at hb
  exact Option.some.inj hb

theorem vis_of {C : CM} {D : DM} {n : Nat} (h : C.ok n) {x : Bm} (hx : x ∈ C.l) {v : List UInt8} (hv : vis C D x.key v) : v = x.b := by
  rcases hv with ⟨y, hy, hk, rfl⟩ | ⟨hno, _⟩
  · rw [key_uniq h hy hx hk]
  · exact absurd rfl (hno x hx)

/-- a changed place of a row of buffers -/
theorem mem_set_iff {l : List Bm} {j : Nat} {x a y : Bm} (h : l[j]? = some x) (hn : (l.map (·.key)).Nodup) : y ∈ l.set j a ↔ y = a ∨ (y ∈ l ∧ y.key ≠ x.key) := by
  constructor
  · intro hy
    obtain ⟨b, hb⟩ := List.getElem?_of_mem hy
    rw [List.getElem?_set] at hb
    split at hb
    · rename_i hjb
      split at hb
      · exact .inl (Option.some.inj hb).symm
      · cases hb
    · rename_i hjb
      refine .inr ⟨List.mem_of_getElem? hb, fun hk => hjb ?_⟩
      have e1 : (l.map (·.key))[j]? = some x.key := by rw [List.getElem?_map, h]; rfl
      have e2 : (l.map (·.key))[b]? = some x.key := by rw [List.getElem?_map, hb, ← hk]; rfl
      exact (List.getElem?_inj (split_at e1).2 hn).1 (e1.trans e2.symm)
  · rintro (rfl | ⟨hy, hk⟩)
    · exact mem_set_self _ h
    · obtain ⟨b, hb⟩ := List.getElem?_of_mem hy
      have hjb : j ≠ b := by
        rintro rfl
        rw [h] at hb
        exact hk (by rw [Option.some.inj hb])
      exact List.mem_of_getElem? (i := b) (by rw [List.getElem?_set_ne hjb]; exact hb)

theorem mem_erase_iff {l : List Bm} {j : Nat} {x y : Bm} (h : l[j]? = some x) (hn : (l.map (·.key)).Nodup) : y ∈ l.eraseIdx j ↔ y ∈ l ∧ y.key ≠ x.key := by
  have h1 := split_at h
  have hn2 := hn
  rw [h1.1, List.map_append, List.map_cons, List.nodup_append, List.nodup_cons] at hn2
  rw [List.eraseIdx_eq_take_drop_succ]
  constructor
  · intro hy
    rcases List.mem_append.1 hy with h2 | h2
    · exact ⟨List.mem_of_mem_take h2, fun hk => hn2.2.2 y.key (List.mem_map.2 ⟨y, h2, rfl⟩) x.key (by simp) hk⟩
    · exact ⟨List.mem_of_mem_drop h2, fun hk => hn2.2.1.1 (List.mem_map.2 ⟨y, h2, hk⟩)⟩
  · rintro ⟨hy, hk⟩
    rw [h1.1] at hy
    rcases List.mem_append.1 hy with h2 | h2
    · exact List.mem_append_left _ h2
    · rcases List.mem_cons.1 h2 with rfl | h2
      · exact absurd rfl hk
      · exact List.mem_append_right _ h2

theorem ComesQ.coh {C C' : CM} {D : DM} {i e : Int} {j : Nat} (h : ComesQ C D i e C' j) (hok : C.ok D.blocks.length) (hc : coh C D) : coh C' D ∧ ∀ k v, vis C D k v → vis C' D k v := by
  cases h with
  | hit _ x h1 h2 =>
    have hm := List.mem_of_getElem? h1
    constructor
    · intro y hy hd
      rcases (mem_set_iff h1 hok.nod).1 hy with rfl | ⟨hy, _⟩
      · exact hc x hm hd
      · exact hc y hy hd
    · rintro k v (⟨y, hy, hk, rfl⟩ | ⟨hno, rfl⟩)
      · by_cases hyk : y.key = x.key
        · have := key_uniq hok hy hm hyk
          subst this
          exact .inl ⟨{ y with asked := C.asked + 1 }, mem_set_self _ h1, hk, rfl⟩
        · exact .inl ⟨y, (mem_set_iff h1 hok.nod).2 (.inr ⟨hy, hyk⟩), hk, rfl⟩
      · refine .inr ⟨fun y hy => ?_, rfl⟩
        rcases (mem_set_iff h1 hok.nod).1 hy with rfl | ⟨hy, _⟩
        · exact hno x hm
        · exact hno y hy
  | full no hf hd => exact ⟨hc, fun _ _ h => h⟩
  | err no he hc' => exact ⟨hc, fun _ _ h => h⟩
  | more no hp hf =>
    constructor
    · intro y hy hd
      rcases List.mem_append.1 hy with h | h
      · exact hc y h hd
      · rw [List.mem_singleton] at h; subst h; rfl
    · rintro k v (⟨y, hy, hk, rfl⟩ | ⟨hno, rfl⟩)
      · exact .inl ⟨y, List.mem_append_left _ hy, hk, rfl⟩
      · by_cases hki : i = k
        · subst hki
          exact .inl ⟨newB C D i, List.mem_append_right _ (by simp), rfl, rfl⟩
        · refine .inr ⟨fun y hy => ?_, rfl⟩
          rcases List.mem_append.1 hy with h | h
          · exact hno y h
          · rw [List.mem_singleton] at h; subst h; exact hki
  | swap no hp hf a y h1 h2 h3 =>
    have hm := List.mem_of_getElem? h1
    constructor
    · intro z hz hd
      rcases List.mem_append.1 hz with h | h
      · exact hc z (List.mem_of_mem_eraseIdx h) hd
      · rw [List.mem_singleton] at h; subst h; rfl
    · rintro k v (⟨z, hz, hk, rfl⟩ | ⟨hno, rfl⟩)
      · by_cases hzy : z.key = y.key
        · have := key_uniq hok hz hm hzy
          subst this
          refine .inr ⟨fun u hu => ?_, ?_⟩
          · rcases List.mem_append.1 hu with h | h
            · rw [← hk]; exact ((mem_erase_iff h1 hok.nod).1 h).2
            · rw [List.mem_singleton] at h; subst h
              exact fun hi => no z hz (hk.trans hi.symm)
          · rw [hc z hz h2, hk]
        · exact .inl ⟨z, List.mem_append_left _ ((mem_erase_iff h1 hok.nod).2 ⟨hz, hzy⟩), hk, rfl⟩
      · by_cases hki : i = k
        · subst hki
          exact .inl ⟨newB C D i, List.mem_append_right _ (by simp), rfl, rfl⟩
        · refine .inr ⟨fun u hu => ?_, rfl⟩
          rcases List.mem_append.1 hu with h | h
          · exact hno u (List.mem_of_mem_eraseIdx h)
          · rw [List.mem_singleton] at h; subst h; exact hki

theorem ReadQ.coh {C C' : CM} {D : DM} {i e : Int} {out : List UInt8} (h : ReadQ C D i e C' out) (hok : C.ok D.blocks.length) (hc : coh C D) : coh C' D ∧ ∀ k v, vis C D k v → vis C' D k v := by
  rcases h with ⟨_, _, rfl, _⟩ | ⟨_, j, hq, _⟩
  · exact ⟨hc, fun _ _ h => h⟩
  · exact hq.coh hok hc

theorem ReadQ.val {C C' : CM} {D : DM} {i : Int} {out : List UInt8} (h : ReadQ C D i 0 C' out) (hok : C.ok D.blocks.length) (hD : D.ok) (hc : Go.Proofs.coh C D) {v : List UInt8} (hv : vis C D i v) : out = v := by
  rcases h with ⟨_, he, _⟩ | ⟨_, j, hq, ⟨he, _⟩ | ⟨_, x, hx, rfl⟩⟩
  · cases he
  · exact absurd rfl he
  · obtain ⟨x', hx', hk⟩ := hq.at
    rw [hx] at hx'; cases hx'
    subst hk
    exact (vis_of (hq.ok hok hD) (List.mem_of_getElem? hx) ((hq.coh hok hc).2 _ _ hv)).symm

theorem lay_nil' (p : List UInt8) (o : Nat) : lay p o [] = p := lay_nil p o

theorem WriteQ.coh {C C' : CM} {D : DM} {i off e : Int} {l : List UInt8} (h : WriteQ C D i off l e C') (hok : C.ok D.blocks.length) (hD : D.ok) (hc : Go.Proofs.coh C D) :
    Go.Proofs.coh C' D ∧ (∀ k v, vis C D k v → (e ≠ 0 ∨ k ≠ i) → vis C' D k v) ∧ (e = 0 → (0 ≤ off ∧ off + l.length ≤ 256) ∧ ∀ v, vis C D i v → vis C' D i (lay v off.toNat l)) := by
  rcases h with ⟨_, h1, rfl⟩ | ⟨_, _, h1, rfl⟩ | ⟨_, hlo, C1, j, hq, ⟨h1, rfl⟩ | ⟨he, hl, x, hx, rfl⟩⟩
  · exact ⟨hc, fun _ _ h _ => h, fun h => by omega⟩
  · exact ⟨hc, fun _ _ h _ => h, fun h => by omega⟩
  · obtain ⟨g1, g2⟩ := hq.coh hok hc
    refine ⟨g1, fun k v h _ => g2 k v h, fun he => ⟨hlo, fun v hv => ?_⟩⟩
    have : l = [] := h1.resolve_left fun h => h he
    subst this
    rw [lay_nil]
    exact g2 i v hv
  · subst he
    obtain ⟨g1, g2⟩ := hq.coh hok hc
    have h1 := hq.ok hok hD
    obtain ⟨x', hx', hk⟩ := hq.at
    rw [hx] at hx'; cases hx'
    subst hk
    have hm := List.mem_of_getElem? hx
    refine ⟨?_, ?_, fun _ => ⟨hlo, fun v hv => ?_⟩⟩
    · intro y hy hd
      rcases (mem_set_iff hx h1.nod).1 hy with rfl | ⟨hy, _⟩
      · cases hd
      · exact g1 y hy hd
    · intro k v hv hki
      have hki : k ≠ x.key := hki.resolve_left fun h => h rfl
      rcases g2 k v hv with ⟨y, hy, hk, rfl⟩ | ⟨hno, rfl⟩
      · exact .inl ⟨y, (mem_set_iff hx h1.nod).2 (.inr ⟨hy, by rw [hk]; exact hki⟩), hk, rfl⟩
      · refine .inr ⟨fun y hy => ?_, rfl⟩
        rcases (mem_set_iff hx h1.nod).1 hy with rfl | ⟨hy, _⟩
        · exact hno x hm
        · exact hno y hy
    · have := vis_of h1 hm (g2 _ _ hv)
      subst this
      exact .inl ⟨{ x with b := lay x.b off.toNat l, dirty := true }, mem_set_self _ hx, rfl, rfl⟩

/-! ### the disk -/

theorem rdD_addW (D : DM) (i : Int) (l : List UInt8) (k : Int) : rdD (addW D i l) k = if i = k then l else rdD D k := by
  unfold rdD addW
  rw [List.reverse_append, List.reverse_singleton, List.singleton_append, List.find?_cons]
  by_cases h : i = k
  · rw [if_pos h, h]; simp
  · rw [if_neg h]
    have : ((i, l).1 == k) = false := by simpa using h
    rw [this]

/-- a disk whose power stays -/
structure Calm (D : DM) (n N : Nat) : Prop where
  ok : D.ok
  off : D.off = false
  armed : D.armed = 0
  len : D.blocks.length = n
  ops : 0 ≤ D.ops ∧ D.ops ≤ N
  wait : D.wait.length ≤ N

theorem Calm.bd {D : DM} {n N : Nat} (h : Calm D n N) : D.bd N := ⟨by rw [h.armed]; decide, h.ops, h.wait⟩
theorem Calm.place {D : DM} {n N : Nat} (h : Calm D n N) {i : Int} (hi : 0 ≤ i ∧ i < n) : placeE D i = 0 := by
  unfold placeE
  rw [h.off, if_neg (by simp), if_neg (by rw [h.len]; omega)]

theorem Calm.write {D : DM} {n N : Nat} (h : Calm D n N) {i : Int} (hi : 0 ≤ i ∧ i < n) {l : List UInt8} (hl : l.length = 256) :
    (writeD D i l).1 = 0 ∧ Calm (writeD D i l).2 n (N + 1) ∧ ∀ k, rdD (writeD D i l).2 k = if i = k then l else rdD D k := by
  have hg : goesD (addW D i l) = (false, { addW D i l with ops := D.ops + 1 }) := by
    unfold goesD
    rw [if_pos (show (addW D i l).armed = 0 from h.armed)]
    rfl
  unfold writeD
  rw [if_neg (by simp [h.place hi]), if_neg (by simp [hl]), hg]
  have h1 := addW_ok h.ok (i := i) (l := l) (by rw [h.len]; exact hi) hl
  have := h.ops
  have := h.wait
  refine ⟨rfl, ⟨⟨h1.len, h1.wlen, h1.pos, h1.le⟩, h.off, h.armed, h.len, ⟨by dsimp only; omega, by dsimp only; omega⟩, by show (D.wait ++ [_]).length ≤ _; rw [List.length_append, List.length_singleton]; omega⟩, fun k => ?_⟩
  exact rdD_addW D i l k

theorem bytesAt_of {C : CM} {n : Nat} (h : C.ok n) {x : Bm} (hx : x ∈ C.l) : bytesAt C x.key = x.b := by
  obtain ⟨i, hi⟩ := List.getElem?_of_mem hx
  unfold bytesAt
  rw [find_at h.nod hi]; rfl

theorem setClean_ok {C : CM} {n : Nat} (h : C.ok n) (k : Int) : (setClean C k).ok n := by
  have hm : ∀ y ∈ (setClean C k).l, ∃ x ∈ C.l, y.key = x.key ∧ y.b = x.b ∧ y.asked = x.asked := by
    intro y hy
    obtain ⟨x, hx, rfl⟩ := List.mem_map.1 hy
    refine ⟨x, hx, ?_⟩
    split <;> exact ⟨rfl, rfl, rfl⟩
  refine ⟨by rw [setClean_keys]; exact h.nod, ?_, ?_, h.room, ?_, ?_, ?_, h.small⟩
  · intro y hy; obtain ⟨x, hx, _, h2, _⟩ := hm y hy; rw [h2]; exact h.len x hx
  · intro y hy; obtain ⟨x, hx, h1, _, _⟩ := hm y hy; rw [h1]; exact h.key x hx
  · show (((C.l.map _).length : Nat) : Int) ≤ C.room
    rw [List.length_map]; exact h.le
  · intro y hy; obtain ⟨x, hx, _, _, h3⟩ := hm y hy; rw [h3]; exact h.age x hx
  · unfold setClean
    rw [List.map_map]
    have : C.l.map ((fun x => x.asked) ∘ fun x => if x.key = k then { x with dirty := false } else x) = C.l.map (·.asked) := List.map_congr_left fun x _ => by
      show (if x.key = k then _ else _ : Bm).asked = x.asked
      split <;> rfl
    rw [this]; exact h.ages

theorem clean_spec : ∀ (ks : List Int) (C : CM) (D : DM) (n N : Nat), Calm D n N → C.ok n → ks.Nodup → (∀ k ∈ ks, ∃ x ∈ C.l, x.key = k) →
    (cleanGo ks C D).1 = 0 ∧ Calm (cleanGo ks C D).2.2 n (N + ks.length) ∧ (cleanGo ks C D).2.1.ok n ∧ (cleanGo ks C D).2.1.asked = C.asked ∧ (cleanGo ks C D).2.1.room = C.room ∧
    (∀ k, rdD (cleanGo ks C D).2.2 k = if k ∈ ks then bytesAt C k else rdD D k) ∧
    (cleanGo ks C D).2.1.l = C.l.map fun x => if x.key ∈ ks then { x with dirty := false } else x
  | [], C, D, n, N, hD, hC, _, _ => by
    refine ⟨rfl, hD, hC, rfl, rfl, fun k => by simp [cleanGo], ?_⟩
    show C.l = _
    simp
  | k :: ks, C, D, n, N, hD, hC, hn, hk => by
    obtain ⟨x, hx, hxk⟩ := hk k (by simp)
    rw [List.nodup_cons] at hn
    have hb : bytesAt C k = x.b := by rw [← hxk]; exact bytesAt_of hC hx
    obtain ⟨w1, w2, w3⟩ := hD.write (i := k) (by have := hC.key x hx; rw [hxk] at this; exact this) (l := bytesAt C k) (by rw [hb]; exact hC.len x hx)
    rw [cleanGo_cons, if_neg (by simp [w1])]
    have hk2 : ∀ k' ∈ ks, ∃ x ∈ (setClean C k).l, x.key = k' := by
      intro k' hk'
      obtain ⟨y, hy, hyk⟩ := hk k' (by simp [hk'])
      refine ⟨if y.key = k then { y with dirty := false } else y, List.mem_map.2 ⟨y, hy, rfl⟩, ?_⟩
      split <;> exact hyk
    obtain ⟨g1, g2, g3, g4, g5, g6, g7⟩ := clean_spec ks (setClean C k) (writeD D k (bytesAt C k)).2 n (N + 1) w2 (setClean_ok hC k) hn.2 hk2
    refine ⟨g1, by rw [List.length_cons, show N + (ks.length + 1) = N + 1 + ks.length by omega]; exact g2, g3, g4, g5, fun k' => ?_, ?_⟩
    · rw [g6, w3]
      by_cases h1 : k' ∈ ks
      · rw [if_pos h1, if_pos (by simp [h1])]
        obtain ⟨y, hy, hyk⟩ := hk k' (by simp [h1])
        obtain ⟨z, hz, hzk⟩ := hk2 k' h1
        obtain ⟨u, hu, huz⟩ := List.mem_map.1 hz
        rw [← hzk, bytesAt_of (setClean_ok hC k) hz]
        have : z.key = u.key ∧ z.b = u.b := by rw [← huz]; split <;> exact ⟨rfl, rfl⟩
        rw [this.1, this.2, bytesAt_of hC hu]
      · rw [if_neg h1]
        by_cases h2 : k = k'
        · rw [if_pos h2, if_pos (by simp [h2]), h2]
        · rw [if_neg h2, if_neg (by simp [h1]; exact fun h => h2 h.symm)]
    · rw [g7]
      show (C.l.map _).map _ = _
      rw [List.map_map]
      refine List.map_congr_left fun y _ => ?_
      show (if (if y.key = k then _ else _ : Bm).key ∈ ks then _ else _) = _
      by_cases h1 : y.key = k
      · rw [if_pos h1]
        by_cases h2 : y.key ∈ ks
        · simp [h1, h2]
        · simp [h1]
      · rw [if_neg h1]
        simp [h1]

/-- a clean of all that is dirty -/
theorem clean_all {C : CM} {D : DM} {n N : Nat} (hD : Calm D n N) (hC : C.ok n) (hc : coh C D) :
    (cleanGo (dirtyK C) C D).1 = 0 ∧ Calm (cleanGo (dirtyK C) C D).2.2 n (N + C.l.length) ∧ (cleanGo (dirtyK C) C D).2.1.ok n ∧ (cleanGo (dirtyK C) C D).2.1.asked = C.asked ∧ (cleanGo (dirtyK C) C D).2.1.room = C.room ∧
    coh (cleanGo (dirtyK C) C D).2.1 (cleanGo (dirtyK C) C D).2.2 ∧ (∀ k v, vis C D k v → vis (cleanGo (dirtyK C) C D).2.1 (cleanGo (dirtyK C) C D).2.2 k v ∧ rdD (cleanGo (dirtyK C) C D).2.2 k = v) := by
  obtain ⟨g1, g2, g3, g4, g5, g6, g7⟩ := clean_spec (dirtyK C) C D n N hD hC (dirtyK_nodup hC.nod) fun k hk => by
    obtain ⟨x, hx, hk, _⟩ := mem_dirtyK.1 hk
    exact ⟨x, hx, hk⟩
  have hdl := dirtyK_len C
  have hrd : ∀ x ∈ C.l, rdD (cleanGo (dirtyK C) C D).2.2 x.key = x.b := by
    intro x hx
    rw [g6]
    by_cases hd : x.dirty = true
    · rw [if_pos (mem_dirtyK.2 ⟨x, hx, rfl, hd⟩), bytesAt_of hC hx]
    · rw [if_neg, ← hc x hx (by simpa using hd)]
      intro hm
      obtain ⟨y, hy, hyk, hyd⟩ := mem_dirtyK.1 hm
      have := key_uniq hC hy hx hyk
      subst this
      exact hd hyd
  refine ⟨g1, ⟨g2.ok, g2.off, g2.armed, g2.len, ⟨g2.ops.1, by have := g2.ops.2; omega⟩, by have := g2.wait; omega⟩, g3, g4, g5, ?_, fun k v hv => ⟨?_, ?_⟩⟩
  · intro y hy _
    rw [g7] at hy
    obtain ⟨x, hx, rfl⟩ := List.mem_map.1 hy
    have h1 := hrd x hx
    split <;> exact h1.symm
  · rcases hv with ⟨x, hx, rfl, rfl⟩ | ⟨hno, rfl⟩
    · refine .inl ⟨if x.key ∈ dirtyK C then { x with dirty := false } else x, by rw [g7]; exact List.mem_map.2 ⟨x, hx, rfl⟩, ?_, ?_⟩ <;> split <;> rfl
    · refine .inr ⟨fun y hy => ?_, ?_⟩
      · rw [g7] at hy
        obtain ⟨x, hx, rfl⟩ := List.mem_map.1 hy
        have h1 := hno x hx
        split <;> exact h1
      · rw [g6, if_neg]
        intro hm
        obtain ⟨x, hx, hk, _⟩ := mem_dirtyK.1 hm
        exact hno x hx hk
  · rcases hv with ⟨x, hx, rfl, rfl⟩ | ⟨hno, rfl⟩
    · exact hrd x hx
    · rw [g6, if_neg]
      intro hm
      obtain ⟨x, hx, hk, _⟩ := mem_dirtyK.1 hm
      exact hno x hx hk

/-- refused for want of room: as many are dirty as there is room for -/
theorem full_dirty {C : CM} {n : Nat} (hC : C.ok n) (hf : C.room ≤ (C.l.length : Int)) (hd : ∀ x ∈ C.l, x.dirty = true) : C.room ≤ ((dirtyK C).length : Int) := by
  have : C.l.filter (·.dirty) = C.l := List.filter_eq_self.2 hd
  unfold dirtyK
  rw [this, (sortI_perm _).length_eq, List.length_map]
  exact hf
end Go.Proofs
