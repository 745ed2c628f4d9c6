import Derived.Test.YtlenkeefncbmcaaLA
import Derived.Test.YtlenkeefncbmcaaFA
import Derived.Test.YtlenkeefncbmcaaCA
set_option linter.unusedVariables false
set_option linter.unusedSimpArgs false
set_option linter.unusedSectionVars false
/-! Layer 3, the disk: what it is, and its plainest calls. -/
namespace Go.Proofs
open Go.Eng

structure DM where
  blocks : List (List UInt8)
  wait : List (Int × List UInt8)
  off : Bool
  ops : Int
  armed : Int
  picks : List UInt8

def slV (s : Sl) : Value := .slice s.a s.len s.cap
@[simp] theorem NotAgg_slV (s : Sl) : NotAgg (slV s) = True := rfl
theorem slV_valC (s : Sl) : slV s = valC .slice s := rfl

/-- a disk's slices -/
structure DI where
  bs : Sl
  ws : Sl
  ps : Sl
  bl : List (Sl × List UInt8)
  wl : List (Int × Sl × List UInt8)

def bytA (x : Sl × List UInt8) : HA := SlA 1 x.1 (x.2.map ub)
def wcells (x : Int × Sl × List UInt8) : List Value := [.int .i64 x.1, slV x.2.1]

def diskL (p : Nat) (D : DM) (i : DI) : List HA :=
  [pA (D.blocks = i.bl.map (·.2) ∧ D.wait = i.wl.map fun x => (x.1, x.2.2)),
   BoxA p [slV i.bs, slV i.ws, .bool D.off, .int .i64 D.ops, .int .i64 D.armed, slV i.ps],
   SlA 1 i.bs (i.bl.map fun x => slV x.1),
   SlA 2 i.ws (i.wl.flatMap wcells),
   SlA 1 i.ps (D.picks.map ub),
   bigA (i.bl.map bytA),
   bigA (i.wl.map fun x => bytA x.2)]

def DiskA (p : Nat) (D : DM) : HA := exA (diskL p D)

structure DM.ok (D : DM) : Prop where
  len : ∀ b ∈ D.blocks, b.length = 256
  wlen : ∀ x ∈ D.wait, 0 ≤ x.1 ∧ x.1 < D.blocks.length ∧ x.2.length = 256
  pos : 1 ≤ D.blocks.length
  le : D.blocks.length ≤ 2048

def canE (D : DM) : Int := if D.off then 5 else 0
def placeE (D : DM) (i : Int) : Int := if D.off then 5 else if i < 0 ∨ i ≥ D.blocks.length then 30 else 0

theorem slA_len1 {w : World} {s : Sl} {vs : List Value} (h : OwnS w 0 1 s vs) : s.len = vs.length := by have := h.len; omega

abbrev P0 (p : Nat) : Value := .pointer (some ⟨p, 0, none⟩)

theorem C67 (p : Nat) (D : DM) (w : World) (F : Nat → Prop) (h : Has [DiskA p D] w F) :
    Calls Try.prog 67 #[P0 p] w (RetT [.c (.int .i64)] fun r w' => r = D.blocks.length ∧ w = w') := by
  refine F67_calls _ _ _ ?_
  unfold F67
  obtain ⟨i, st⟩ := (St.init h).ex
  obtain ⟨⟨hb, hw⟩, st⟩ := st.p
  refine ⟨trivial, br_f rfl ?_⟩
  simp only [deref_some']
  refine St.ld st (i := 0) (s := .slice) (p := i.bs) rfl ⟨?_, rfl⟩
  rw [slA_len1 (st.bring 1).sl, hb]; simp

theorem C83 (p : Nat) (D : DM) (w : World) (F : Nat → Prop) (h : Has [DiskA p D] w F) (hok : D.ok) :
    Calls Try.prog 83 #[P0 p] w (RetT [.c (.int .i64)] fun r w' => r = canE D ∧ w = w') := by
  refine F83_calls _ _ _ ?_
  unfold F83
  refine callF_of (C67 p D w F h) ?_
  rintro _ _ ⟨rfl, rfl⟩
  have hp := hok.pos
  obtain ⟨i, st⟩ := (St.init h).ex
  obtain ⟨⟨hb, hw⟩, st⟩ := st.p
  refine br_f (by rw [beq_eq_false_iff_ne]; omega) ?_
  simp only [deref_some']
  refine St.ld st (i := 2) (s := .bool) (p := D.off) rfl ?_
  unfold canE
  refine br_of (fun h => ⟨by rw [if_pos h], rfl⟩) (fun h => ⟨by rw [if_neg (by simp [h])], rfl⟩)

theorem C70 (p : Nat) (D : DM) (j : Int) (w : World) (F : Nat → Prop) (h : Has [DiskA p D] w F) (hok : D.ok) :
    Calls Try.prog 70 #[P0 p, .int .i64 j] w (RetT [.c (.int .i64)] fun r w' => r = placeE D j ∧ w = w') := by
  refine F70_calls _ _ _ _ ?_
  unfold F70
  refine callF_of (C83 p D w F h hok) ?_
  rintro _ _ ⟨rfl, rfl⟩
  unfold canE placeE
  refine br_of (fun hne => ?_) (fun heq => ?_)
  · have : D.off = true := by
      cases hh : D.off
      · rw [hh] at hne; simp at hne
      · rfl
    simp [this]
  · have : D.off = false := by
      cases hh : D.off
      · rfl
      · rw [hh] at heq; simp at heq
    rw [this]
    obtain ⟨i, st⟩ := (St.init h).ex
    obtain ⟨⟨hb, hw⟩, st⟩ := st.p

    refine jn_of (fun b w' => b = decide (j < 0 ∨ j ≥ D.blocks.length) ∧ w = w') ?_ ?_
    · refine br_of (fun h0 => ⟨?_, rfl⟩) (fun h0 => ?_)
      · simp only [decide_eq_true_eq] at h0
        symm; rw [decide_eq_true_eq]; exact .inl h0
      · simp only [decide_eq_false_iff_not] at h0
        simp only [deref_some']
        refine St.ld st (i := 0) (s := .slice) (p := i.bs) rfl ⟨?_, rfl⟩
        have hl : i.bs.len = D.blocks.length := by rw [slA_len1 (st.bring 1).sl, hb]; simp
        rw [hl, decide_eq_decide]
        omega
    · rintro _ _ ⟨rfl, rfl⟩
      by_cases hc : j < 0 ∨ j ≥ D.blocks.length
      · refine br_t (by simp [hc]) ⟨?_, rfl⟩
        rw [if_neg (by simp), if_pos hc]
      · refine br_f (by simp [hc]) ⟨?_, rfl⟩
        rw [if_neg (by simp), if_neg hc]
end Go.Proofs

/-! Layer 3, the disk: a range backwards over what is pending; Read. -/
namespace Go.Proofs
open Go.Eng

@[simp] theorem wcells_len (x : Int × Sl × List UInt8) : (wcells x).length = 2 := rfl
abbrev WS := SS wcells

/-- what a disk reads as -/
def rdD (D : DM) (i : Int) : List UInt8 := ((D.wait.reverse.find? (·.1 == i)).map (·.2)).getD ((D.blocks[i.toNat]?).getD [])

theorem C71 (s : Sl) (w : World) : Calls Try.prog 71 #[.slice s.a s.len s.cap] w (RetT [.c .any] fun r w' => ∃ b, r = .func (.func 94) #[] #[P0 b] ∧ St noF w w' [BoxA b [slV s]]) := by
  refine F71_calls s _ _ ?_
  unfold F71
  exact ⟨trivial, St.nw (St.init0 w) fun b w2 st _ _ => ⟨b, rfl, st⟩⟩

theorem C94 (y : Value) (b : Nat) (s : Sl) (xs : List (Int × Sl × List UInt8)) (w : World) (I : Nat → World → Prop) (D : World → Prop) (hM : ∀ j W, I j W → Box W b [slV s] ∧ WS W s xs) (h0 : I xs.length w) (hl : xs.length ≤ 1000000000)
    (hr : ∀ j x W, xs[j]? = some x → I (j + 1) W → callV Try.prog y [.int .i64 j, .agg #[.int .i64 x.1, .slice x.2.1.a x.2.1.len x.2.1.cap]] [.c .bool] (fun c W' => if c = true then I j W' else D W') W) :
    Calls Try.prog 94 #[y, P0 b] w (RetT [] fun _ w' => I 0 w' ∨ D w') := by
  refine F94_calls y _ _ _ ?_
  unfold F94
  simp only [deref_some']
  have hld : ∀ j W (k : Sl → Pr), I j W → k s W → ldC .slice ⟨b, 0, none⟩ k W := fun j W k hI hk => ldC_of (s := .slice) (p := s) (hM j W hI).1.cell0 hk
  refine hld _ _ _ h0 ?_
  have hsl := (hM _ _ h0).2.len
  rw [show IntKind.wrap .i64 ((s.len : Int) - 1) = (s.len : Int) - 1 from wrap_i64 (by omega)]
  refine loop_of (fun z W => ∃ j : Nat, z = (j : Int) - 1 ∧ j ≤ xs.length ∧ I j W) (fun z _ => (z + 1).toNat) ⟨xs.length, by rw [hsl], Nat.le_refl _, h0⟩ ?_
  rintro _ W ⟨j, rfl, hj, hI⟩
  refine br_of (fun hge => ?_) (fun hlt => ?_)
  · simp only [ge_iff_le, decide_eq_true_eq] at hge
    obtain ⟨j, rfl⟩ : ∃ k, j = k + 1 := ⟨j - 1, by omega⟩
    refine hld _ _ _ hI ?_
    have hjl : j < xs.length := by omega
    have hx : xs[j]? = some xs[j] := by simp [hjl]
    rw [show ((j + 1 : Nat) : Int) - 1 = (j : Int) by omega]
    refine ⟨⟨by omega, by omega⟩, ?_⟩
    obtain ⟨ad, ha, hrow⟩ := (hM _ _ hI).2.get (n := 2) wcells_len hx (by decide)
    rw [ha]
    simp only [deref_some', Int.toNat_natCast]
    refine ldA_of (p := (xs[j].1, xs[j].2.1)) (show readsAt W (ad.add (j * 2)) 0 (valA [.int .i64, .slice] (xs[j].1, xs[j].2.1)) from readsAt_row.2 hrow) ?_
    refine callV_mono ?_ (hr j xs[j] W hx hI)
    intro c W' hc
    refine br_of (fun hf => ?_) (fun ht => ?_)
    · rw [if_neg (by simpa using hf)] at hc
      exact .inr hc
    · rw [if_pos (by simpa using ht)] at hc
      rw [show IntKind.wrap .i64 ((j : Int) - 1) = (j : Int) - 1 from wrap_i64 (by omega)]
      exact ⟨⟨j, rfl, by omega, hc⟩, by omega⟩
  · simp only [ge_iff_le, decide_eq_false_iff_not] at hlt
    have : j = 0 := by omega
    subst this
    exact .inl hI

theorem find_none {wl : List (Int × Sl × List UInt8)} {W : List (Int × List UInt8)} (hw : W = wl.map fun x => (x.1, x.2.2)) {i : Int} (h : ∀ (k : Nat) x, wl[k]? = some x → x.1 ≠ i) : W.reverse.find? (·.1 == i) = none := by
  rw [List.find?_eq_none]
  intro x hx
  rw [List.mem_reverse, hw, List.mem_map] at hx
  obtain ⟨y, hy, rfl⟩ := hx
  obtain ⟨k, hk⟩ := List.getElem?_of_mem hy
  simpa using h k y hk

theorem find_some {wl : List (Int × Sl × List UInt8)} {W : List (Int × List UInt8)} (hw : W = wl.map fun x => (x.1, x.2.2)) {j : Nat} {y : Int × Sl × List UInt8} (hj : wl[j]? = some y) (h : ∀ (k : Nat) x, j < k → wl[k]? = some x → x.1 ≠ y.1) :
    W.reverse.find? (·.1 == y.1) = some (y.1, y.2.2) := by
  have h1 := (split_at hj).1
  rw [hw]
  conv => lhs; rw [h1]
  rw [List.map_append, List.reverse_append, List.map_cons, List.reverse_cons, List.append_assoc, List.find?_append]
  have : ((wl.drop (j + 1)).map fun x => (x.1, x.2.2)).reverse.find? (·.1 == y.1) = none := by
    rw [List.find?_eq_none]
    intro x hx
    rw [List.mem_reverse, List.mem_map] at hx
    obtain ⟨z, hz, rfl⟩ := hx
    obtain ⟨k, hk⟩ := List.getElem?_of_mem hz
    rw [List.getElem?_drop] at hk
    simpa using h (j + 1 + k) z (by omega) hk
  rw [this]
  simp

theorem C35 (p : Nat) (D : DM) (i : Int) (w : World) (F : Nat → Prop) (h : Has [DiskA p D] w F) (hok : D.ok) (hwl : D.wait.length ≤ 1000000000) :
    Calls Try.prog 35 #[P0 p, .int .i64 i] w (RetT [.c .slice, .c (.int .i64)] fun r w' => r.2 = placeE D i ∧ St noF w w' [SlA 1 r.1 ((if placeE D i = 0 then rdD D i else []).map ub)]) := by
  refine F35_calls _ _ _ _ ?_
  unfold F35
  have hF : ∀ W, Grow w W → Has [DiskA p D] W F := fun W g => h.mod g fun _ _ h => h
  refine ⟨trivial, St.nw (St.init0 w) fun r w1 st1 g1 e1 => ⟨trivial, St.nw st1 fun r1 w2 st2 g2 e2 => ⟨trivial, St.nw st2 fun r2 w3 st3 g3 e3 => ?_⟩⟩⟩
  simp only [deref_some']
  refine St.ld0 (st3.bring 2) (s := .int .i64) (p := i) rfl ?_
  refine callF_of (C70 p D i w3 F (hF _ st3.gro) hok) ?_
  rintro _ _ ⟨rfl, rfl⟩
  refine br_of (fun hne => ?_) (fun heq => ?_)
  · have hne : placeE D i ≠ 0 := by simpa using hne
    refine (st3.bring 1).st0 trivial fun w4 st4 => ?_
    refine (st4.bring 1).st0 trivial fun w5 st5 => ?_
    refine (st5.bring 1).ld0 (s := .slice) (p := ⟨none, 0, 0⟩) rfl ?_
    refine st5.ld0 (s := .int .i64) (p := placeE D i) rfl ?_
    rw [if_neg hne]
    exact ⟨rfl, (St.dropL (l := [_, _, _]) st5).nosl 1⟩
  have hp0 : placeE D i = 0 := by simpa using heq
  have hoff : D.off = false ∧ 0 ≤ i ∧ i < D.blocks.length := by
    unfold placeE at hp0
    split at hp0
    · cases hp0
    · split at hp0
      · cases hp0
      · rename_i h1 h2
        exact ⟨by simpa using h1, by omega⟩
  rw [hp0, if_pos rfl]
  obtain ⟨di, sd⟩ := (St.init h).ex
  obtain ⟨⟨hb, hw⟩, sd⟩ := sd.p
  have hw2 : WS w di.ws di.wl := OwnS.ss wcells_len (by decide) (sd.bring 2).sl
  have hwn : di.wl.length ≤ 1000000000 := by rw [hw, List.length_map] at hwl; exact hwl
  have hfd : ∀ W, Grow w W → ∀ {n : Nat} {c : CS} {q : PayC c} {k : PayC c → Pr}, ([slV di.bs, slV di.ws, .bool D.off, .int .i64 D.ops, .int .i64 D.armed, slV di.ps] : List Value)[n]? = some (valC c q) → k q W → ldC c (Addr.add ⟨p, 0, none⟩ n) k W :=
    fun W g n c q k h1 h2 => (sd.box.grow g).ld h1 h2
  refine hfd _ st3.gro (n := 1) (c := .slice) (q := di.ws) rfl ?_
  refine callF_of (C71 di.ws w3) ?_
  rintro _ w4 ⟨rb, rfl, st4⟩
  have st5 : St noF w w4 [BoxA rb [slV di.ws], BoxA r2 [.int .i64 0], BoxA r1 [slV ⟨none, 0, 0⟩], BoxA r [.int .i64 i]] := st3.call0 st4
  refine ⟨94, _, rfl, by kernel_rfl, fun L hL hY => ?_⟩
  have st6 := (st5.mkobj (.deferred (some []))).mkobj (L .ready none)
  rw [World.size_alloc] at st6
  refine Calls.mono (C94 (.func (.yield (w4.heap.size + 1)) #[] #[]) rb di.ws di.wl _
    (fun j W => (∀ (k : Nat) x, j ≤ k → di.wl[k]? = some x → x.1 ≠ i) ∧ St noF w W [ObjA (w4.heap.size + 1) (L .ready none), ObjA w4.heap.size (.deferred (some [])), BoxA rb [slV di.ws], BoxA r2 [.int .i64 0], BoxA r1 [slV ⟨none, 0, 0⟩], BoxA r [.int .i64 i]])
    (fun W => ∃ t, St noF w W [ObjA (w4.heap.size + 1) (L .done (some (jcode none))), BoxA r2 [.int .i64 0], BoxA r1 [slV t], SlA 1 t ((rdD D i).map ub), ObjA w4.heap.size (.deferred (some []))])
    (fun j W hI => ⟨(hI.2.bring 2).box, hw2.grow hI.2.gro⟩) ⟨fun k x hk hx => ?_, st6⟩ hwn ?_) ?_
  · rw [List.getElem?_eq_none hk] at hx; cases hx
  · rintro j x W hx ⟨hno, sW⟩
    refine .inr ⟨w4.heap.size + 1, #[], rfl, ?_⟩
    refine hY W ((j : Int), x.1, x.2.1) _ sW.obj ?_
    refine St.nw sW fun b W1 s1 g1' _ => ?_
    refine s1.st0 trivial fun W2 s2 => ?_
    refine s2.st (i := 1) (by simp) trivial fun W3 s3 => ?_
    refine ⟨(s3.bring 1).obj, ?_⟩
    have s4 := (s3.bring 1).putObj (L .busy none)
    refine (s4.bring 1).ld (i := 0) (s := .int .i64) (p := x.1) rfl ?_
    refine (s4.bring 6).ld0 (s := .int .i64) (p := i) rfl ?_
    refine br_of (fun heq => ?_) (fun hne => ?_)
    · have hxi : x.1 = i := by simpa using heq
      refine (s4.bring 1).ld (i := 1) (s := .slice) (p := x.2.1) rfl ?_
      have hbx : BS w x.2.1 x.2.2 := by
        have h1 := (sd.bring 5).pick (i := j) (A := bytA x.2) (by simp [hx])
        exact h1.sl.bs
      have hx256 : x.2.2.length = 256 := by
        have := hok.wlen (x.1, x.2.2) (by rw [hw]; exact List.mem_map.2 ⟨x, List.mem_of_getElem? hx, rfl⟩)
        exact this.2.2
      have hbl := hbx.len
      refine callF_of (C15 x.2.1 x.2.2 _ (hbx.grow s4.gro) (by omega)) ?_
      rintro t W5 ⟨ht, _, g5⟩
      have s5 := s4.mksl g5 ht
      refine (s5.bring 6).st0 trivial fun W6 s6 => ?_
      refine (s6.bring 6).st0 trivial fun W7 s7 => ?_
      refine ⟨(s7.bring 3).obj, ?_⟩
      have s8 := (s7.bring 3).putObj (L .done (some (jcode none)))
      rw [if_neg (by simp)]
      refine ⟨t, ?_⟩
      have hrd : rdD D i = x.2.2 := by
        unfold rdD
        rw [← hxi, find_some hw hx fun k y hk hy => by rw [hxi]; exact hno k y hk hy]
        rfl
      rw [hrd]
      exact (s8.del 4).del 5 |>.del 5
    · have hxi : x.1 ≠ i := by simpa using hne
      refine ⟨s4.obj, ?_⟩
      have s5 := s4.putObj (L .ready none)
      rw [if_pos rfl]
      refine ⟨fun k y hk hy => ?_, s5.del 1⟩
      rcases Nat.lt_or_ge j k with h' | h'
      · exact hno k y h' hy
      · have : k = j := by omega
        subst this
        rw [hx] at hy
        simp only [Option.some.injEq] at hy
        rw [← hy]; exact hxi
  · rintro e W ⟨u, rfl, hI | hD⟩
    · refine ⟨⟨_, rfl⟩, .inl ⟨hI.2.obj, ?_⟩⟩
      have s7 := (hI.2.putObj (L .exhausted none)).drew
      refine hfd _ s7.gro (n := 0) (c := .slice) (q := di.bs) rfl ?_
      refine (s7.bring 5).ld0 (s := .int .i64) (p := i) rfl ?_
      have hbs := slA_len1 (sd.bring 1).sl
      have hbl : di.bl.length = D.blocks.length := by rw [hb]; simp
      rw [List.length_map] at hbs
      refine ⟨⟨by omega, by omega⟩, ?_⟩
      have hlt : i.toNat < di.bl.length := by omega
      have hbx : BS w di.bl[i.toNat].1 di.bl[i.toNat].2 := ((sd.bring 4).pick (i := i.toNat) (A := bytA di.bl[i.toNat]) (by simp [hlt])).sl.bs
      have hb256 : di.bl[i.toNat].2.length = 256 := hok.len _ (by rw [hb]; exact List.mem_map.2 ⟨_, List.getElem_mem hlt, rfl⟩)
      have hbxl := hbx.len
      refine at_own ((sd.bring 1).sl.grow s7.gro) (p := di.bl[i.toNat].1) (by simp [hlt, slV]) ?_
      refine callF_of (C15 di.bl[i.toNat].1 di.bl[i.toNat].2 _ (hbx.grow s7.gro) (by omega)) ?_
      rintro t W5 ⟨ht, _, g5⟩
      have s8 := s7.mksl g5 ht
      refine (s8.bring 5).st0 trivial fun W6 s9 => ?_
      refine (s9.bring 5).st0 trivial fun W7 s10 => ?_
      refine takes_of (s10.bring 4) fun W8 s11 => ?_
      refine (s11.bring 2).ld0 (s := .slice) (p := t) rfl ?_
      refine (s11.bring 1).ld0 (s := .int .i64) (p := 0) rfl ?_
      have hrd : rdD D i = di.bl[i.toNat].2 := by
        unfold rdD
        rw [find_none hw fun k y hy => hI.1 k y (Nat.zero_le _) hy, hb]
        simp [hlt]
      rw [hrd]
      exact ⟨rfl, St.dropR (l := [_]) (s11.bring 3)⟩
    · obtain ⟨t, sD⟩ := hD
      refine ⟨⟨_, rfl⟩, .inr ⟨none, sD.obj, ?_⟩⟩
      have s7 := sD.putObj (L .exhausted (some (jcode none)))
      refine takes_of (s7.bring 4) fun W2 s8 => ?_
      refine (s8.bring 3).ld0 (s := .slice) (p := t) rfl ?_
      refine (s8.bring 2).ld0 (s := .int .i64) (p := 0) rfl ?_
      exact ⟨rfl, St.dropR (l := [_]) (s8.bring 4)⟩
end Go.Proofs

/-! Layer 3, the disk: Write, over what counting an operation does. -/
namespace Go.Proofs
open Go.Eng

def addW (D : DM) (i : Int) (l : List UInt8) : DM := { D with wait := D.wait ++ [(i, l)] }

theorem NotAgg_wcells {x : Int × Sl × List UInt8} : ∀ v ∈ wcells x, NotAgg v := by
  intro v hv
  simp only [wcells, List.mem_cons, List.not_mem_nil, or_false] at hv
  rcases hv with rfl | rfl <;> trivial

/-- the pieces of a disk, put together -/
theorem mkDisk {F0 : Nat → Prop} {w0 w : World} {L : List HA} {p : Nat} {D : DM} (i : DI) (hb : D.blocks = i.bl.map (·.2)) (hw : D.wait = i.wl.map fun x => (x.1, x.2.2))
    (h : St F0 w0 w (BoxA p [slV i.bs, slV i.ws, .bool D.off, .int .i64 D.ops, .int .i64 D.armed, slV i.ps] :: SlA 1 i.bs (i.bl.map fun x => slV x.1) :: SlA 2 i.ws (i.wl.flatMap wcells) :: SlA 1 i.ps (D.picks.map ub) ::
      bigA (i.bl.map bytA) :: bigA (i.wl.map fun x => bytA x.2) :: L)) : St F0 w0 w (DiskA p D :: L) :=
  St.mkex i (h.mkp ⟨hb, hw⟩)

theorem wr_tail {F0 : Nat → Prop} {w0 w : World} {L : List HA} {p r : Nat} {D : DM} {di : DI} {i : Int} {t : Sl} {l : List UInt8} {k : Pr} (hb : D.blocks = di.bl.map (·.2)) (hw : D.wait = di.wl.map fun x => (x.1, x.2.2)) (hn : D.wait.length ≤ 1000000000)
    (st : St F0 w0 w (BoxA r [.int .i64 i, slV t] :: SlA 1 t (l.map ub) :: BoxA p [slV di.bs, slV di.ws, .bool D.off, .int .i64 D.ops, .int .i64 D.armed, slV di.ps] :: SlA 1 di.bs (di.bl.map fun x => slV x.1) :: SlA 2 di.ws (di.wl.flatMap wcells) :: SlA 1 di.ps (D.picks.map ub) ::
      bigA (di.bl.map bytA) :: bigA (di.wl.map fun x => bytA x.2) :: L)) (hk : ∀ w', St F0 w0 w' (DiskA p (addW D i l) :: L) → k w') :
    app 119 2 32 [.int .i64 0, .slice none 0 0] di.ws ⟨some ⟨r, 0, none⟩, 1, 1⟩ (fun t27 => Eng.st (Addr.add ⟨p, 0, none⟩ 1) (.slice t27.a t27.len t27.cap) k) w := by
  have hwl := (st.bring 4).sl.len
  rw [flatMap_len wcells_len] at hwl
  have hn2 : di.wl.length ≤ 1000000000 := by rw [hw, List.length_map] at hn; exact hn
  refine (st.bring 4).app (new := wcells (i, t, l)) (fun _ => rfl) (fun h => by cases h) (readsAt_row.2 st.box.row) NotAgg_wcells rfl (by decide) (by dsimp only; omega) fun r2 w2 s2 _ => ?_
  refine (s2.bring 3).st (i := 1) (by simp) trivial fun w3 s3 => ?_
  refine hk w3 (mkDisk (D := addW D i l) { di with ws := r2, wl := di.wl ++ [(i, t, l)] } hb (by simp [addW, hw]) ?_)
  dsimp only [addW]
  rw [List.flatMap_append, List.map_append]
  -- p, ws, r, t, bs, ps, bl, wl
  have s5 := (s3.sel [3, 7, 0, 4, 1, 5, 6] 8).push
  exact s5.sel [1, 2, 3, 4, 5, 0] 6

theorem C40 (p : Nat) (D D2 : DM) (i : Int) (b : Sl) (l : List UInt8) (g : Bool) (w : World) (F : Nat → Prop) (h : Has [DiskA p D] w F) (hb : Rd w F b l) (hok : D.ok) (hwl : D.wait.length ≤ 1000000000)
    (hg : placeE D i = 0 → l.length = 256 → ∀ W G, Has [DiskA p (addW D i l)] W G → Calls Try.prog 76 #[P0 p] W (RetT [.c .bool] fun r w' => r = g ∧ St G W w' [DiskA p D2])) :
    Calls Try.prog 40 #[P0 p, .int .i64 i, .slice b.a b.len b.cap] w (RetT [.c (.int .i64)] fun r w' =>
      if placeE D i ≠ 0 then r = placeE D i ∧ w = w' else if l.length ≠ 256 then r = 31 ∧ w = w' else r = (if g then 5 else 0) ∧ St F w w' [DiskA p D2]) := by
  refine F40_calls _ _ _ _ _ ?_
  unfold F40
  refine callF_of (C70 p D i w F h hok) ?_
  rintro _ _ ⟨rfl, rfl⟩
  refine br_of (fun hne => ?_) (fun heq => ?_)
  · have hne : placeE D i ≠ 0 := by simpa using hne
    dsimp only; rw [if_pos hne]; exact ⟨rfl, rfl⟩
  have hp0 : placeE D i = 0 := by simpa using heq
  have hbl := hb.bs.len
  refine br_of (fun hne => ?_) (fun heq => ?_)
  · have hne : l.length ≠ 256 := by simp at hne; omega
    dsimp only; rw [if_neg (by simp [hp0]), if_pos hne]; exact ⟨rfl, rfl⟩
  have hl : l.length = 256 := by simp at heq; omega
  refine jn_of (fun _ W => St F w W [DiskA p (addW D i l)]) ?_ ?_
  rotate_left
  · rintro ⟨⟩ W st
    obtain ⟨G, H, _, h1, _, _, _, hcl⟩ := st.call1
    refine callF_of (hg hp0 hl W G h1) ?_
    rintro r w' ⟨rfl, s2⟩
    have s3 := hcl w' _ s2
    have e1 : ¬ placeE D i ≠ 0 := by simp [hp0]
    have e2 : ¬ l.length ≠ 256 := by simp [hl]
    refine br_of (fun h => ?_) (fun h => ?_)
    · dsimp only
      rw [if_neg e1, if_neg e2, if_pos h]; exact ⟨rfl, s3⟩
    · dsimp only
      rw [if_neg e1, if_neg e2, if_neg (by simp [h])]; exact ⟨rfl, s3⟩
  obtain ⟨di, st⟩ := (St.init h).drew.ex
  obtain ⟨⟨hbl', hw⟩, st⟩ := st.p
  rw [drw_def]
  simp only [deref_some']
  have hclone : ∀ W L, St F w W L → ∀ k : Sl → Pr, (∀ t w', St F w w' (SlA 1 t (l.map ub) :: L) → k t w') → callF Try.prog 15 [.slice b.a b.len b.cap] [.c .slice] k W := by
    intro W L s k hk
    refine callF_of (C15 b l W (hb.at s) (by omega)) ?_
    rintro t w' ⟨ht, _, g5⟩
    exact hk t w' (s.mksl g5 ht)
  refine ⟨?_, ?_⟩
  · refine st.ld (i := 1) (s := .slice) (p := di.ws) rfl ?_
    refine hclone _ _ st _ fun t w1 s1 => ?_
    refine St.nw s1 fun r w2 s2 _ _ => ?_
    exact wr_tail hbl' hw hwl s2 fun w' s => s
  refine hclone _ _ st _ fun t w1 s1 => ?_
  refine ⟨?_, ?_, ?_⟩
  · refine (s1.bring 1).ld (i := 1) (s := .slice) (p := di.ws) rfl ?_
    refine St.nw s1 fun r w2 s2 _ _ => ?_
    exact wr_tail hbl' hw hwl s2 fun w' s => s
  · refine (s1.bring 1).ld (i := 1) (s := .slice) (p := di.ws) rfl ?_
    refine St.nw s1 fun r w2 s2 _ _ => ?_
    exact wr_tail hbl' hw hwl s2 fun w' s => s
  · refine St.nw s1 fun r w2 s2 _ _ => ?_
    refine (s2.bring 2).ld (i := 1) (s := .slice) (p := di.ws) rfl ?_
    exact wr_tail hbl' hw hwl s2 fun w' s => s
end Go.Proofs

/-! Layer 3, the disk: New; counting an operation where no power is armed to go. -/
namespace Go.Proofs
open Go.Eng

theorem C76a (p : Nat) (D : DM) (w : World) (F : Nat → Prop) (h : Has [DiskA p D] w F) (ha : D.armed = 0) (ho : 0 ≤ D.ops ∧ D.ops ≤ 1000000000000000) :
    Calls Try.prog 76 #[P0 p] w (RetT [.c .bool] fun r w' => r = false ∧ St F w w' [DiskA p { D with ops := D.ops + 1 }]) := by
  refine F76_calls _ _ _ ?_
  unfold F76
  obtain ⟨i, st⟩ := (St.init h).ex
  obtain ⟨⟨hb, hw⟩, st⟩ := st.p
  simp only [deref_some']
  refine st.ld (i := 3) (s := .int .i64) (p := D.ops) rfl ?_
  rw [show IntKind.wrap .i64 (D.ops + 1) = D.ops + 1 from wrap_i64 (by omega)]
  refine st.st (i := 3) (by simp) trivial fun w1 s1 => ?_
  refine s1.ld (i := 4) (s := .int .i64) (p := D.armed) rfl ?_
  refine br_t (by rw [ha]; rfl) ⟨trivial, ?_⟩
  exact mkDisk (D := { D with ops := D.ops + 1 }) i hb hw s1

def zero256 : List UInt8 := List.replicate 256 0
def newD (n : Nat) : DM := ⟨List.replicate n zero256, [], false, 0, 0, []⟩

theorem newD_ok {n : Nat} (h1 : 1 ≤ n) (h2 : n ≤ 2048) : (newD n).ok :=
  ⟨fun b hb => by simp only [newD, List.mem_replicate] at hb; rw [hb.2]; exact List.length_replicate, fun x hx => by simp [newD] at hx, by simpa [newD] using h1, by simpa [newD] using h2⟩

theorem zc_u8 (n : Nat) : zc [.int .u8 0] n = (List.replicate n (0 : UInt8)).map ub := by rw [zc_one, List.map_replicate]; rfl

theorem C30 (n : Int) (w : World) : Calls Try.prog 30 #[.int .i64 n] w (RetT [.c .ptr, .c (.int .i64)] fun r w' =>
    if 1 ≤ n ∧ n ≤ 2048 then r.2 = 0 ∧ ∃ p, r.1 = some ⟨p, 0, none⟩ ∧ St noF w w' [DiskA p (newD n.toNat)] else r = (none, 1) ∧ w = w') := by
  refine F30_calls _ _ _ ?_
  unfold F30
  refine jn_of (fun b W => b = decide (n < 1 ∨ n > 2048) ∧ w = W) ?_ ?_
  · refine br_of (fun h0 => ⟨?_, rfl⟩) (fun h0 => ⟨?_, rfl⟩)
    · simp only [decide_eq_true_eq] at h0
      symm; rw [decide_eq_true_eq]; exact .inl h0
    · simp only [decide_eq_false_iff_not] at h0
      rw [decide_eq_decide]; omega
  rintro _ _ ⟨rfl, rfl⟩
  refine br_of (fun hbad => ?_) (fun hgood => ?_)
  · simp only [decide_eq_true_eq] at hbad
    dsimp only
    rw [if_neg (by omega)]
    exact ⟨rfl, rfl⟩
  simp only [decide_eq_false_iff_not] at hgood
  obtain ⟨n, rfl⟩ : ∃ m : Nat, n = (m : Int) := ⟨n.toNat, by omega⟩
  simp only [Int.toNat_natCast]
  refine (St.init0 w).mkS (k := 1) rfl (by omega) (by omega) fun t w1 s1 htl => ?_
  refine St.nw s1 fun r w2 s2 _ _ => ?_
  simp only [deref_some']
  refine s2.ld (i := 0) (s := .slice) (p := t) rfl ?_
  rw [htl]
  rw [zc_one] at s2
  refine loop_of (fun z W => ∃ (j : Nat) (bl : List (Sl × List UInt8)), z = j ∧ j ≤ n ∧ bl.length = j ∧ bl.map (·.2) = List.replicate j zero256 ∧
      St noF w W [BoxA r [slV t, slV ⟨none, 0, 0⟩, .bool false, .int .i64 0, .int .i64 0, slV ⟨none, 0, 0⟩], SlA 1 t (bl.map (fun x => slV x.1) ++ List.replicate (n - j) (slV ⟨none, 0, 0⟩)), bigA (bl.map bytA)]) (fun z _ => n - z.toNat)
    ⟨0, [], rfl, by omega, rfl, rfl, (s2.nobig).sel [1, 2, 0] 3⟩ ?_
  rintro _ W ⟨j, bl, rfl, hj, hbl, hz, st⟩
  refine br_of (fun hlt => ?_) (fun hge => ?_)
  · simp only [decide_eq_true_eq] at hlt
    refine jn_of (fun _ W' => ∃ u, St noF w W' [BoxA r [slV t, slV ⟨none, 0, 0⟩, .bool false, .int .i64 0, .int .i64 0, slV ⟨none, 0, 0⟩], SlA 1 t ((bl ++ [(u, zero256)]).map (fun x => slV x.1) ++ List.replicate (n - (j + 1)) (slV ⟨none, 0, 0⟩)), bigA ((bl ++ [(u, zero256)]).map bytA)]) ?_ ?_
    rotate_left
    · rintro ⟨⟩ W' ⟨u, s3⟩
      rw [wrap_succ (by omega)]
      exact ⟨⟨j + 1, _, rfl, by omega, by simp [hbl], by rw [List.map_append, hz, List.replicate_succ']; rfl, s3⟩, by omega⟩
    have fin : ∀ u W2, St noF w W2 [SlA 1 u (zc [.int .u8 0] 256), BoxA r [slV t, slV ⟨none, 0, 0⟩, .bool false, .int .i64 0, .int .i64 0, slV ⟨none, 0, 0⟩], SlA 1 t (bl.map (fun x => slV x.1) ++ List.replicate (n - j) (slV ⟨none, 0, 0⟩)), bigA (bl.map bytA)] →
        (owe ((0 : Int) ≤ (j : Int) ∧ (j : Int) < (t.len : Int)) <| deref t.a fun a => Eng.st (a.add (Int.toNat (j : Int) * 1)) (.slice u.a u.len u.cap) fun W' => ∃ u, St noF w W' [BoxA r [slV t, slV ⟨none, 0, 0⟩, .bool false, .int .i64 0, .int .i64 0, slV ⟨none, 0, 0⟩], SlA 1 t ((bl ++ [(u, zero256)]).map (fun x => slV x.1) ++ List.replicate (n - (j + 1)) (slV ⟨none, 0, 0⟩)), bigA ((bl ++ [(u, zero256)]).map bytA)]) W2 := by
      intro u W2 s3
      refine ⟨⟨by omega, by rw [htl]; exact hlt⟩, ?_⟩
      rw [Int.toNat_natCast]
      refine put_own (s3.sel [2, 0, 1, 3] 4) (by simp; omega) trivial fun W3 s4 => ⟨u, ?_⟩
      rw [List.map_append, List.map_append]
      have e1 : (bl.map (fun x => slV x.1) ++ List.replicate (n - j) (slV ⟨none, 0, 0⟩)).set j (.slice u.a u.len u.cap) = bl.map (fun x => slV x.1) ++ [(u, zero256)].map (fun x => slV x.1) ++ List.replicate (n - (j + 1)) (slV ⟨none, 0, 0⟩) := by
        rw [List.set_append_right _ _ (by simp [hbl]), List.length_map, hbl, Nat.sub_self, show n - j = (n - (j + 1)) + 1 by omega, List.replicate_succ]
        simp [slV]
      rw [e1, zc_u8] at s4
      have s5 := (s4.sel [1, 3, 2, 0] 4).push
      exact s5.sel [1, 2, 0] 3
    have st := st.drew
    refine ⟨?_, ?_⟩
    · refine st.ld (i := 0) (s := .slice) (p := t) rfl ?_
      exact st.mkSi (k := 1) 256 rfl rfl (by omega) (by omega) fun u W2 s3 _ => fin u W2 s3
    · refine st.mkSi (k := 1) 256 rfl rfl (by omega) (by omega) fun u W2 s3 _ => ?_
      refine (s3.bring 1).ld (i := 0) (s := .slice) (p := t) rfl ?_
      exact fin u W2 s3
  · simp only [decide_eq_false_iff_not] at hge
    have : j = n := by omega
    subst this
    rw [if_pos (by omega)]
    refine ⟨trivial, r, rfl, ?_⟩
    rw [Nat.sub_self, List.replicate_zero, List.append_nil] at st
    refine mkDisk (D := newD j) ⟨t, ⟨none, 0, 0⟩, ⟨none, 0, 0⟩, bl, []⟩ hz.symm rfl ?_
    exact (((st.nosl 2).nosl 1).nobig).sel [3, 4, 2, 1, 5, 0] 6
end Go.Proofs

/-! Layer 3, the disk: what reaches the medium when the power goes; counting an operation. -/
namespace Go.Proofs
open Go.Eng

theorem cpy_mid {w : World} {n0 n : Nat} {t s' src : Sl} {vs new : List Value} {k : Pr} {o : Nat} (h : OwnS w n0 n t vs) (ho : o ≤ t.len) (ha : s'.a = t.a.map (·.add (o * n)) ∨ s'.len = 0) (hl : s'.len ≤ t.len - o)
    (hr : readsO w src.a new) (hn : src.a.isSome = true → new.length = src.len * n) (hn0 : src.a = none → src.len = 0) (hle : src.len ≤ s'.len) (hna : ∀ v ∈ new, NotAgg v)
    (hk : ∀ w', OwnS w' n0 n t (vs.take (o * n) ++ new ++ vs.drop (o * n + new.length)) → Mod t.blk w w' → w'.heap.size = w.heap.size → k w') : cpy n s' src k w := by
  have hnl : new.length = src.len * n := by
    cases hsa : src.a with
    | some _ => exact hn (by simp [hsa])
    | none =>
      rw [hsa] at hr
      have : new = [] := hr
      rw [this, hn0 hsa]; simp
  refine ⟨new, fun _ => by rw [hnl, show Nat.min src.len s'.len = src.len from Nat.min_eq_left hle], hr, ?_⟩
  by_cases hz : new = []
  · subst hz
    rw [stO_nil]
    refine hk w ?_ (Mod.refl _ _) rfl
    simpa using h
  · have hpos : src.len ≠ 0 := by
      intro h0
      rw [h0] at hnl
      simp at hnl
      exact hz hnl
    have ha' : s'.a = t.a.map (·.add (o * n)) := ha.resolve_right (by omega)
    rcases h.row with ⟨h1, h2, h3⟩ | ⟨b, off, spare, h1, h2, h3, h4, h5, h6⟩
    · omega
    · rw [ha', h1]
      show stL ((Addr.add ⟨b, off, none⟩ (o * n)).add 0) 0 new k w
      rw [add_zero', stL_shift, Nat.add_zero]
      have hlen := h.len
      have hb : o * n + new.length ≤ vs.length := by
        rw [hnl, hlen, ← Nat.add_mul]
        exact Nat.mul_le_mul_right n (by omega)
      refine stL_of rfl h5 (by rw [List.length_append]; omega) hna h4 ?_
      intro w' g1 g2 g3 g4
      refine hk w' ⟨?_, h.le, .inr ⟨b, off, spare, h1, h2, by rw [g3]; exact h3, g4 _ h4, ?_, ?_⟩⟩ (g2.mono fun c _ hc => ⟨_, h1, hc.symm⟩) g3
      · simp only [List.length_append, List.length_take, List.length_drop]
        omega
      · rw [List.take_append_of_le_length (by omega), List.drop_append_of_le_length (by omega)] at g1
        simpa [List.append_assoc] using g1
      · simp only [List.length_append, List.length_take, List.length_drop] at *
        omega

theorem BS.cut {w : World} {s : Sl} {l : List UInt8} (h : BS w s l) (m c : Nat) (hm : m ≤ s.len) : BS w ⟨s.a, m, c⟩ (l.take m) := by
  have hl := h.len
  refine ⟨by simp; omega, ?_⟩
  have hr := h.row
  rw [List.map_take]
  cases ha : s.a with
  | none =>
    rw [ha] at hr
    have : l.map ub = [] := hr
    show (l.map ub).take m = []
    rw [this, List.take_nil]
  | some ad =>
    rw [ha] at hr
    exact readsAt_row.2 ((readsAt_row.1 hr).take m)

theorem cpy_min {w : World} {n : Nat} {d s : Sl} {k : Pr} (h : cpy n d ⟨s.a, Nat.min s.len d.len, 0⟩ k w) : cpy n d s k w := by
  obtain ⟨vs, h1, h2, h3⟩ := h
  refine ⟨vs, fun hs => ?_, h2, h3⟩
  have := h1 hs
  dsimp only at this
  rwa [show Nat.min (Nat.min s.len d.len) d.len = Nat.min s.len d.len from Nat.min_eq_left (Nat.min_le_right _ _)] at this

/-! ### reaching the medium -/

def pbit (p : Int) (k : Nat) : Bool := bAnd .u8 (bShr .u8 p k) 1 == 1
def reachB (b l : List UInt8) (p : Int) : Nat → List UInt8
  | 0 => b
  | k + 1 => if pbit p k then lay (reachB b l p k) (64 * k) ((l.drop (64 * k)).take 64) else reachB b l p k

theorem reachB_len {b l : List UInt8} {p : Int} (hb : b.length = 256) (hl : l.length = 256) : ∀ k, k ≤ 4 → (reachB b l p k).length = 256
  | 0, _ => hb
  | k + 1, hk => by
    unfold reachB
    have := reachB_len (p := p) hb hl k (by omega)
    split
    · rw [lay_len (by simp; omega)]; exact this
    · exact this

def setBl (di : DI) (i : Nat) (b : List UInt8) : DI := { di with bl := di.bl.modify i fun x => (x.1, b) }
def setBk (D : DM) (i : Nat) (b : List UInt8) : DM := { D with blocks := D.blocks.set i b }

theorem modify_map2 {l : List (Sl × List UInt8)} {i : Nat} {b : List UInt8} : (l.modify i fun x => (x.1, b)).map (·.2) = (l.map (·.2)).set i b := by
  refine List.ext_getElem? fun j => ?_
  rw [List.getElem?_map, List.getElem?_modify, List.getElem?_set, List.length_map]
  by_cases h : i = j
  · subst h
    simp only [if_true]
    split
    · rename_i h
      simp [h]
    · rename_i h
      rw [List.getElem?_eq_none (by omega)]; rfl
  · simp [h]
theorem modify_map1 {l : List (Sl × List UInt8)} {i : Nat} {b : List UInt8} : (l.modify i fun x => (x.1, b)).map (fun x => slV x.1) = l.map fun x => slV x.1 := by
  refine List.ext_getElem? fun j => ?_
  rw [List.getElem?_map, List.getElem?_modify, List.getElem?_map]
  cases hj : l[j]? with
  | none => rfl
  | some x => by_cases h : i = j <;> simp [h]
theorem modify_set {l : List (Sl × List UInt8)} {i : Nat} {b : List UInt8} {x : Sl × List UInt8} (hx : l[i]? = some x) : (l.modify i fun x => (x.1, b)) = l.set i (x.1, b) := by
  refine List.ext_getElem? fun j => ?_
  rw [List.getElem?_modify, List.getElem?_set]
  by_cases h : i = j
  · subst h; rw [hx]; simp [(split_at hx).2]
  · simp [h]
theorem modify_same {l : List (Sl × List UInt8)} {i : Nat} {x : Sl × List UInt8} (hx : l[i]? = some x) : (l.modify i fun y => (y.1, x.2)) = l := by
  rw [modify_set hx]
  refine List.ext_getElem? fun j => ?_
  rw [List.getElem?_set]
  split
  · rename_i h; subst h; rw [if_pos (split_at hx).2, hx]
  · rfl

/-- the disk's pieces as they stand in a walk -/
def dpc (p : Nat) (D : DM) (i : DI) : List HA :=
  [BoxA p [slV i.bs, slV i.ws, .bool D.off, .int .i64 D.ops, .int .i64 D.armed, slV i.ps], SlA 1 i.bs (i.bl.map fun x => slV x.1), SlA 2 i.ws (i.wl.flatMap wcells), SlA 1 i.ps (D.picks.map ub), bigA (i.bl.map bytA), bigA (i.wl.map fun x => bytA x.2)]

theorem C103 (p : Nat) (D : DM) (di : DI) (i j : Nat) (s : Sl) (l : List UInt8) (x : Sl × List UInt8) (pick : Int) (w : World) (F : Nat → Prop) (h : Has (dpc p D di) w F) (hx : di.bl[i]? = some x) (hj : di.wl[j]? = some ((i : Int), s, l)) (hx256 : x.2.length = 256) (hl256 : l.length = 256) :
    Calls Try.prog 103 #[P0 p, .agg #[.int .i64 (i : Int), .slice s.a s.len s.cap], .int .u8 pick] w (RetT [] fun _ w' => St F w w' (dpc p D (setBl di i (reachB x.2 l pick 4)))) := by
  refine F103_calls _ _ _ _ _ _ ?_
  unfold F103
  refine St.nw (St.init h) fun r w1 s1 _ _ => ?_
  simp only [deref_some']
  refine loop_of (fun z W => ∃ k : Nat, z = k ∧ k ≤ 4 ∧ St F w W (BoxA r [.int .i64 (i : Int), slV s] :: dpc p D (setBl di i (reachB x.2 l pick k)))) (fun z _ => 4 - z.toNat) ⟨0, rfl, by omega, ?_⟩ ?_
  · have : setBl di i (reachB x.2 l pick 0) = di := by
      unfold setBl reachB
      rw [modify_same hx]
    rw [this]
    exact s1
  rintro _ W ⟨k, rfl, hk, st⟩
  refine br_of (fun hlt => ?_) (fun hge => ?_)
  rotate_left
  · simp only [decide_eq_false_iff_not] at hge
    have : k = 4 := by omega
    subst this
    exact st.drop
  simp only [decide_eq_true_eq] at hlt
  refine jn_of (fun _ W' => St F w W' (BoxA r [.int .i64 (i : Int), slV s] :: dpc p D (setBl di i (reachB x.2 l pick (k + 1))))) ?_ ?_
  rotate_left
  · rintro ⟨⟩ W' s2
    rw [wrap_succ (by omega)]
    exact ⟨⟨k + 1, rfl, by omega, s2⟩, by omega⟩
  refine ⟨by omega, ?_⟩
  have hr256 : (reachB x.2 l pick k).length = 256 := reachB_len hx256 hl256 k (by omega)
  refine br_of (fun hbit => ?_) (fun hbit => ?_)
  rotate_left
  · have : reachB x.2 l pick (k + 1) = reachB x.2 l pick k := by
      show (if pbit pick k then _ else _) = _
      rw [if_neg (by unfold pbit; rw [hbit]; simp)]
    rw [this]
    exact st
  have hr1 : reachB x.2 l pick (k + 1) = lay (reachB x.2 l pick k) (64 * k) ((l.drop (64 * k)).take 64) := by
    show (if pbit pick k then _ else _) = _
    rw [if_pos (show pbit pick k = true from hbit)]
  rw [drw_def]
  have sd := st.drew
  have hil := (split_at hx).2
  have hx2 : (setBl di i (reachB x.2 l pick k)).bl[i]? = some (x.1, reachB x.2 l pick k) := by
    show (di.bl.modify i _)[i]? = _
    rw [List.getElem?_modify, hx]; simp
  refine (sd.bring 1).ld (i := 0) (s := .slice) (p := di.bs) rfl ?_
  refine sd.ld (i := 0) (s := .int .i64) (p := (i : Int)) rfl ?_
  have hbsl := slA_len1 (sd.bring 2).sl
  rw [List.length_map] at hbsl
  have hbl : (setBl di i (reachB x.2 l pick k)).bl.length = di.bl.length := by show (di.bl.modify i _).length = _; simp
  refine ⟨⟨by omega, by show (i : Int) < (di.bs.len : Int); have : di.bs.len = di.bl.length := hbsl.trans hbl; omega⟩, ?_⟩
  refine at_own (sd.bring 2).sl (p := x.1) (by rw [Int.toNat_natCast, List.getElem?_map, hx2]; rfl) ?_
  have sp := (sd.bring 5).pick (i := i) (A := bytA (x.1, reachB x.2 l pick k)) (by rw [List.getElem?_map, hx2]; rfl)
  have hxl := slA_len1 sp.sl
  rw [List.length_map, hr256] at hxl
  have hxc := sp.sl.le
  dsimp only at hxl hxc
  rw [show IntKind.wrap .i64 ((k : Int) * 64) = ((64 * k : Nat) : Int) by rw [wrap_i64 (by omega)]; omega]
  rw [show IntKind.wrap .i64 (((64 * k : Nat) : Int) + 64) = ((64 * k + 64 : Nat) : Int) by rw [wrap_i64 (by omega)]; omega]
  refine ⟨by simp, by simp, fun y hy => ?_, fun y hy => ?_, ?_⟩
  · simp only [Option.some.injEq] at hy; subst hy
    simp only [Option.map_none, Option.getD_none]
    omega
  · simp only [Option.some.injEq] at hy; subst hy
    simp only [Option.map_some, Option.getD_some, Int.toNat_natCast]
    omega
  simp only [Option.map_none, Option.map_some, Option.getD_none, Option.getD_some, Int.toNat_natCast, Nat.mul_one]
  refine sd.ld (i := 1) (s := .slice) (p := s) rfl ?_
  have hsb : BS _ s l := ((sd.bring 6).pick (i := j) (A := bytA (s, l)) (by simp [setBl, hj])).sl.bs
  have hsl := hsb.len
  refine slc_lo (by omega) (by omega) ?_
  simp only [Int.toNat_natCast, Nat.mul_one]
  refine cpy_min ?_
  have hsrc : BS W.drew ⟨if s.cap = 64 * k then s.a else s.a.map (·.add (64 * k)), s.len - 64 * k, s.cap - 64 * k⟩ (l.drop (64 * k)) := by
    refine ⟨by simp; omega, ?_⟩
    have hrow := hsb.row
    have hscap : 64 * k < s.cap := by
      have := ((sd.bring 6).pick (i := j) (A := bytA (s, l)) (by simp [setBl, hj])).sl.le
      dsimp only at this
      omega
    show readsO W.drew (if s.cap = 64 * k then s.a else s.a.map (·.add (64 * k))) ((l.drop (64 * k)).map ub)
    rw [if_neg (by omega), List.map_drop]
    cases hsa : s.a with
    | none =>
      have := hsb.none_len hsa
      omega
    | some ad =>
      rw [hsa] at hrow
      exact readsAt_row.2 ((readsAt_row.1 hrow).drop _)
  have hcut := BS.cut hsrc 64 0 (by dsimp only; omega)
  have hm64 : Nat.min (s.len - 64 * k) (64 * k + 64 - 64 * k) = 64 := by
    show min _ _ = 64
    omega
  dsimp only at hm64 ⊢
  rw [hm64]
  refine cpy_mid sp.sl (o := 64 * k) (by dsimp only; omega) (.inl ?_) (by dsimp only; omega) hcut.row (fun _ => ?_) hcut.none_len (by dsimp only; omega) NotAgg_ub ?_
  · dsimp only
    rw [if_neg (by omega), Nat.mul_one]
  · simp only [List.length_map, List.length_take, List.length_drop]; omega
  · intro w' g1 g2 g3
    have s3 := sp.slm g2 (us := (reachB x.2 l pick (k + 1)).map ub) ?_ fun _ h => .inl h
    · have s4 := St.unpick (A := bytA (x.1, reachB x.2 l pick (k + 1))) s3 (by rw [List.length_map, hbl]; exact hil)
      have e : ((setBl di i (reachB x.2 l pick k)).bl.map bytA).set i (bytA (x.1, reachB x.2 l pick (k + 1))) = (setBl di i (reachB x.2 l pick (k + 1))).bl.map bytA := by
        show ((di.bl.modify i _).map bytA).set i _ = (di.bl.modify i _).map bytA
        rw [modify_set hx, modify_set hx, ← List.map_set, List.set_set]
      rw [e] at s4
      have e2 : (setBl di i (reachB x.2 l pick k)).bl.map (fun x => slV x.1) = (setBl di i (reachB x.2 l pick (k + 1))).bl.map (fun x => slV x.1) := by
        show (di.bl.modify i _).map _ = (di.bl.modify i _).map _
        rw [modify_map1, modify_map1]
      have s5 := s4.sel [1, 2, 3, 4, 5, 0, 6] 7
      rw [e2] at s5
      exact s5
    · have hh : ((reachB x.2 l pick k).map ub).take (64 * k * 1) ++ ((l.drop (64 * k)).take 64).map ub ++ ((reachB x.2 l pick k).map ub).drop (64 * k * 1 + (((l.drop (64 * k)).take 64).map ub).length) = (reachB x.2 l pick (k + 1)).map ub := by
        rw [hr1]
        unfold lay
        simp only [Nat.mul_one, List.map_append, List.map_take, List.map_drop, List.length_map, List.length_take, List.length_drop]
      rw [← hh]
      exact g1
end Go.Proofs

/-! Layer 3, the disk: the power's going; counting an operation; Write. -/
namespace Go.Proofs
open Go.Eng

def fallGo : List (List UInt8) → List (Int × List UInt8) → List UInt8 → List (List UInt8)
  | bl, [], _ => bl
  | bl, _ :: _, [] => bl
  | bl, x :: ws, p :: ps => fallGo (bl.set x.1.toNat (reachB ((bl[x.1.toNat]?).getD []) x.2 p.toNat 4)) ws ps

def fallsD (D : DM) (pl : List UInt8) : DM := ⟨fallGo D.blocks D.wait pl, [], true, D.ops, 0, []⟩

def goesD (D : DM) : Bool × DM :=
  if D.armed = 0 then (false, { D with ops := D.ops + 1 })
  else if D.armed > 1 then (false, { D with ops := D.ops + 1, armed := D.armed - 1 })
  else (true, fallsD { D with ops := D.ops + 1 } D.picks)

theorem at_bs {w : World} {s : Sl} {l : List UInt8} {j : Nat} {b : UInt8} {k : Int → Pr} (h : BS w s l) (hb : l[j]? = some b) (hk : k (b.toNat : Int) w) :
    (owe ((0 : Int) ≤ (j : Int) ∧ (j : Int) < (s.len : Int)) <| deref s.a fun a => ldC (.int .u8) (a.add (Int.toNat (j : Int) * 1)) k) w := by
  obtain ⟨ad, h1, h2⟩ := h.get hb
  have hl := h.len
  have := (split_at hb).2
  refine ⟨⟨by omega, by omega⟩, ?_⟩
  rw [h1]
  simp only [deref_some', Int.toNat_natCast, Nat.mul_one]
  exact ldC_of (s := .int .u8) (p := (b.toNat : Int)) h2 hk

/-- an element of two cells, as it is printed -/
theorem at_w {w : World} {s : Sl} {wl : List (Int × Sl × List UInt8)} {j : Nat} {x : Int × Sl × List UInt8} {k : Int × Sl → Pr} (h : OwnS w 0 2 s (wl.flatMap wcells)) (hx : wl[j]? = some x) (hk : k (x.1, x.2.1) w) :
    (owe ((0 : Int) ≤ (j : Int) ∧ (j : Int) < (s.len : Int)) <| deref s.a fun a => ldA [.int .i64, .slice] (a.add (Int.toNat (j : Int) * 2)) k) w := by
  have hss : WS w s wl := OwnS.ss wcells_len (by decide) h
  have hl := hss.len
  have := (split_at hx).2
  refine ⟨⟨by omega, by omega⟩, ?_⟩
  obtain ⟨ad, ha, hrow⟩ := hss.get (n := 2) wcells_len hx (by decide)
  rw [ha]
  simp only [deref_some', Int.toNat_natCast]
  exact ldA_of (p := (x.1, x.2.1)) (show readsAt w (ad.add (j * 2)) 0 (valA [.int .i64, .slice] (x.1, x.2.1)) from readsAt_row.2 hrow) hk

structure SameDI (di dj : DI) : Prop where
  bs : dj.bs = di.bs
  ws : dj.ws = di.ws
  ps : dj.ps = di.ps
  wl : dj.wl = di.wl

theorem C95 (p : Nat) (D : DM) (di : DI) (q : Sl) (pl : List UInt8) (w : World) (F : Nat → Prop) (h : Has (dpc p D di) w F) (hb : D.blocks = di.bl.map (·.2)) (hw : D.wait = di.wl.map fun x => (x.1, x.2.2)) (hok : D.ok) (hwl : D.wait.length ≤ 1000000000)
    (hq : ∀ W dj L, SameDI di dj → St F w W (dpc p D dj ++ L) → BS W q pl) :
    Calls Try.prog 95 #[P0 p, .slice q.a q.len q.cap] w (RetT [] fun _ w' => St F w w' [DiskA p (fallsD D pl)]) := by
  refine F95_calls _ _ _ _ ?_
  unfold F95
  have st := St.init h
  simp only [deref_some']
  refine st.ld (i := 1) (s := .slice) (p := di.ws) rfl ?_
  have hwn : di.wl.length ≤ 1000000000 := by rw [hw, List.length_map] at hwl; exact hwl
  have hwsl : di.ws.len = di.wl.length := (OwnS.ss (f := wcells) wcells_len (by decide) (st.bring 2).sl).len
  refine loop_of (fun z W => ∃ (j : Nat) (dj : DI), z = j ∧ j ≤ di.wl.length ∧ SameDI di dj ∧ (dj.bl.map (·.2)).length = D.blocks.length ∧ (∀ b ∈ dj.bl.map (·.2), b.length = 256) ∧ fallGo (dj.bl.map (·.2)) (D.wait.drop j) (pl.drop j) = fallGo D.blocks D.wait pl ∧ St F w W (dpc p D dj)) (fun z _ => di.wl.length - z.toNat)
    ⟨0, di, rfl, by omega, ⟨rfl, rfl, rfl, rfl⟩, by rw [hb], by rw [← hb]; exact hok.len, by rw [hb]; rfl, st⟩ ?_
  rintro _ W ⟨j, dj, rfl, hj, hsame, hbl, hb256, hgo, s1⟩
  have hqs := hq W dj [] hsame s1
  have hql := hqs.len
  refine br_of (fun hlt => ?_) (fun hge => ?_)
  · simp only [decide_eq_true_eq] at hlt
    have hjl : j < di.wl.length := by omega
    refine jn_of (fun _ W' => ∃ dj : DI, SameDI di dj ∧ (dj.bl.map (·.2)).length = D.blocks.length ∧ (∀ b ∈ dj.bl.map (·.2), b.length = 256) ∧ fallGo (dj.bl.map (·.2)) (D.wait.drop (j + 1)) (pl.drop (j + 1)) = fallGo D.blocks D.wait pl ∧ St F w W' (dpc p D dj)) ?_ ?_
    rotate_left
    · rintro ⟨⟩ W' ⟨dk, h1, h2, h3, h4, s2⟩
      rw [wrap_succ (by omega)]
      exact ⟨⟨j + 1, dk, rfl, hjl, h1, h2, h3, h4, s2⟩, by omega⟩
    obtain ⟨x, hxx⟩ : ∃ x, di.wl[j]? = some x := ⟨di.wl[j], by simp [hjl]⟩
    have hDj : D.wait[j]? = some (x.1, x.2.2) := by rw [hw, List.getElem?_map, hxx]; rfl
    have hxw := hok.wlen _ (List.mem_of_getElem? hDj)
    dsimp only at hxw
    have hdrop : D.wait.drop j = (x.1, x.2.2) :: D.wait.drop (j + 1) := by
      have := (split_at hDj).2
      rw [List.getElem?_eq_getElem this, Option.some.injEq] at hDj
      rw [List.drop_eq_getElem_cons this, hDj]
    refine at_w (x := x) (s := di.ws) (wl := di.wl) (by have := (s1.bring 2).sl; rw [hsame.ws, hsame.wl] at this; exact this) hxx ?_
    refine St.nw s1 fun r w2 s2 _ _ => ?_
    refine s2.st0 trivial fun w3 s3 => ?_
    refine s3.st (i := 1) (by simp) trivial fun w4 s4 => ?_
    refine br_of (fun hlt2 => ?_) (fun hge2 => ?_)
    · simp only [decide_eq_true_eq] at hlt2
      have hjp : j < pl.length := by omega
      rw [drw_def]
      have s5 := s4.drew
      have hpick : pl.drop j = pl[j] :: pl.drop (j + 1) := List.drop_eq_getElem_cons hjp
      refine ldA_of (p := (x.1, x.2.1)) (show readsAt _ ⟨r, 0, none⟩ 0 (valA [.int .i64, .slice] (x.1, x.2.1)) from readsAt_row.2 s5.box.row) ?_
      refine at_bs (b := pl[j]) (hq _ dj [_] hsame (s5.sel [1, 2, 3, 4, 5, 6, 0] 7)) (by simp [hjp]) ?_
      obtain ⟨G, H, g1, _, _, _, gc⟩ := St.call (dpc p D dj) (s5.drop)
      obtain ⟨i, hi⟩ := Int.eq_ofNat_of_zero_le hxw.1
      have hil : i < dj.bl.length := by rw [List.length_map] at hbl; omega
      obtain ⟨y, hy⟩ : ∃ y, dj.bl[i]? = some y := ⟨dj.bl[i], by simp [hil]⟩
      have hy256 : y.2.length = 256 := hb256 _ (List.mem_map.2 ⟨y, List.mem_of_getElem? hy, rfl⟩)
      have hxj : dj.wl[j]? = some ((i : Int), x.2.1, x.2.2) := by rw [hsame.wl, hxx, ← hi]
      dsimp only
      rw [hi]
      refine callF_of (C103 p D dj i j x.2.1 x.2.2 y (pl[j].toNat : Int) _ G g1 hy hxj hy256 hxw.2.2) ?_
      rintro ⟨⟩ w6 s6
      have s7 := gc _ _ s6
      have hset : (setBl dj i (reachB y.2 x.2.2 (pl[j].toNat : Int) 4)).bl.map (·.2) = (dj.bl.map (·.2)).set i (reachB y.2 x.2.2 (pl[j].toNat : Int) 4) := modify_map2
      refine ⟨setBl dj i (reachB y.2 x.2.2 (pl[j].toNat : Int) 4), ⟨hsame.bs, hsame.ws, hsame.ps, hsame.wl⟩, ?_, ?_, ?_, ?_⟩
      · rw [hset, List.length_set]; exact hbl
      · intro b hbm
        rw [hset] at hbm
        rcases List.mem_or_eq_of_mem_set hbm with h | rfl
        · exact hb256 b h
        · exact reachB_len hy256 hxw.2.2 4 (by omega)
      · rw [← hgo, hset, hdrop, hpick]
        show _ = fallGo ((dj.bl.map (·.2)).set x.1.toNat _) _ _
        rw [hi]
        simp only [Int.ofNat_eq_natCast, Int.toNat_natCast, List.getElem?_map, hy, Option.map_some, Option.getD_some]
      · rw [List.append_nil] at s7; exact s7
    · simp only [decide_eq_false_iff_not] at hge2
      refine ⟨dj, hsame, hbl, hb256, ?_, s4.drop⟩
      rw [← hgo, hdrop, List.drop_eq_nil_of_le (show pl.length ≤ j by omega), List.drop_eq_nil_of_le (show pl.length ≤ j + 1 by omega)]
      cases hh : D.wait.drop (j + 1) <;> rfl
  · simp only [decide_eq_false_iff_not] at hge
    have : j = di.wl.length := by omega
    have hnil : D.wait.drop j = [] := by rw [hw, this]; exact List.drop_eq_nil_of_le (by simp)
    refine s1.st (i := 1) (by simp) trivial fun w2 s2 => ?_
    refine s2.st (i := 5) (by simp) trivial fun w3 s3 => ?_
    refine s3.st (i := 2) (by simp) trivial fun w4 s4 => ?_
    refine s4.st (i := 4) (by simp) trivial fun w5 s5 => ?_
    refine mkDisk (D := fallsD D pl) ⟨dj.bs, ⟨none, 0, 0⟩, ⟨none, 0, 0⟩, dj.bl, []⟩ ?_ rfl ?_
    · rw [hnil] at hgo
      have hf : fallGo (dj.bl.map (·.2)) [] (pl.drop j) = dj.bl.map (·.2) := by unfold fallGo; rfl
      rw [hf] at hgo
      exact hgo.symm
    · exact (((s5.nosl 2).nosl 1).nobig).sel [3, 4, 2, 1, 7, 0] 9

theorem C76 (p : Nat) (D : DM) (w : World) (F : Nat → Prop) (h : Has [DiskA p D] w F) (hok : D.ok) (hwl : D.wait.length ≤ 1000000000) (ha : 0 ≤ D.armed) (ha2 : D.armed ≤ 9223372036854775807) (ho : 0 ≤ D.ops ∧ D.ops ≤ 1000000000000000) :
    Calls Try.prog 76 #[P0 p] w (RetT [.c .bool] fun r w' => r = (goesD D).1 ∧ St F w w' [DiskA p (goesD D).2]) := by
  refine F76_calls _ _ _ ?_
  unfold F76
  obtain ⟨i, st⟩ := (St.init h).ex
  obtain ⟨⟨hb, hw⟩, st⟩ := st.p
  simp only [deref_some']
  refine st.ld (i := 3) (s := .int .i64) (p := D.ops) rfl ?_
  rw [show IntKind.wrap .i64 (D.ops + 1) = D.ops + 1 from wrap_i64 (by omega)]
  refine st.st (i := 3) (by simp) trivial fun w1 s1 => ?_
  refine s1.ld (i := 4) (s := .int .i64) (p := D.armed) rfl ?_
  refine br_of (fun h0 => ?_) (fun h0 => ?_)
  · have h0 : D.armed = 0 := by simpa using h0
    have hg : goesD D = (false, { D with ops := D.ops + 1 }) := by unfold goesD; rw [if_pos h0]
    rw [hg]
    exact ⟨rfl, mkDisk (D := { D with ops := D.ops + 1 }) i hb hw s1⟩
  have h0 : D.armed ≠ 0 := by simpa using h0
  refine s1.ld (i := 4) (s := .int .i64) (p := D.armed) rfl ?_
  rw [show IntKind.wrap .i64 (D.armed - 1) = D.armed - 1 from wrap_i64 (by omega)]
  refine s1.st (i := 4) (by simp) trivial fun w2 s2 => ?_
  refine s2.ld (i := 4) (s := .int .i64) (p := D.armed - 1) rfl ?_
  refine br_of (fun h1 => ?_) (fun h1 => ?_)
  · simp only [gt_iff_lt, decide_eq_true_eq] at h1
    have hg : goesD D = (false, { D with ops := D.ops + 1, armed := D.armed - 1 }) := by unfold goesD; rw [if_neg h0, if_pos (by omega)]
    rw [hg]
    exact ⟨rfl, mkDisk (D := { D with ops := D.ops + 1, armed := D.armed - 1 }) i hb hw s2⟩
  simp only [gt_iff_lt, decide_eq_false_iff_not] at h1
  have hg : goesD D = (true, fallsD { D with ops := D.ops + 1 } D.picks) := by unfold goesD; rw [if_neg h0, if_neg (by omega)]
  rw [hg]
  refine s2.ld (i := 5) (s := .slice) (p := i.ps) rfl ?_
  obtain ⟨G, H, g1, _, _, _, gc⟩ := St.call (dpc p { D with ops := D.ops + 1, armed := D.armed - 1 } i) (l := []) s2
  refine callF_of (C95 p { D with ops := D.ops + 1, armed := D.armed - 1 } i i.ps D.picks w2 G g1 hb hw ⟨hok.len, hok.wlen, hok.pos, hok.le⟩ hwl fun W dj L hs s3 => ?_) ?_
  · have := (s3.bring 3).sl.bs
    rw [hs.ps] at this
    exact this
  rintro ⟨⟩ w3 s3
  exact ⟨rfl, gc _ _ s3⟩

def writeD (D : DM) (i : Int) (l : List UInt8) : Int × DM :=
  if placeE D i ≠ 0 then (placeE D i, D) else if l.length ≠ 256 then (31, D) else (if (goesD (addW D i l)).1 then 5 else 0, (goesD (addW D i l)).2)

theorem addW_ok {D : DM} (h : D.ok) {i : Int} {l : List UInt8} (hi : 0 ≤ i ∧ i < D.blocks.length) (hl : l.length = 256) : (addW D i l).ok :=
  ⟨h.len, fun x hx => by
    rcases List.mem_append.1 hx with h1 | h1
    · exact h.wlen x h1
    · rw [List.mem_singleton] at h1; subst h1; exact ⟨hi.1, hi.2, hl⟩, h.pos, h.le⟩

theorem C40' (p : Nat) (D : DM) (i : Int) (b : Sl) (l : List UInt8) (w : World) (F : Nat → Prop) (h : Has [DiskA p D] w F) (hb : Rd w F b l) (hok : D.ok) (hwl : D.wait.length ≤ 100000000) (ha : 0 ≤ D.armed) (ha2 : D.armed ≤ 9223372036854775807) (ho : 0 ≤ D.ops ∧ D.ops ≤ 1000000000000000) :
    Calls Try.prog 40 #[P0 p, .int .i64 i, .slice b.a b.len b.cap] w (RetT [.c (.int .i64)] fun r w' => r = (writeD D i l).1 ∧ St F w w' [DiskA p (writeD D i l).2]) := by
  refine Calls.mono (C40 p D (goesD (addW D i l)).2 i b l (goesD (addW D i l)).1 w F h hb hok (by omega) fun hp hl W G g1 => ?_) ?_
  · obtain ⟨_, p1, p2⟩ : D.off = false ∧ 0 ≤ i ∧ i < D.blocks.length := by
      unfold placeE at hp
      split at hp
      · cases hp
      · split at hp
        · cases hp
        · rename_i h1 h2
          exact ⟨by simpa using h1, by omega⟩
    exact C76 p (addW D i l) W G g1 (addW_ok hok ⟨p1, p2⟩ hl) (by show (D.wait ++ [_]).length ≤ _; rw [List.length_append, List.length_singleton]; omega) ha ha2 ho
  · rintro e w' ⟨r, he, hr⟩
    refine ⟨r, he, ?_⟩
    unfold writeD
    by_cases h1 : placeE D i ≠ 0
    · rw [if_pos h1] at hr ⊢
      obtain ⟨rfl, rfl⟩ := hr
      exact ⟨rfl, St.init h⟩
    · rw [if_neg h1] at hr ⊢
      by_cases h2 : l.length ≠ 256
      · rw [if_pos h2] at hr ⊢
        obtain ⟨rfl, rfl⟩ := hr
        exact ⟨rfl, St.init h⟩
      · rw [if_neg h2] at hr ⊢
        exact hr
end Go.Proofs
