import Derived.Test.YtlenkeefncbmcaaKA
import Derived.Test.YtlenkeefncbmcaaFA
set_option linter.unusedVariables false
set_option linter.unusedSimpArgs false
set_option linter.unusedSectionVars false
/-! Layer 3, the document's disk: it has the disk's cells. New, Read, counting an operation. -/
namespace Go.Proofs
open Go.Eng

/-- an element more of slices -/
theorem push_slice {F0 : Nat → Prop} {w0 w : World} {L : List HA} {E p r : Nat} {bs t : Sl} {bl : List (Sl × List UInt8)} {l : List UInt8} {rest : List Value} {k : Pr} (hn : bl.length ≤ 100000000)
    (st : St F0 w0 w (BoxA r [slV t] :: SlA 1 t (l.map ub) :: BoxA p (slV bs :: rest) :: SlA 1 bs (bl.map fun x => slV x.1) :: bigA (bl.map bytA) :: L))
    (hk : ∀ bs' w', St F0 w0 w' (BoxA p (slV bs' :: rest) :: SlA 1 bs' ((bl ++ [(t, l)]).map fun x => slV x.1) :: bigA ((bl ++ [(t, l)]).map bytA) :: L) → k w') :
    app E 1 24 [.slice none 0 0] bs ⟨some ⟨r, 0, none⟩, 1, 1⟩ (fun t26 => Eng.st (Addr.add ⟨p, 0, none⟩ 0) (.slice t26.a t26.len t26.cap) k) w := by
  have hbl := slA_len1 (st.bring 3).sl
  rw [List.length_map] at hbl
  refine (st.bring 3).app (new := [slV t]) (fun _ => rfl) (fun h => by cases h) (readsAt_row.2 st.box.row) (by simp) rfl (by decide) (by dsimp only; omega) fun r2 w2 s2 _ => ?_
  refine (s2.bring 3).st (i := 0) (by simp) trivial fun w3 s3 => ?_
  refine hk r2 w3 ?_
  rw [List.map_append, List.map_append]
  have s4 := (s3.sel [3, 4, 0, 1] 5).push (A := bytA (t, l))
  exact s4.sel [1, 2, 0] 3

theorem C43 (n : Int) (w : World) : Calls Try.prog 43 #[.int .i64 n] w (RetT [.c .ptr, .c (.int .i64)] fun r w' =>
    if 1 ≤ n ∧ n ≤ 2048 then r.2 = 0 ∧ ∃ p, r.1 = some ⟨p, 0, none⟩ ∧ St noF w w' [DiskA p (newD n.toNat)] else r = (none, 1) ∧ w = w') := by
  refine F43_calls _ _ _ ?_
  unfold F43
  refine jn_of (fun b W => b = decide (n < 1 ∨ n > 2048) ∧ w = W) ?_ ?_
  · refine br_of (fun h0 => ⟨?_, rfl⟩) (fun h0 => ⟨?_, rfl⟩)
    · simp only [decide_eq_true_eq] at h0
      symm; rw [decide_eq_true_eq]; exact .inl h0
    · simp only [decide_eq_false_iff_not] at h0
      rw [decide_eq_decide]; omega
  rintro _ _ ⟨rfl, rfl⟩
  refine br_of (fun hbad => ?_) (fun hgood => ?_)
  · simp only [decide_eq_true_eq] at hbad
    dsimp only
    rw [if_neg (by omega)]
    exact ⟨rfl, rfl⟩
  simp only [decide_eq_false_iff_not] at hgood
  obtain ⟨n, rfl⟩ : ∃ m : Nat, n = (m : Int) := ⟨n.toNat, by omega⟩
  refine St.nw (St.init0 w) fun r w2 s2 _ _ => ?_
  simp only [deref_some']
  refine loop_of (fun z W => ∃ (j : Nat) (bs : Sl) (bl : List (Sl × List UInt8)), z = j ∧ j ≤ n ∧ bl.length = j ∧ bl.map (·.2) = List.replicate j zero256 ∧
      St noF w W [BoxA r [slV bs, slV ⟨none, 0, 0⟩, .bool false, .int .i64 0, .int .i64 0, slV ⟨none, 0, 0⟩], SlA 1 bs (bl.map (fun x => slV x.1)), bigA (bl.map bytA)]) (fun z _ => n - z.toNat)
    ⟨0, ⟨none, 0, 0⟩, [], rfl, by omega, rfl, rfl, (s2.nobig.nosl 1).sel [2, 0, 1] 3⟩ ?_
  rintro _ W ⟨j, bs, bl, rfl, hj, hbl, hz, st⟩
  refine br_of (fun hlt => ?_) (fun hge => ?_)
  · simp only [decide_eq_true_eq] at hlt
    refine jn_of (fun _ W' => ∃ bs' u, St noF w W' [BoxA r [slV bs', slV ⟨none, 0, 0⟩, .bool false, .int .i64 0, .int .i64 0, slV ⟨none, 0, 0⟩], SlA 1 bs' ((bl ++ [(u, zero256)]).map (fun x => slV x.1)), bigA ((bl ++ [(u, zero256)]).map bytA)]) ?_ ?_
    rotate_left
    · rintro ⟨⟩ W' ⟨bs', u, s3⟩
      rw [wrap_succ (by omega)]
      exact ⟨⟨j + 1, bs', _, rfl, by omega, by simp [hbl], by rw [List.map_append, hz, List.replicate_succ']; rfl, s3⟩, by omega⟩
    have sd := st.drew
    refine ⟨?_, ?_⟩
    · refine sd.ld (i := 0) (s := .slice) (p := bs) rfl ?_
      refine sd.mkSi (k := 1) 256 rfl rfl (by omega) (by omega) fun u W2 s3 _ => ?_
      rw [zc_u8] at s3
      refine St.nw s3 fun r1 W3 s4 _ _ => ?_
      exact push_slice (l := zero256) (by omega) s4 fun bs' w' s => ⟨bs', u, s⟩
    · refine sd.mkSi (k := 1) 256 rfl rfl (by omega) (by omega) fun u W2 s3 _ => ?_
      rw [zc_u8] at s3
      refine ⟨?_, ?_⟩
      · refine (s3.bring 1).ld (i := 0) (s := .slice) (p := bs) rfl ?_
        refine St.nw s3 fun r1 W3 s4 _ _ => ?_
        exact push_slice (l := zero256) (by omega) s4 fun bs' w' s => ⟨bs', u, s⟩
      · refine St.nw s3 fun r1 W3 s4 _ _ => ?_
        refine (s4.bring 2).ld (i := 0) (s := .slice) (p := bs) rfl ?_
        exact push_slice (l := zero256) (by omega) s4 fun bs' w' s => ⟨bs', u, s⟩
  · simp only [decide_eq_false_iff_not] at hge
    have : j = n := by omega
    subst this
    rw [if_pos (by omega)]
    refine ⟨trivial, r, rfl, ?_⟩
    refine mkDisk (D := newD j) ⟨bs, ⟨none, 0, 0⟩, ⟨none, 0, 0⟩, bl, []⟩ hz.symm rfl ?_
    exact (((st.nosl 2).nosl 1).nobig).sel [3, 4, 2, 1, 5, 0] 6

/-- what a disk reads as, by the first k writes -/
def rdK (D : DM) (i : Int) (k : Nat) : List UInt8 := (((D.wait.take k).reverse.find? (·.1 == i)).map (·.2)).getD ((D.blocks[i.toNat]?).getD [])

theorem rdK_succ {D : DM} {i : Int} {k : Nat} {x : Int × List UInt8} (h : D.wait[k]? = some x) : rdK D i (k + 1) = if x.1 = i then x.2 else rdK D i k := by
  unfold rdK
  have hk := (split_at h).2
  rw [List.getElem?_eq_getElem hk, Option.some.injEq] at h
  rw [List.take_add_one, List.getElem?_eq_getElem hk, h]
  simp only [Option.toList_some, List.reverse_append, List.reverse_singleton, List.singleton_append, List.find?_cons]
  by_cases hx : x.1 = i
  · simp [hx]
  · have : (x.1 == i) = false := by simpa using hx
    simp [this, hx]

theorem C97 (p : Nat) (D : DM) (i : Int) (w : World) (F : Nat → Prop) (h : Has [DiskA p D] w F) (hok : D.ok) (hwl : D.wait.length ≤ 1000000000) :
    Calls Try.prog 97 #[P0 p, .int .i64 i] w (RetT [.c .slice, .c (.int .i64)] fun r w' => r.2 = placeE D i ∧ St noF w w' [SlA 1 r.1 ((if placeE D i = 0 then rdD D i else []).map ub)]) := by
  refine F97_calls _ _ _ _ ?_
  unfold F97
  obtain ⟨di, sd⟩ := (St.init h).ex
  obtain ⟨⟨hb, hw⟩, sd⟩ := sd.p
  simp only [deref_some']
  refine sd.ld (i := 2) (s := .bool) (p := D.off) rfl ?_
  refine br_of (fun ho => ?_) (fun ho => ?_)
  · have hp : placeE D i = 5 := by unfold placeE; rw [if_pos ho]
    rw [hp]
    exact ⟨rfl, (St.init0 w).nosl 1⟩
  have hbs := slA_len1 (sd.bring 1).sl
  have hbl : di.bl.length = D.blocks.length := by rw [hb]; simp
  rw [List.length_map, hbl] at hbs
  refine jn_of (fun b W => b = decide (i < 0 ∨ i ≥ D.blocks.length) ∧ w = W) ?_ ?_
  · refine br_of (fun h0 => ⟨?_, rfl⟩) (fun h0 => ?_)
    · simp only [decide_eq_true_eq] at h0
      symm; rw [decide_eq_true_eq]; exact .inl h0
    · simp only [decide_eq_false_iff_not] at h0
      refine sd.ld (i := 0) (s := .slice) (p := di.bs) rfl ⟨?_, rfl⟩
      rw [decide_eq_decide]; omega
  rintro _ _ ⟨rfl, rfl⟩
  by_cases hc : i < 0 ∨ i ≥ D.blocks.length
  · refine br_t (by simp [hc]) ?_
    have hp : placeE D i = 30 := by unfold placeE; rw [if_neg (by simp [ho]), if_pos hc]
    rw [hp]
    exact ⟨rfl, (St.init0 w).nosl 1⟩
  refine br_f (by simp [hc]) ?_
  have hp : placeE D i = 0 := by unfold placeE; rw [if_neg (by simp [ho]), if_neg hc]
  rw [hp, if_pos rfl]
  refine sd.ld (i := 0) (s := .slice) (p := di.bs) rfl ?_
  have hlt : i.toNat < di.bl.length := by omega
  refine ⟨⟨by omega, by omega⟩, ?_⟩
  refine at_own (sd.bring 1).sl (p := di.bl[i.toNat].1) (by simp [hlt, slV]) ?_
  have hws : WS w di.ws di.wl := OwnS.ss wcells_len (by decide) (sd.bring 2).sl
  have hwsl := hws.len
  have hwn : di.wl.length = D.wait.length := by rw [hw]; simp
  have hcell : ∀ {k : Nat} {x : Int × Sl × List UInt8} {c : CS} {q : PayC c} {n : Nat} {f : PayC c → Pr}, di.wl[k]? = some x → (wcells x)[n]? = some (valC c q) → f q w →
      (owe ((0 : Int) ≤ (k : Int) ∧ (k : Int) < (di.ws.len : Int)) <| deref di.ws.a fun a => ldC c (Addr.add (a.add (Int.toNat (k : Int) * 2)) n) f) w := by
    intro k x c q n f hx hn hf
    have := (split_at hx).2
    refine ⟨⟨by omega, by omega⟩, ?_⟩
    obtain ⟨ad, ha, hrow⟩ := hws.get (n := 2) wcells_len hx (by decide)
    rw [ha, deref_some', Int.toNat_natCast]
    exact ldC_of (hrow.get hn) hf
  refine loop_of (fun z W => ∃ k : Nat, z.2 = k ∧ k ≤ D.wait.length ∧ w = W ∧ BS w z.1 (rdK D i k)) (fun z _ => D.wait.length - z.2.toNat) ⟨0, rfl, by omega, rfl, ?_⟩ ?_
  · have : rdK D i 0 = di.bl[i.toNat].2 := by unfold rdK; rw [hb]; simp [hlt]
    rw [this]
    exact ((sd.bring 4).pick (i := i.toNat) (A := bytA di.bl[i.toNat]) (by simp [hlt])).sl.bs
  rintro ⟨b, _⟩ _ ⟨k, rfl, hk, rfl, hbk⟩
  dsimp only at hbk ⊢
  refine sd.ld (i := 1) (s := .slice) (p := di.ws) rfl ?_
  refine br_of (fun hlt2 => ?_) (fun hge => ?_)
  · simp only [decide_eq_true_eq] at hlt2
    have hkl : k < di.wl.length := by omega
    have hx : di.wl[k]? = some di.wl[k] := by simp
    have hDk : D.wait[k]? = some (di.wl[k].1, di.wl[k].2.2) := by rw [hw, List.getElem?_map, hx]; rfl
    have hsucc := rdK_succ (i := i) hDk
    refine jn_of (fun t W => w = W ∧ BS w t (rdK D i (k + 1))) ?_ ?_
    · refine sd.ld (i := 1) (s := .slice) (p := di.ws) rfl ?_
      refine hcell (c := .int .i64) (n := 0) (q := di.wl[k].1) hx rfl ?_
      refine br_of (fun heq => ?_) (fun hne => ?_)
      · refine sd.ld (i := 1) (s := .slice) (p := di.ws) rfl ?_
        refine hcell (c := .slice) (n := 1) (q := di.wl[k].2.1) hx rfl ⟨rfl, ?_⟩
        rw [hsucc, if_pos (by simpa using heq)]
        exact ((sd.bring 5).pick (i := k) (A := bytA di.wl[k].2) (by simp [hkl])).sl.bs
      · refine ⟨rfl, ?_⟩
        rw [hsucc, if_neg (by simpa using hne)]
        exact hbk
    · rintro t _ ⟨rfl, h1⟩
      rw [wrap_succ (by omega)]
      exact ⟨⟨k + 1, rfl, by omega, rfl, h1⟩, by omega⟩
  · simp only [decide_eq_false_iff_not] at hge
    have hkk : k = D.wait.length := by omega
    have hrd : rdK D i k = rdD D i := by unfold rdK rdD; rw [hkk, List.take_length]
    rw [hrd] at hbk
    have h256 := rdD_len hok (i := i) (by omega) (by omega)
    have := hbk.len
    refine clone_app hbk (by omega) fun r w' h1 h2 => ⟨rfl, ?_⟩
    exact (St.init0 w).mksl h2 h1

def stepD (D : DM) : DM := { D with ops := D.ops + 1, armed := if D.armed = 0 then 0 else D.armed - 1 }

theorem C81 (p : Nat) (D : DM) (w : World) (F : Nat → Prop) (h : Has [DiskA p D] w F) (ha : 0 ≤ D.armed) (ha2 : D.armed ≤ 9223372036854775807) (ho : 0 ≤ D.ops ∧ D.ops ≤ 1000000000000000) :
    Calls Try.prog 81 #[P0 p] w (RetT [.c .bool] fun r w' => r = decide (D.armed = 1) ∧ St F w w' [DiskA p (stepD D)]) := by
  refine F81_calls _ _ _ ?_
  unfold F81
  obtain ⟨i, st⟩ := (St.init h).ex
  obtain ⟨⟨hb, hw⟩, st⟩ := st.p
  simp only [deref_some']
  refine st.ld (i := 3) (s := .int .i64) (p := D.ops) rfl ?_
  rw [show IntKind.wrap .i64 (D.ops + 1) = D.ops + 1 from wrap_i64 (by omega)]
  refine st.st (i := 3) (by simp) trivial fun w1 s1 => ?_
  refine s1.ld (i := 4) (s := .int .i64) (p := D.armed) rfl ?_
  refine br_of (fun h0 => ?_) (fun h0 => ?_)
  · have h0 : D.armed = 0 := by simpa using h0
    refine ⟨by rw [h0]; rfl, mkDisk (D := stepD D) i hb hw ?_⟩
    have : (stepD D).armed = D.armed := by unfold stepD; rw [if_pos h0, h0]
    rw [this]
    exact s1
  have h0 : D.armed ≠ 0 := by simpa using h0
  refine s1.ld (i := 4) (s := .int .i64) (p := D.armed) rfl ?_
  rw [show IntKind.wrap .i64 (D.armed - 1) = D.armed - 1 from wrap_i64 (by omega)]
  refine s1.st (i := 4) (by simp) trivial fun w2 s2 => ?_
  refine s2.ld (i := 4) (s := .int .i64) (p := D.armed - 1) rfl ⟨?_, mkDisk (D := stepD D) i hb hw ?_⟩
  · rw [Bool.eq_iff_iff]; simp only [beq_iff_eq, decide_eq_true_eq]; omega
  · have : (stepD D).armed = D.armed - 1 := by unfold stepD; rw [if_neg h0]
    rw [this]
    exact s2
end Go.Proofs

/-! Layer 3, the document's disk: what reaches the medium, the power's going, Write, Arm, Restart. -/
namespace Go.Proofs
open Go.Eng

theorem reachB_get {b l : List UInt8} {p : Int} (hb : b.length = 256) (hl : l.length = 256) : ∀ n, n ≤ 4 → ∀ i : Nat, (reachB b l p n)[i]? = if i < 64 * n ∧ pbit p (i / 64) = true then l[i]? else b[i]?
  | 0, _, i => by rw [if_neg (by omega)]; rfl
  | n + 1, hn, i => by
    have ih := reachB_get (p := p) hb hl n (by omega) i
    have hlen := reachB_len (p := p) hb hl n (by omega)
    unfold reachB
    by_cases hp : pbit p n = true
    · rw [if_pos hp, lay_get (by rw [List.length_take, List.length_drop]; omega)]
      have hdl : ((l.drop (64 * n)).take 64).length = 64 := by rw [List.length_take, List.length_drop]; omega
      rw [hdl]
      by_cases h1 : 64 * n ≤ i ∧ i < 64 * n + 64
      · have hq : i / 64 = n := by omega
        rw [if_pos h1, if_pos ⟨by omega, by rw [hq]; exact hp⟩, List.getElem?_take, if_pos (by omega), List.getElem?_drop, show 64 * n + (i - 64 * n) = i by omega]
      · rw [if_neg h1, ih]
        by_cases h2 : i < 64 * n
        · by_cases h3 : pbit p (i / 64) = true
          · rw [if_pos ⟨h2, h3⟩, if_pos ⟨by omega, h3⟩]
          · rw [if_neg (fun h => h3 h.2), if_neg (fun h => h3 h.2)]
        · rw [if_neg (fun h => h2 h.1), if_neg (fun h => by omega)]
    · rw [if_neg hp, ih]
      by_cases h2 : i < 64 * n
      · by_cases h3 : pbit p (i / 64) = true
        · rw [if_pos ⟨h2, h3⟩, if_pos ⟨by omega, h3⟩]
        · rw [if_neg (fun h => h3 h.2), if_neg (fun h => h3 h.2)]
      · rw [if_neg (fun h => h2 h.1), if_neg]
        rintro ⟨h3, h4⟩
        have hq : i / 64 = n := by omega
        rw [hq] at h4
        exact hp h4

def setBt (di : DI) (i : Nat) (t : Sl) (b : List UInt8) : DI := { di with bl := di.bl.set i (t, b) }

/-- a byte of an owned row is written, as it is printed -/
theorem put_byte {F0 : Nat → Prop} {w0 w : World} {L : List HA} {s : Sl} {l : List UInt8} {j : Nat} {b : UInt8} {k : Pr} (h : St F0 w0 w (SlA 1 s (l.map ub) :: L)) (hj : j < l.length)
    (hk : ∀ w', St F0 w0 w' (SlA 1 s ((l.set j b).map ub) :: L) → k w') :
    (owe ((0 : Int) ≤ (j : Int) ∧ (j : Int) < (s.len : Int)) <| deref s.a fun a => Eng.st (a.add (Int.toNat (j : Int) * 1)) (.int .u8 (b.toNat : Int)) k) w := by
  have hl := slA_len1 h.sl
  rw [List.length_map] at hl
  refine ⟨⟨by omega, by omega⟩, ?_⟩
  rw [Int.toNat_natCast]
  refine put_own h (by rw [List.length_map]; exact hj) trivial fun w' s' => hk w' ?_
  rw [List.map_set]
  exact s'

theorem wrap_u64_small {n : Nat} (h : n < 1000) : IntKind.wrap .u64 (n : Int) = (n : Int) := by
  simp only [IntKind.wrap, IntKind.signed, IntKind.bits]
  simp
  omega

set_option maxRecDepth 20000 in
theorem C98 (p : Nat) (D : DM) (di : DI) (i j : Nat) (s : Sl) (l : List UInt8) (x : Sl × List UInt8) (pick : Int) (w : World) (F : Nat → Prop) (h : Has (dpc p D di) w F) (hx : di.bl[i]? = some x) (hj : di.wl[j]? = some ((i : Int), s, l)) (hx256 : x.2.length = 256) (hl256 : l.length = 256) :
    Calls Try.prog 98 #[P0 p, .agg #[.int .i64 (i : Int), .slice s.a s.len s.cap], .int .u8 pick] w (RetT [] fun _ w' => ∃ t, St F w w' (dpc p D (setBt di i t (reachB x.2 l pick 4)))) := by
  refine F98_calls _ _ _ _ _ _ ?_
  unfold F98
  refine St.nw (St.init h) fun r w1 s1 _ _ => ?_
  simp only [deref_some']
  rw [drw_def]
  have s2 := s1.drew
  replace s2 : St F w w1.drew (BoxA r [.int .i64 (i : Int), slV s] :: dpc p D di) := s2
  refine (s2.bring 1).ld (i := 0) (s := .slice) (p := di.bs) rfl ?_
  refine s2.ld (i := 0) (s := .int .i64) (p := (i : Int)) rfl ?_
  have hil := (split_at hx).2
  have hbsl := slA_len1 (s2.bring 2).sl
  rw [List.length_map] at hbsl
  refine ⟨⟨by omega, by omega⟩, ?_⟩
  refine at_own (s2.bring 2).sl (p := x.1) (by rw [Int.toNat_natCast, List.getElem?_map, hx]; rfl) ?_
  have hxb := ((s2.bring 5).pick (i := i) (A := bytA x) (by rw [List.getElem?_map, hx]; rfl)).sl.bs
  have hxl := hxb.len
  refine clone_app hxb (by omega) fun t w2 ht gt => ?_
  have s3 := s2.mksl gt ht
  refine loop_of (fun z W => ∃ (k : Nat) (m : List UInt8), z = k ∧ k ≤ l.length ∧ m.length = l.length ∧ (∀ a : Nat, m[a]? = if a < k ∧ pbit pick (a / 64) = true then l[a]? else x.2[a]?) ∧ St F w W (SlA 1 t (m.map ub) :: BoxA r [.int .i64 (i : Int), slV s] :: dpc p D di)) (fun z _ => l.length - z.toNat)
    ⟨0, x.2, rfl, by omega, by omega, fun a => by rw [if_neg (by omega)], s3⟩ ?_
  intro z W hI
  obtain ⟨k, m, hz, hk, hm, hma, st⟩ := hI
  subst hz
  refine br_of (fun hlt => ?_) (fun hge => ?_)
  · simp only [decide_eq_true_eq] at hlt
    have hk256 : k < 256 := by omega
    refine jn_of (fun _ W' => ∃ m : List UInt8, m.length = l.length ∧ (∀ a : Nat, m[a]? = if a < k + 1 ∧ pbit pick (a / 64) = true then l[a]? else x.2[a]?) ∧ St F w W' (SlA 1 t (m.map ub) :: BoxA r [.int .i64 (i : Int), slV s] :: dpc p D di)) ?_ ?_
    rotate_left
    · rintro ⟨⟩ W' ⟨m', h1, h2, h3⟩
      rw [wrap_succ (by omega)]
      exact ⟨⟨k + 1, m', rfl, by omega, h1, h2, h3⟩, by omega⟩
    have hdiv : IntKind.wrap .u64 (IntKind.wrap .i64 ((k : Int).tdiv 64)) = ((k / 64 : Nat) : Int) := by
      have e1 : (k : Int).tdiv 64 = ((k / 64 : Nat) : Int) := by
        rw [Int.tdiv_eq_ediv_of_nonneg (by omega)]; omega
      rw [e1, wrap_i64 (by omega)]
      exact wrap_u64_small (by omega)
    rw [hdiv]
    refine ⟨by decide, by omega, ?_⟩
    refine br_of (fun hb => ?_) (fun hb => ?_)
    · have hp : pbit pick (k / 64) = true := hb
      refine (st.bring 1).ld (i := 1) (s := .slice) (p := s) rfl ?_
      have hsb : BS W s l := ((st.bring 7).pick (i := j) (A := bytA (s, l)) (by simp [hj])).sl.bs
      refine at_bs (b := l[k]) hsb (by simp [hl256, hk256]) ?_
      refine put_byte st (by omega) fun w' s4 => ⟨_, by rw [List.length_set]; exact hm, fun a => ?_, s4⟩
      rw [List.getElem?_set]
      by_cases hka : k = a
      · subst hka
        rw [if_pos rfl, if_pos (by omega), if_pos ⟨by omega, hp⟩]
        simp [hl256, hk256]
      · rw [if_neg hka, hma]
        by_cases h2 : a < k
        · by_cases h3 : pbit pick (a / 64) = true
          · rw [if_pos ⟨h2, h3⟩, if_pos ⟨by omega, h3⟩]
          · rw [if_neg (fun h => h3 h.2), if_neg (fun h => h3 h.2)]
        · rw [if_neg (fun h => h2 h.1), if_neg (fun h => by omega)]
    · have hp : ¬ pbit pick (k / 64) = true := by unfold pbit; rw [hb]; simp
      refine ⟨m, hm, fun a => ?_, st⟩
      rw [hma]
      by_cases h2 : a < k
      · by_cases h3 : pbit pick (a / 64) = true
        · rw [if_pos ⟨h2, h3⟩, if_pos ⟨by omega, h3⟩]
        · rw [if_neg (fun h => h3 h.2), if_neg (fun h => h3 h.2)]
      · rw [if_neg (fun h => h2 h.1), if_neg]
        rintro ⟨h3, h4⟩
        have : a = k := by omega
        subst this
        exact hp h4
  · simp only [decide_eq_false_iff_not] at hge
    have hk6 : k = 256 := by omega
    have hmr : m = reachB x.2 l pick 4 := by
      refine List.ext_getElem? fun a => ?_
      rw [hma, hk6, reachB_get hx256 hl256 4 (by omega)]
    rw [hmr] at st
    rw [drw_def]
    have s5 := st.drew
    refine (s5.bring 2).ld (i := 0) (s := .slice) (p := di.bs) rfl ?_
    refine (s5.bring 1).ld (i := 0) (s := .int .i64) (p := (i : Int)) rfl ?_
    refine ⟨⟨by omega, by omega⟩, ?_⟩
    rw [Int.toNat_natCast]
    refine put_own (s5.bring 3) (i := i) (v := slV t) (by rw [List.length_map]; exact hil) trivial fun W2 s6 => ⟨t, ?_⟩
    have s7 := (s6.sel [6, 0, 1, 2, 3, 4, 5, 7] 8).pick (i := i) (A := bytA x) (by rw [List.getElem?_map, hx]; rfl)
    -- bytA x, bl', bs, t, box r, p, ws, ps, wl
    have s8 := St.unpick (A := bytA (t, reachB x.2 l pick 4)) (s7.sel [3, 1, 2, 5, 6, 7, 8] 9) (by rw [List.length_map]; exact hil)
    have e1 : (di.bl.map bytA).set i (bytA (t, reachB x.2 l pick 4)) = (di.bl.set i (t, reachB x.2 l pick 4)).map bytA := by rw [List.map_set]
    have e2 : (di.bl.map fun x => slV x.1).set i (slV t) = (di.bl.set i (t, reachB x.2 l pick 4)).map fun x => slV x.1 := by rw [List.map_set]
    rw [e1, e2] at s8
    exact s8.sel [2, 1, 3, 4, 0, 5] 6

theorem C82 (p : Nat) (D : DM) (di : DI) (q : Sl) (pl : List UInt8) (w : World) (F : Nat → Prop) (h : Has (dpc p D di) w F) (hb : D.blocks = di.bl.map (·.2)) (hw : D.wait = di.wl.map fun x => (x.1, x.2.2)) (hok : D.ok) (hoff : D.off = false) (hwl : D.wait.length ≤ 1000000000)
    (hq : ∀ W dj L, SameDI di dj → St F w W (dpc p D dj ++ L) → BS W q pl) :
    Calls Try.prog 82 #[P0 p, .slice q.a q.len q.cap] w (RetT [.c (.int .i64)] fun r w' => r = 0 ∧ St F w w' [DiskA p (fallsD D pl)]) := by
  refine F82_calls _ _ _ _ ?_
  unfold F82
  have st := St.init h
  simp only [deref_some']
  refine st.ld (i := 2) (s := .bool) (p := D.off) rfl ?_
  refine br_f hoff ?_
  have hwn : di.wl.length ≤ 1000000000 := by rw [hw, List.length_map] at hwl; exact hwl
  have hwsl : di.ws.len = di.wl.length := (OwnS.ss (f := wcells) wcells_len (by decide) (st.bring 2).sl).len
  refine loop_of (fun z W => ∃ (j : Nat) (dj : DI), z = j ∧ j ≤ di.wl.length ∧ SameDI di dj ∧ (dj.bl.map (·.2)).length = D.blocks.length ∧ (∀ b ∈ dj.bl.map (·.2), b.length = 256) ∧ fallGo (dj.bl.map (·.2)) (D.wait.drop j) (pl.drop j) = fallGo D.blocks D.wait pl ∧ St F w W (dpc p D dj)) (fun z _ => di.wl.length - z.toNat)
    ⟨0, di, rfl, by omega, ⟨rfl, rfl, rfl, rfl⟩, by rw [hb], by rw [← hb]; exact hok.len, by rw [hb]; rfl, st⟩ ?_
  rintro _ W ⟨j, dj, rfl, hj, hsame, hbl, hb256, hgo, s1⟩
  have hqs := hq W dj [] hsame s1
  have hql := hqs.len
  refine jn_of (fun b W' => b = decide (j < di.wl.length ∧ j < pl.length) ∧ W = W') ?_ ?_
  · refine s1.ld (i := 1) (s := .slice) (p := di.ws) (by show some (slV dj.ws) = _; rw [hsame.ws]; rfl) ?_
    refine br_of (fun h1 => ⟨?_, rfl⟩) (fun h1 => ⟨?_, rfl⟩)
    · simp only [decide_eq_true_eq] at h1
      rw [decide_eq_decide]; omega
    · simp only [decide_eq_false_iff_not] at h1
      symm; rw [decide_eq_false_iff_not]; omega
  rintro _ _ ⟨rfl, rfl⟩
  by_cases hc : j < di.wl.length ∧ j < pl.length
  · refine br_t (by simp [hc]) ?_
    obtain ⟨hjl, hjp⟩ := hc
    rw [drw_def]
    have s5 := s1.drew
    obtain ⟨x, hxx⟩ : ∃ x, di.wl[j]? = some x := ⟨di.wl[j], by simp [hjl]⟩
    have hDj : D.wait[j]? = some (x.1, x.2.2) := by rw [hw, List.getElem?_map, hxx]; rfl
    have hxw := hok.wlen _ (List.mem_of_getElem? hDj)
    dsimp only at hxw
    have hdrop : D.wait.drop j = (x.1, x.2.2) :: D.wait.drop (j + 1) := by
      have := (split_at hDj).2
      rw [List.getElem?_eq_getElem this, Option.some.injEq] at hDj
      rw [List.drop_eq_getElem_cons this, hDj]
    have hpick : pl.drop j = pl[j] :: pl.drop (j + 1) := List.drop_eq_getElem_cons hjp
    refine s5.ld (i := 1) (s := .slice) (p := di.ws) (by show some (slV dj.ws) = _; rw [hsame.ws]; rfl) ?_
    refine at_w (x := x) (s := di.ws) (wl := di.wl) (by have := (s5.bring 2).sl; rw [hsame.ws, hsame.wl] at this; exact this) hxx ?_
    refine at_bs (b := pl[j]) (hq _ dj [] hsame s5) (by simp [hjp]) ?_
    obtain ⟨G, H, g1, _, _, _, gc⟩ := St.call (dpc p D dj) (l := []) s5
    obtain ⟨i, hi⟩ := Int.eq_ofNat_of_zero_le hxw.1
    have hil : i < dj.bl.length := by rw [List.length_map] at hbl; omega
    obtain ⟨y, hy⟩ : ∃ y, dj.bl[i]? = some y := ⟨dj.bl[i], by simp [hil]⟩
    have hy256 : y.2.length = 256 := hb256 _ (List.mem_map.2 ⟨y, List.mem_of_getElem? hy, rfl⟩)
    have hxj : dj.wl[j]? = some ((i : Int), x.2.1, x.2.2) := by rw [hsame.wl, hxx, ← hi]
    dsimp only
    rw [hi]
    refine callF_of (C98 p D dj i j x.2.1 x.2.2 y (pl[j].toNat : Int) _ G g1 hy hxj hy256 hxw.2.2) ?_
    rintro ⟨⟩ w6 ⟨t, s6⟩
    have s7 := gc _ _ s6
    rw [List.append_nil] at s7
    have hset : (setBt dj i t (reachB y.2 x.2.2 (pl[j].toNat : Int) 4)).bl.map (·.2) = (dj.bl.map (·.2)).set i (reachB y.2 x.2.2 (pl[j].toNat : Int) 4) := by
      show (dj.bl.set i _).map _ = _
      rw [List.map_set]
    rw [wrap_succ (by omega)]
    refine ⟨⟨j + 1, setBt dj i t (reachB y.2 x.2.2 (pl[j].toNat : Int) 4), rfl, by omega, ⟨hsame.bs, hsame.ws, hsame.ps, hsame.wl⟩, ?_, ?_, ?_, s7⟩, by omega⟩
    · rw [hset, List.length_set]; exact hbl
    · intro b hbm
      rw [hset] at hbm
      rcases List.mem_or_eq_of_mem_set hbm with h | rfl
      · exact hb256 b h
      · exact reachB_len hy256 hxw.2.2 4 (by omega)
    · rw [← hgo, hset, hdrop, hpick]
      show _ = fallGo ((dj.bl.map (·.2)).set x.1.toNat _) _ _
      rw [hi]
      simp only [Int.ofNat_eq_natCast, Int.toNat_natCast, List.getElem?_map, hy, Option.map_some, Option.getD_some]
  · refine br_f (by simp only [hc, decide_false]) ?_
    have hf : fallGo (dj.bl.map (·.2)) (D.wait.drop j) (pl.drop j) = dj.bl.map (·.2) := by
      by_cases h1 : j < di.wl.length
      · have h2 : pl.length ≤ j := by omega
        rw [List.drop_eq_nil_of_le h2]
        cases D.wait.drop j <;> rfl
      · have h2 : D.wait.drop j = [] := List.drop_eq_nil_of_le (by rw [hw, List.length_map]; omega)
        rw [h2]
        unfold fallGo; rfl
    rw [hf] at hgo
    refine s1.st (i := 1) (by simp) trivial fun w2 s2 => ?_
    refine s2.st (i := 2) (by simp) trivial fun w3 s3 => ?_
    refine s3.st (i := 4) (by simp) trivial fun w4 s4 => ?_
    refine s4.st (i := 5) (by simp) trivial fun w5 s5 => ⟨trivial, ?_⟩
    refine mkDisk (D := fallsD D pl) ⟨dj.bs, ⟨none, 0, 0⟩, ⟨none, 0, 0⟩, dj.bl, []⟩ hgo.symm rfl ?_
    exact (((s5.nosl 2).nosl 1).nobig).sel [3, 4, 2, 1, 7, 0] 9
end Go.Proofs

/-! Layer 3, both disks: Write, Arm, Restart, Image. -/
namespace Go.Proofs
open Go.Eng

theorem wr_tail' {E : Nat} {F0 : Nat → Prop} {w0 w : World} {L : List HA} {p r : Nat} {D : DM} {di : DI} {i : Int} {t : Sl} {l : List UInt8} {k : Pr} (hb : D.blocks = di.bl.map (·.2)) (hw : D.wait = di.wl.map fun x => (x.1, x.2.2)) (hn : D.wait.length ≤ 1000000000)
    (st : St F0 w0 w (BoxA r [.int .i64 i, slV t] :: SlA 1 t (l.map ub) :: BoxA p [slV di.bs, slV di.ws, .bool D.off, .int .i64 D.ops, .int .i64 D.armed, slV di.ps] :: SlA 1 di.bs (di.bl.map fun x => slV x.1) :: SlA 2 di.ws (di.wl.flatMap wcells) :: SlA 1 di.ps (D.picks.map ub) ::
      bigA (di.bl.map bytA) :: bigA (di.wl.map fun x => bytA x.2) :: L)) (hk : ∀ w', St F0 w0 w' (DiskA p (addW D i l) :: L) → k w') :
    app E 2 32 [.int .i64 0, .slice none 0 0] di.ws ⟨some ⟨r, 0, none⟩, 1, 1⟩ (fun t27 => Eng.st (Addr.add ⟨p, 0, none⟩ 1) (.slice t27.a t27.len t27.cap) k) w := by
  have hwl := (st.bring 4).sl.len
  rw [flatMap_len wcells_len] at hwl
  have hn2 : di.wl.length ≤ 1000000000 := by rw [hw, List.length_map] at hn; exact hn
  refine (st.bring 4).app (new := wcells (i, t, l)) (fun _ => rfl) (fun h => by cases h) (readsAt_row.2 st.box.row) NotAgg_wcells rfl (by decide) (by dsimp only; omega) fun r2 w2 s2 _ => ?_
  refine (s2.bring 3).st (i := 1) (by simp) trivial fun w3 s3 => ?_
  refine hk w3 (mkDisk (D := addW D i l) { di with ws := r2, wl := di.wl ++ [(i, t, l)] } hb (by simp [addW, hw]) ?_)
  dsimp only [addW]
  rw [List.flatMap_append, List.map_append]
  have s5 := (s3.sel [3, 7, 0, 4, 1, 5, 6] 8).push
  exact s5.sel [1, 2, 3, 4, 5, 0] 6

theorem C48 (p : Nat) (D : DM) (i : Int) (b : Sl) (l : List UInt8) (w : World) (F : Nat → Prop) (h : Has [DiskA p D] w F) (hb : Rd w F b l) (hok : D.ok) (hwl : D.wait.length ≤ 100000000) (ha : 0 ≤ D.armed) (ha2 : D.armed ≤ 9223372036854775807) (ho : 0 ≤ D.ops ∧ D.ops ≤ 1000000000000000) :
    Calls Try.prog 48 #[P0 p, .int .i64 i, .slice b.a b.len b.cap] w (RetT [.c (.int .i64)] fun r w' => r = (writeD D i l).1 ∧ St F w w' [DiskA p (writeD D i l).2]) := by
  refine F48_calls _ _ _ _ _ ?_
  unfold F48
  have stF := St.init h
  obtain ⟨di, sd⟩ := (St.init h).ex
  obtain ⟨⟨hb', hw⟩, sd⟩ := sd.p
  simp only [deref_some']
  refine sd.ld (i := 2) (s := .bool) (p := D.off) rfl ?_
  refine br_of (fun hoff => ?_) (fun hoff => ?_)
  · have hp : placeE D i = 5 := by unfold placeE; rw [if_pos hoff]
    unfold writeD
    rw [if_pos (by rw [hp]; decide), hp]
    exact ⟨rfl, stF⟩
  have hbs := slA_len1 (sd.bring 1).sl
  have hbl : di.bl.length = D.blocks.length := by rw [hb']; simp
  rw [List.length_map, hbl] at hbs
  refine jn_of (fun b W => b = decide (i < 0 ∨ i ≥ D.blocks.length) ∧ w = W) ?_ ?_
  · refine br_of (fun h0 => ⟨?_, rfl⟩) (fun h0 => ?_)
    · simp only [decide_eq_true_eq] at h0
      symm; rw [decide_eq_true_eq]; exact .inl h0
    · simp only [decide_eq_false_iff_not] at h0
      refine sd.ld (i := 0) (s := .slice) (p := di.bs) rfl ⟨?_, rfl⟩
      rw [decide_eq_decide]; omega
  rintro _ _ ⟨rfl, rfl⟩
  by_cases hc : i < 0 ∨ i ≥ D.blocks.length
  · refine br_t (by simp [hc]) ?_
    have hp : placeE D i = 30 := by unfold placeE; rw [if_neg (by simp [hoff]), if_pos hc]
    unfold writeD
    rw [if_pos (by rw [hp]; decide), hp]
    exact ⟨rfl, stF⟩
  refine br_f (by simp [hc]) ?_
  have hp : placeE D i = 0 := by unfold placeE; rw [if_neg (by simp [hoff]), if_neg hc]
  have hbl2 := hb.bs.len
  refine br_of (fun hne => ?_) (fun heq => ?_)
  · have hne : l.length ≠ 256 := by simp at hne; omega
    unfold writeD
    rw [if_neg (by rw [hp]; decide), if_pos hne]
    exact ⟨rfl, stF⟩
  have hl : l.length = 256 := by simp at heq; omega
  refine jn_of (fun _ W => St F w W [DiskA p (addW D i l)]) ?_ ?_
  rotate_left
  · rintro ⟨⟩ W st
    obtain ⟨G, H, _, h1, _, _, _, hcl⟩ := st.call1
    have hok1 := addW_ok hok (i := i) (l := l) ⟨by omega, by omega⟩ hl
    refine callF_of (C81 p (addW D i l) W G h1 ha ha2 ho) ?_
    rintro _ w' ⟨rfl, s2⟩
    have s3 := hcl w' _ s2
    have hwr : writeD D i l = (if (goesD (addW D i l)).1 then 5 else 0, (goesD (addW D i l)).2) := by
      unfold writeD
      rw [if_neg (by rw [hp]; decide), if_neg (by simp [hl])]
    rw [hwr]
    have hga : (addW D i l).armed = D.armed := rfl
    by_cases h1' : D.armed = 1
    · refine br_t (by rw [hga]; simp [h1']) ?_
      have hg : goesD (addW D i l) = (true, fallsD (stepD (addW D i l)) (addW D i l).picks) := by
        unfold goesD
        rw [if_neg (by rw [hga]; omega), if_neg (by rw [hga]; omega)]
        rfl
      rw [hg]
      obtain ⟨dj, s4⟩ := s3.ex
      obtain ⟨⟨hbj, hwj⟩, s4⟩ := s4.p
      refine s4.ld (i := 5) (s := .slice) (p := dj.ps) rfl ?_
      obtain ⟨G2, H2, g1, _, _, _, gc⟩ := St.call (dpc p (stepD (addW D i l)) dj) (l := []) s4
      have hok2 : (stepD (addW D i l)).ok := ⟨hok1.len, hok1.wlen, hok1.pos, hok1.le⟩
      refine callF_of (C82 p (stepD (addW D i l)) dj dj.ps (addW D i l).picks w' G2 g1 hbj hwj hok2 (by exact hoff) (by show (D.wait ++ [_]).length ≤ _; rw [List.length_append, List.length_singleton]; omega) fun W dk L hs s5 => ?_) ?_
      · have := (s5.bring 3).sl.bs
        rw [hs.ps] at this
        exact this
      rintro e w6 ⟨_, s6⟩
      exact ⟨rfl, gc _ _ s6⟩
    · refine br_f (by rw [hga]; simp [h1']) ?_
      have hg : goesD (addW D i l) = (false, stepD (addW D i l)) := by
        unfold goesD stepD
        by_cases h0 : D.armed = 0
        · rw [if_pos (by rw [hga]; exact h0), if_pos (by rw [hga]; exact h0)]
          have : (addW D i l).armed = 0 := h0
          rw [← this]
        · rw [if_neg (by rw [hga]; exact h0), if_pos (by rw [hga]; omega), if_neg (by rw [hga]; exact h0)]
      rw [hg]
      exact ⟨rfl, s3⟩
  have st := sd.drew
  rw [drw_def]
  have hclone : ∀ W L, St F w W L → ∀ k : Sl → Pr, (∀ t w', St F w w' (SlA 1 t (l.map ub) :: L) → k t w') → app 5 1 1 [.int .u8 0] ⟨none, 0, 0⟩ b k W := by
    intro W L s k hk
    refine clone_app (hb.at s) (by omega) fun t w' ht g5 => ?_
    exact hk t w' (s.mksl g5 ht)
  refine ⟨?_, ?_⟩
  · refine st.ld (i := 1) (s := .slice) (p := di.ws) rfl ?_
    refine hclone _ _ st _ fun t w1 s1 => ?_
    refine St.nw s1 fun r w2 s2 _ _ => ?_
    exact wr_tail' hb' hw (by omega) s2 fun w' s => s
  refine hclone _ _ st _ fun t w1 s1 => ?_
  refine ⟨?_, ?_, ?_⟩
  · refine (s1.bring 1).ld (i := 1) (s := .slice) (p := di.ws) rfl ?_
    refine St.nw s1 fun r w2 s2 _ _ => ?_
    exact wr_tail' hb' hw (by omega) s2 fun w' s => s
  · refine (s1.bring 1).ld (i := 1) (s := .slice) (p := di.ws) rfl ?_
    refine St.nw s1 fun r w2 s2 _ _ => ?_
    exact wr_tail' hb' hw (by omega) s2 fun w' s => s
  · refine St.nw s1 fun r w2 s2 _ _ => ?_
    refine (s2.bring 2).ld (i := 1) (s := .slice) (p := di.ws) rfl ?_
    exact wr_tail' hb' hw (by omega) s2 fun w' s => s

/-! ### Arm, Restart -/

def armD (D : DM) (n : Int) (l : List UInt8) : Int × DM := if D.off then (5, D) else if n < 0 then (1, D) else (0, { D with armed := n, picks := l })

theorem C50 (p : Nat) (D : DM) (n : Int) (b : Sl) (l : List UInt8) (w : World) (F : Nat → Prop) (h : Has [DiskA p D] w F) (hb : Rd w F b l) (hl : l.length ≤ 1000000) :
    Calls Try.prog 50 #[P0 p, .int .i64 n, .slice b.a b.len b.cap] w (RetT [.c (.int .i64)] fun r w' => r = (armD D n l).1 ∧ St F w w' [DiskA p (armD D n l).2]) := by
  refine F50_calls _ _ _ _ _ ?_
  unfold F50
  have stF := St.init h
  obtain ⟨di, sd⟩ := (St.init h).ex
  obtain ⟨⟨hb', hw⟩, sd⟩ := sd.p
  simp only [deref_some']
  unfold armD
  refine sd.ld (i := 2) (s := .bool) (p := D.off) rfl ?_
  refine br_of (fun hoff => ?_) (fun hoff => br_of (fun hn => ?_) (fun hn => ?_))
  · rw [if_pos hoff]; exact ⟨rfl, stF⟩
  · simp only [decide_eq_true_eq] at hn
    rw [if_neg (by simp [hoff]), if_pos hn]; exact ⟨rfl, stF⟩
  simp only [decide_eq_false_iff_not] at hn
  rw [if_neg (by simp [hoff]), if_neg hn]
  refine sd.st (i := 4) (by simp) trivial fun w2 s2 => ?_
  have hbl := hb.bs.len
  refine clone_app (hb.at s2) (by omega) fun t w3 ht g => ?_
  have s3 := s2.mksl g ht
  refine (s3.bring 1).st (i := 5) (by simp) trivial fun w4 s4 => ⟨rfl, ?_⟩
  refine mkDisk (D := { D with armed := n, picks := l }) { di with ps := t } hb' hw ?_
  exact s4.sel [0, 2, 3, 1, 5, 6] 7

theorem C84 (s : Sl) (l : List UInt8) (w : World) (h : BS w s l) (hl : s.len ≤ 1000000) : Calls Try.prog 84 #[.slice s.a s.len s.cap] w (RetT [.c .slice] fun r w' => St noF w w' [SlA 1 r (l.map ub)]) := by
  refine F84_calls s _ _ ?_
  unfold F84
  refine ⟨trivial, br_of (fun hn => ?_) (fun hn => ?_)⟩
  · have ha : s.a = none := by simpa using hn
    have h0 := h.none_len ha
    have hl0 : l = [] := List.eq_nil_of_length_eq_zero (by rw [← h.len, h0])
    subst hl0
    exact (St.init0 w).nosl 1
  · have ha : s.a ≠ none := fun h => by simp [h] at hn
    refine St.nw (St.init0 w) fun r w1 s1 g1 _ => ?_
    have s2 : St noF w w1 [SlA 1 ⟨some ⟨r, 0, none⟩, 0, 0⟩ []] := by
      refine s1.conv (m := [SlA 1 ⟨some ⟨r, 0, none⟩, 0, 0⟩ []]) fun F hF => Has.mk1 ⟨⟨by simp, by simp, .inr ⟨r, 0, [], rfl, Nat.zero_le _, hF.1.lt, hF.1.unf, Row.nil _ _, rfl⟩⟩, fun c => ?_⟩
      rw [hF.2]
      constructor
      · rintro rfl; exact ⟨_, rfl, rfl⟩
      · rintro ⟨ad, h1, h2⟩; simp only [Option.some.injEq] at h1; rw [← h2, ← h1]
    have := h.len
    refine s2.app (new := l.map ub) (fun _ => by simp; omega) h.none_len (h.row.grow g1) NotAgg_ub rfl (by decide) (by dsimp only; omega) fun r2 w3 s3 _ => ?_
    exact s3

theorem C49 (p : Nat) (D : DM) (n : Int) (b : Sl) (l : List UInt8) (w : World) (F : Nat → Prop) (h : Has [DiskA p D] w F) (hb : Rd w F b l) (hok : D.ok) (hl : l.length ≤ 1000000) :
    Calls Try.prog 49 #[P0 p, .int .i64 n, .slice b.a b.len b.cap] w (RetT [.c (.int .i64)] fun r w' => r = (armD D n l).1 ∧ St F w w' [DiskA p (armD D n l).2]) := by
  refine F49_calls _ _ _ _ _ ?_
  unfold F49
  refine callF_of (C83 p D w F h hok) ?_
  rintro _ _ ⟨rfl, rfl⟩
  have stF := St.init h
  obtain ⟨di, sd⟩ := (St.init h).ex
  obtain ⟨⟨hb', hw⟩, sd⟩ := sd.p
  simp only [deref_some']
  unfold armD canE
  by_cases hoff : D.off = true
  · refine br_t (by simp [hoff]) ?_
    rw [if_pos hoff, if_pos hoff]; exact ⟨rfl, stF⟩
  refine br_f (by simp [hoff]) (br_of (fun hn => ?_) (fun hn => ?_))
  · simp only [decide_eq_true_eq] at hn
    rw [if_neg hoff, if_pos hn]; exact ⟨rfl, stF⟩
  simp only [decide_eq_false_iff_not] at hn
  rw [if_neg hoff, if_neg hn]
  have hbl := hb.bs.len
  refine callF_of (C84 b l w hb.bs (by omega)) ?_
  rintro t w2 s2
  have s3 := sd.call0 s2
  refine (s3.bring 1).st (i := 4) (by simp) trivial fun w4 s4 => ?_
  refine s4.st (i := 5) (by simp) trivial fun w5 s5 => ⟨rfl, ?_⟩
  refine mkDisk (D := { D with armed := n, picks := l }) { di with ps := t } hb' hw ?_
  exact s5.sel [0, 2, 3, 1, 5, 6] 7

def upD (D : DM) : Int × DM := if D.off then (0, { D with off := false }) else (7, D)

theorem C51 (p : Nat) (D : DM) (w : World) (F : Nat → Prop) (h : Has [DiskA p D] w F) (hok : D.ok) : Calls Try.prog 51 #[P0 p] w (RetT [.c (.int .i64)] fun r w' => r = (upD D).1 ∧ St F w w' [DiskA p (upD D).2]) := by
  refine F51_calls _ _ _ ?_
  unfold F51
  refine callF_of (C83 p D w F h hok) ?_
  rintro _ _ ⟨rfl, rfl⟩
  obtain ⟨di, sd⟩ := (St.init h).ex
  obtain ⟨⟨hb', hw⟩, sd⟩ := sd.p
  simp only [deref_some']
  unfold upD canE
  by_cases hoff : D.off = true
  · refine br_f (by simp [hoff]) (br_t (by simp [hoff]) ?_)
    rw [if_pos hoff]
    refine sd.st (i := 2) (by simp) trivial fun w2 s2 => ⟨rfl, ?_⟩
    exact mkDisk (D := { D with off := false }) di hb' hw s2
  · refine br_t (by simp [hoff]) ?_
    rw [if_neg hoff]
    exact ⟨rfl, St.init h⟩

theorem C52 (p : Nat) (D : DM) (w : World) (F : Nat → Prop) (h : Has [DiskA p D] w F) : Calls Try.prog 52 #[P0 p] w (RetT [.c (.int .i64)] fun r w' => r = (upD D).1 ∧ St F w w' [DiskA p (upD D).2]) := by
  refine F52_calls _ _ _ ?_
  unfold F52
  obtain ⟨di, sd⟩ := (St.init h).ex
  obtain ⟨⟨hb', hw⟩, sd⟩ := sd.p
  simp only [deref_some']
  unfold upD
  refine sd.ld (i := 2) (s := .bool) (p := D.off) rfl ?_
  by_cases hoff : D.off = true
  · refine br_f (by simp [hoff]) ?_
    rw [if_pos hoff]
    refine sd.st (i := 2) (by simp) trivial fun w2 s2 => ⟨rfl, ?_⟩
    exact mkDisk (D := { D with off := false }) di hb' hw s2
  · refine br_t (by simp [hoff]) ?_
    rw [if_neg hoff]
    exact ⟨rfl, St.init h⟩
end Go.Proofs

/-! Layer 3, both disks: Image. -/
namespace Go.Proofs
open Go.Eng

theorem C99 (n : Int) (w : World) (h0 : 0 ≤ n) (h1 : n ≤ 1000000) : Calls Try.prog 99 #[.slice none 0 0, .int .i64 n] w (RetT [.c .slice] fun r w' => St noF w w' [SlA 1 r []]) := by
  refine F99_calls ⟨none, 0, 0⟩ n _ _ ?_
  unfold F99
  refine jn_of (fun _ w' => w = w') (br_f (by simpa using h0) rfl) ?_
  rintro ⟨⟩ _ rfl
  have hw : IntKind.wrap .i64 (n - IntKind.wrap .i64 (((0 : Nat) : Int) - ((0 : Nat) : Int))) = n := by
    rw [show IntKind.wrap .i64 (((0 : Nat) : Int) - ((0 : Nat) : Int)) = 0 from rfl, wrap_i64 (by omega)]; omega
  rw [hw]
  refine br_of (fun h => ?_) (fun h => (St.init0 w).nosl 1)
  simp only [gt_iff_lt, decide_eq_true_eq] at h
  refine slc_hi (by decide) (by decide) ?_
  simp only [Int.toNat_natCast, if_true]
  refine ⟨h0, by omega, wrap_i64 (by omega), fun hroom => ?_, fun _ => ⟨[], fun h => by simp at h, rfl, ?_, ?_, ?_⟩⟩
  · have : 0 + n.toNat ≤ 0 := hroom
    omega
  · have := nextslicecap_le (show 0 < 0 + n.toNat by omega)
    show Builtin.nextslicecap (0 + n.toNat) 0 * 1 ≤ 2 ^ 48
    omega
  · show 0 + n.toNat < 2 ^ 63
    omega
  intro cap hc1 hc2
  dsimp only at hc1 hc2 ⊢
  refine slc_hi (by decide) (by dsimp only; omega) ?_
  simp only [map_add_zero, ite_self]
  refine (St.init0 w).mksl ((Mod.refl _ w).drew.alloc _) ?_
  generalize hL : ([] ++ zc [.int .u8 0] n.toNat ++ zc [.int .u8 0] (cap - (0 + n.toNat)) : List Value) = L
  have hLl : L.length = cap * 1 := by rw [← hL]; simp only [List.nil_append, List.length_append, zc_length, List.length_cons, List.length_nil]; omega
  refine ⟨by simp, by simp, .inr ⟨w.heap.size, 0, L, rfl, Nat.le_refl _, by simp, fun o => ?_, ?_, by simpa using hLl⟩⟩
  · exact World.frozen?_alloc_new w.drew _ _ o
  · intro j v hj
    rw [add_mk, Nat.zero_add]
    have := World.cell?_alloc_new w.drew L.toArray 5 j
    rw [World.size_drew] at this
    rw [this]
    simpa using hj

def catB (bl : List (Sl × List UInt8)) : List UInt8 := bl.flatMap (·.2)
theorem catB_succ {bl : List (Sl × List UInt8)} {j : Nat} {x : Sl × List UInt8} (h : bl[j]? = some x) : catB (bl.take (j + 1)) = catB (bl.take j) ++ x.2 := by
  have hj := (split_at h).2
  rw [List.getElem?_eq_getElem hj, Option.some.injEq] at h
  unfold catB
  rw [List.take_add_one, List.getElem?_eq_getElem hj, h, List.flatMap_append]
  simp
theorem catB_len {bl : List (Sl × List UInt8)} (h : ∀ x ∈ bl, x.2.length = 256) : (catB bl).length = bl.length * 256 := by
  unfold catB
  induction bl with
  | nil => rfl
  | cons x bl ih =>
    rw [List.flatMap_cons, List.length_append, ih fun y hy => h y (by simp [hy]), h x (by simp), List.length_cons]
    omega

/-- what a walk reads of rows of bytes -/
structure Rows256 (w : World) (bs : Sl) (bl : List (Sl × List UInt8)) : Prop where
  own : OwnS w 0 1 bs (bl.map fun x => slV x.1)
  row : ∀ x ∈ bl, BS w x.1 x.2
  len : ∀ x ∈ bl, x.2.length = 256
  le : bl.length ≤ 2048
theorem Rows256.grow {w w' : World} {bs : Sl} {bl : List (Sl × List UInt8)} (h : Rows256 w bs bl) (g : Grow w w') : Rows256 w' bs bl := ⟨h.own.grow g, fun x hx => (h.row x hx).grow g, h.len, h.le⟩
theorem Rows256.at {w : World} {bs : Sl} {bl : List (Sl × List UInt8)} (h : Rows256 w bs bl) {j : Nat} {x : Sl × List UInt8} (hx : bl[j]? = some x) {k : Sl → Pr} (hk : k x.1 w) :
    (owe ((0 : Int) ≤ (j : Int) ∧ (j : Int) < (bs.len : Int)) <| deref bs.a fun a => ldC .slice (a.add (Int.toNat (j : Int) * 1)) k) w := by
  have hl := slA_len1 h.own
  rw [List.length_map] at hl
  have := (split_at hx).2
  refine ⟨⟨by omega, by omega⟩, ?_⟩
  rw [Int.toNat_natCast]
  exact at_own h.own (p := x.1) (by rw [List.getElem?_map, hx]; rfl) hk
theorem Rows256.blen {w : World} {bs : Sl} {bl : List (Sl × List UInt8)} (h : Rows256 w bs bl) : bs.len = bl.length := by
  have := slA_len1 h.own
  rwa [List.length_map] at this

theorem C86 (bs : Sl) (bl : List (Sl × List UInt8)) (w : World) (h : Rows256 w bs bl) : Calls Try.prog 86 #[.slice bs.a bs.len bs.cap] w (RetT [.c .slice] fun r w' => St noF w w' [SlA 1 r ((catB bl).map ub)]) := by
  refine F86_calls bs _ _ ?_
  unfold F86
  have hl := h.blen
  have hle := h.le
  simp only [deref_some']
  refine loop_of (fun z W => ∃ j : Nat, z.2 = j ∧ j ≤ bl.length ∧ z.1 = ((256 * j : Nat) : Int) ∧ w = W) (fun z _ => bl.length - z.2.toNat) ⟨0, rfl, by omega, rfl, rfl⟩ ?_
  rintro ⟨n, _⟩ _ ⟨j, rfl, hj, rfl, rfl⟩
  dsimp only
  refine br_of (fun hlt => ?_) (fun hge => ?_)
  · simp only [decide_eq_true_eq] at hlt
    have hjl : j < bl.length := by omega
    obtain ⟨x, hx⟩ : ∃ x, bl[j]? = some x := ⟨bl[j], by simp [hjl]⟩
    have hx256 := h.len x (List.mem_of_getElem? hx)
    have hxl := (h.row x (List.mem_of_getElem? hx)).len
    refine jn_of (fun m W => m = ((256 * (j + 1) : Nat) : Int) ∧ w = W) ?_ ?_
    · refine h.at hx ?_
      rw [wrap_i64 (by omega)]
      refine br_f (by simp only [decide_eq_false_iff_not]; omega) ⟨by omega, rfl⟩
    · rintro m _ ⟨rfl, rfl⟩
      rw [wrap_succ (by omega)]
      exact ⟨⟨j + 1, rfl, by omega, rfl, rfl⟩, by omega⟩
  · simp only [decide_eq_false_iff_not] at hge
    refine callF_of (C99 ((256 * j : Nat) : Int) w (by omega) (by omega)) ?_
    rintro t w1 s1
    refine loop_of (fun z W => ∃ j : Nat, z.2 = j ∧ j ≤ bl.length ∧ St noF w W [SlA 1 z.1 ((catB (bl.take j)).map ub)]) (fun z _ => bl.length - z.2.toNat) ⟨0, rfl, by omega, s1⟩ ?_
    rintro ⟨u, _⟩ W ⟨j, rfl, hj, s2⟩
    dsimp only at s2 ⊢
    refine br_of (fun hlt => ?_) (fun hge => ?_)
    · simp only [decide_eq_true_eq] at hlt
      have hjl : j < bl.length := by omega
      obtain ⟨x, hx⟩ : ∃ x, bl[j]? = some x := ⟨bl[j], by simp [hjl]⟩
      have hx256 := h.len x (List.mem_of_getElem? hx)
      have hxb := (h.row x (List.mem_of_getElem? hx)).grow s2.gro
      have hxl := hxb.len
      have hul := slA_len1 s2.sl
      rw [List.length_map, catB_len fun y hy => h.len y (List.mem_of_mem_take hy), List.length_take] at hul
      refine (h.grow s2.gro).at hx ?_
      refine s2.app (new := x.2.map ub) (fun _ => by simp; omega) hxb.none_len hxb.row NotAgg_ub rfl (by decide) (by omega) fun r w3 s3 _ => ?_
      rw [wrap_succ (by omega)]
      refine ⟨⟨j + 1, rfl, by omega, ?_⟩, by omega⟩
      rw [catB_succ hx, List.map_append]
      exact s3
    · simp only [decide_eq_false_iff_not] at hge
      rw [List.take_of_length_le (by omega)] at s2
      exact s2

theorem rows_of {p : Nat} {D : DM} {w : World} {F : Nat → Prop} (h : Has [DiskA p D] w F) (hok : D.ok) : ∃ di : DI, D.blocks = di.bl.map (·.2) ∧ Rows256 w di.bs di.bl ∧ ∃ vs, Box w p (slV di.bs :: vs) := by
  obtain ⟨di, sd⟩ := (St.init h).ex
  obtain ⟨⟨hb', hw⟩, sd⟩ := sd.p
  have hl : di.bl.length = D.blocks.length := by rw [hb']; simp
  refine ⟨di, hb', ⟨(sd.bring 1).sl, fun x hx => ?_, fun x hx => hok.len _ (by rw [hb']; exact List.mem_map.2 ⟨x, hx, rfl⟩), by rw [hl]; exact hok.le⟩, _, sd.box⟩
  obtain ⟨j, hj⟩ := List.getElem?_of_mem hx
  exact ((sd.bring 4).pick (i := j) (A := bytA x) (by rw [List.getElem?_map, hj]; rfl)).sl.bs

theorem catB_flat (bl : List (Sl × List UInt8)) : catB bl = (bl.map (·.2)).flatten := by unfold catB; rw [List.flatMap_def]

theorem C54 (p : Nat) (D : DM) (w : World) (F : Nat → Prop) (h : Has [DiskA p D] w F) (hok : D.ok) : Calls Try.prog 54 #[P0 p] w (RetT [.c .slice] fun r w' => St noF w w' [SlA 1 r (D.blocks.flatten.map ub)]) := by
  refine F54_calls _ _ _ ?_
  unfold F54
  obtain ⟨di, hb, hr, vs, hbx⟩ := rows_of h hok
  refine ⟨trivial, br_f rfl ?_⟩
  simp only [deref_some']
  refine hbx.ld (i := 0) (s := .slice) (p := di.bs) rfl ?_
  refine callF_of (C86 di.bs di.bl w hr) ?_
  rintro t w1 s1
  rw [hb, ← catB_flat]
  exact s1

theorem C55 (p : Nat) (D : DM) (w : World) (F : Nat → Prop) (h : Has [DiskA p D] w F) (hok : D.ok) : Calls Try.prog 55 #[P0 p] w (RetT [.c .slice] fun r w' => St noF w w' [SlA 1 r (D.blocks.flatten.map ub)]) := by
  refine F55_calls _ _ _ ?_
  unfold F55
  obtain ⟨di, hb, hr, vs, hbx⟩ := rows_of h hok
  have hl := hr.blen
  have hle := hr.le
  simp only [deref_some']
  refine loop_of (fun z W => ∃ j : Nat, z.2 = j ∧ j ≤ di.bl.length ∧ St noF w W [SlA 1 z.1 ((catB (di.bl.take j)).map ub)]) (fun z _ => di.bl.length - z.2.toNat) ⟨0, rfl, by omega, (St.init0 w).nosl 1⟩ ?_
  rintro ⟨u, _⟩ W ⟨j, rfl, hj, s2⟩
  dsimp only at s2 ⊢
  refine (hbx.grow s2.gro).ld (i := 0) (s := .slice) (p := di.bs) rfl ?_
  refine br_of (fun hlt => ?_) (fun hge => ?_)
  · simp only [decide_eq_true_eq] at hlt
    have hjl : j < di.bl.length := by omega
    obtain ⟨x, hx⟩ : ∃ x, di.bl[j]? = some x := ⟨di.bl[j], by simp [hjl]⟩
    have hx256 := hr.len x (List.mem_of_getElem? hx)
    have hxb := (hr.row x (List.mem_of_getElem? hx)).grow s2.gro
    have hxl := hxb.len
    have hul := slA_len1 s2.sl
    rw [List.length_map, catB_len fun y hy => hr.len y (List.mem_of_mem_take hy), List.length_take] at hul
    refine (hbx.grow s2.gro).ld (i := 0) (s := .slice) (p := di.bs) rfl ?_
    refine (hr.grow s2.gro).at hx ?_
    refine s2.app (new := x.2.map ub) (fun _ => by simp; omega) hxb.none_len hxb.row NotAgg_ub rfl (by decide) (by omega) fun r w3 s3 _ => ?_
    rw [wrap_succ (by omega)]
    refine ⟨⟨j + 1, rfl, by omega, ?_⟩, by omega⟩
    rw [catB_succ hx, List.map_append]
    exact s3
  · simp only [decide_eq_false_iff_not] at hge
    rw [List.take_of_length_le (by omega)] at s2
    rw [hb, ← catB_flat]
    exact s2
end Go.Proofs
