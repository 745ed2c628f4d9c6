import Derived.Test.YtiebhappinojmaaGreatX1
import Derived.Test.YtiebhappinojmaaGreatX2
import Derived.Test.YtiebhappinojmaaGreatX3
import Derived.Test.YtiebhappinojmaaGreatProg
set_option linter.unusedVariables false
set_option linter.unusedSimpArgs false
set_option linter.unusedSectionVars false
namespace Go.Proofs
open Go.Eng
theorem cpy_mid {w : World} {n0 n : Nat} {t s' src : Sl} {vs new : List Value} {k : Pr} {o : Nat} (h : OwnS w n0 n t vs) (ho : o ≤ t.len) (ha : s'.a = t.a.map (·.add (o * n)) ∨ s'.len = 0) (hl : s'.len ≤ t.len - o)
   (hr : readsO w src.a new) (hn : src.a.isSome = true → new.length = src.len * n) (hn0 : src.a = none → src.len = 0) (hle : src.len ≤ s'.len) (hna : ∀ v ∈ new, NotAgg v)
   (hk : ∀ w', OwnS w' n0 n t (vs.take (o * n) ++ new ++ vs.drop (o * n + new.length)) → Mod t.blk w w' → w'.heap.size = w.heap.size → k w') : cpy n s' src k w := by
 have hnl : new.length = src.len * n := by
   cases hsa : src.a with
   | some _ => exact hn (by simp [hsa])
   | none =>
     rw [hsa] at hr
     have : new = [] := hr
     rw [this, hn0 hsa]; simp
 refine ⟨new, fun _ => by rw [hnl, show Nat.min src.len s'.len = src.len from Nat.min_eq_left hle], hr, ?_⟩
 by_cases hz : new = []
 · subst hz
   rw [stO_nil]
   refine hk w ?_ (Mod.refl _ _) rfl
   simpa using h
 · have hpos : src.len ≠ 0 := by
     intro h0
     rw [h0] at hnl
     simp at hnl
     exact hz hnl
   have ha' : s'.a = t.a.map (·.add (o * n)) := ha.resolve_right (by omega)
   rcases h.row with ⟨h1, h2, h3⟩ | ⟨b, off, spare, h1, h2, h3, h4, h5, h6⟩
   · omega
   · rw [ha', h1]
     show stL ((Addr.add ⟨b, off, none⟩ (o * n)).add 0) 0 new k w
     rw [add_zero', stL_shift, Nat.add_zero]
     have hlen := h.len
     have hb : o * n + new.length ≤ vs.length := by
       rw [hnl, hlen, ← Nat.add_mul]
       exact Nat.mul_le_mul_right n (by omega)
     refine stL_of rfl h5 (by rw [List.length_append]; omega) hna h4 ?_
     intro w' g1 g2 g3 g4
     refine hk w' ⟨?_, h.le, .inr ⟨b, off, spare, h1, h2, by rw [g3]; exact h3, g4 _ h4, ?_, ?_⟩⟩ (g2.mono fun c _ hc => ⟨_, h1, hc.symm⟩) g3
     · simp only [List.length_append, List.length_take, List.length_drop]
       omega
     · rw [List.take_append_of_le_length (by omega), List.drop_append_of_le_length (by omega)] at g1
       simpa [List.append_assoc] using g1
     · simp only [List.length_append, List.length_take, List.length_drop] at *
       omega
theorem BS.cut {w : World} {s : Sl} {l : List UInt8} (h : BS w s l) (m c : Nat) (hm : m ≤ s.len) : BS w ⟨s.a, m, c⟩ (l.take m) := by
 have hl := h.len
 refine ⟨by simp; omega, ?_⟩
 have hr := h.row
 rw [List.map_take]
 cases ha : s.a with
 | none =>
   rw [ha] at hr
   have : l.map ub = [] := hr
   show (l.map ub).take m = []
   rw [this, List.take_nil]
 | some ad =>
   rw [ha] at hr
   exact readsAt_row.2 ((readsAt_row.1 hr).take m)
theorem cpy_min {w : World} {n : Nat} {d s : Sl} {k : Pr} (h : cpy n d ⟨s.a, Nat.min s.len d.len, 0⟩ k w) : cpy n d s k w := by
 obtain ⟨vs, h1, h2, h3⟩ := h
 refine ⟨vs, fun hs => ?_, h2, h3⟩
 have := h1 hs
 dsimp only at this
 rwa [show Nat.min (Nat.min s.len d.len) d.len = Nat.min s.len d.len from Nat.min_eq_left (Nat.min_le_right _ _)] at this
def pbit (p : Int) (k : Nat) : Bool := bAnd .u8 (bShr .u8 p k) 1 == 1
def reachB (b l : List UInt8) (p : Int) : Nat → List UInt8
 | 0 => b
 | k + 1 => if pbit p k then lay (reachB b l p k) (64 * k) ((l.drop (64 * k)).take 64) else reachB b l p k
theorem reachB_len {b l : List UInt8} {p : Int} (hb : b.length = 256) (hl : l.length = 256) : ∀ k, k ≤ 4 → (reachB b l p k).length = 256
 | 0, _ => hb
 | k + 1, hk => by
   unfold reachB
   have := reachB_len (p := p) hb hl k (by omega)
   split
   · rw [lay_len (by simp; omega)]; exact this
   · exact this
def setBl (di : DI) (i : Nat) (b : List UInt8) : DI := { di with bl := di.bl.modify i fun x => (x.1, b) }
theorem modify_map2 {l : List (Sl × List UInt8)} {i : Nat} {b : List UInt8} : (l.modify i fun x => (x.1, b)).map (·.2) = (l.map (·.2)).set i b := by
 refine List.ext_getElem? fun j => ?_
 rw [List.getElem?_map, List.getElem?_modify, List.getElem?_set, List.length_map]
 by_cases h : i = j
 · subst h
   simp only [if_true]
   split
   · rename_i h
     simp [h]
   · rename_i h
     rw [List.getElem?_eq_none (by omega)]; rfl
 · simp [h]
theorem modify_map1 {l : List (Sl × List UInt8)} {i : Nat} {b : List UInt8} : (l.modify i fun x => (x.1, b)).map (fun x => slV x.1) = l.map fun x => slV x.1 := by
 refine List.ext_getElem? fun j => ?_
 rw [List.getElem?_map, List.getElem?_modify, List.getElem?_map]
 cases hj : l[j]? with
 | none => rfl
 | some x => by_cases h : i = j <;> simp [h]
theorem modify_set {l : List (Sl × List UInt8)} {i : Nat} {b : List UInt8} {x : Sl × List UInt8} (hx : l[i]? = some x) : (l.modify i fun x => (x.1, b)) = l.set i (x.1, b) := by
 refine List.ext_getElem? fun j => ?_
 rw [List.getElem?_modify, List.getElem?_set]
 by_cases h : i = j
 · subst h; rw [hx]; simp [(split_at hx).2]
 · simp [h]
theorem modify_same {l : List (Sl × List UInt8)} {i : Nat} {x : Sl × List UInt8} (hx : l[i]? = some x) : (l.modify i fun y => (y.1, x.2)) = l := by
 rw [modify_set hx]
 refine List.ext_getElem? fun j => ?_
 rw [List.getElem?_set]
 split
 · rename_i h; subst h; rw [if_pos (split_at hx).2, hx]
 · rfl
def dpc (p : Nat) (D : DM) (i : DI) : List HA :=
 [BoxA p [slV i.bs, slV i.ws, .bool D.off, .int .i64 D.ops, .int .i64 D.armed, slV i.ps], SlA 1 i.bs (i.bl.map fun x => slV x.1), SlA 2 i.ws (i.wl.flatMap wcells), SlA 1 i.ps (D.picks.map ub), bigA (i.bl.map bytA), bigA (i.wl.map fun x => bytA x.2)]
theorem C103 (p : Nat) (D : DM) (di : DI) (i j : Nat) (s : Sl) (l : List UInt8) (x : Sl × List UInt8) (pick : Int) (w : World) (F : Nat → Prop) (h : Has (dpc p D di) w F) (hx : di.bl[i]? = some x) (hj : di.wl[j]? = some ((i : Int), s, l)) (hx256 : x.2.length = 256) (hl256 : l.length = 256) :
   Calls Tryz.prog 120 #[P0 p, .agg #[.int .i64 (i : Int), .slice s.a s.len s.cap], .int .u8 pick] w (RetT [] fun _ w' => St F w w' (dpc p D (setBl di i (reachB x.2 l pick 4)))) := by
 refine F120_calls _ _ _ _ _ _ ?_
 unfold F120
 refine St.nw (St.init h) fun r w1 s1 _ _ => ?_
 simp only [deref_some']
 refine loop_of (fun z W => ∃ k : Nat, z = k ∧ k ≤ 4 ∧ St F w W (BoxA r [.int .i64 (i : Int), slV s] :: dpc p D (setBl di i (reachB x.2 l pick k)))) (fun z _ => 4 - z.toNat) ⟨0, rfl, by omega, ?_⟩ ?_
 · have : setBl di i (reachB x.2 l pick 0) = di := by
     unfold setBl reachB
     rw [modify_same hx]
   rw [this]
   exact s1
 rintro _ W ⟨k, rfl, hk, st⟩
 refine br_of (fun hlt => ?_) (fun hge => ?_)
 rotate_left
 · simp only [decide_eq_false_iff_not] at hge
   have : k = 4 := by omega
   subst this
   exact st.drop
 simp only [decide_eq_true_eq] at hlt
 refine jn_of (fun _ W' => St F w W' (BoxA r [.int .i64 (i : Int), slV s] :: dpc p D (setBl di i (reachB x.2 l pick (k + 1))))) ?_ ?_
 rotate_left
 · rintro ⟨⟩ W' s2
   rw [wrap_succ (by omega)]
   exact ⟨⟨k + 1, rfl, by omega, s2⟩, by omega⟩
 refine ⟨by omega, ?_⟩
 have hr256 : (reachB x.2 l pick k).length = 256 := reachB_len hx256 hl256 k (by omega)
 refine br_of (fun hbit => ?_) (fun hbit => ?_)
 rotate_left
 · have : reachB x.2 l pick (k + 1) = reachB x.2 l pick k := by
     show (if pbit pick k then _ else _) = _
     rw [if_neg (by unfold pbit; rw [hbit]; simp)]
   rw [this]
   exact st
 have hr1 : reachB x.2 l pick (k + 1) = lay (reachB x.2 l pick k) (64 * k) ((l.drop (64 * k)).take 64) := by
   show (if pbit pick k then _ else _) = _
   rw [if_pos (show pbit pick k = true from hbit)]
 rw [drw_def]
 have sd := st.drew
 have hil := (split_at hx).2
 have hx2 : (setBl di i (reachB x.2 l pick k)).bl[i]? = some (x.1, reachB x.2 l pick k) := by
   show (di.bl.modify i _)[i]? = _
   rw [List.getElem?_modify, hx]; simp
 refine (sd.bring 1).ld (i := 0) (s := .slice) (p := di.bs) rfl ?_
 refine sd.ld (i := 0) (s := .int .i64) (p := (i : Int)) rfl ?_
 have hbsl := slA_len1 (sd.bring 2).sl
 rw [List.length_map] at hbsl
 have hbl : (setBl di i (reachB x.2 l pick k)).bl.length = di.bl.length := by show (di.bl.modify i _).length = _; simp
 refine ⟨⟨by omega, by show (i : Int) < (di.bs.len : Int); have : di.bs.len = di.bl.length := hbsl.trans hbl; omega⟩, ?_⟩
 refine at_own (sd.bring 2).sl (p := x.1) (by rw [Int.toNat_natCast, List.getElem?_map, hx2]; rfl) ?_
 have sp := (sd.bring 5).pick (i := i) (A := bytA (x.1, reachB x.2 l pick k)) (by rw [List.getElem?_map, hx2]; rfl)
 have hxl := slA_len1 sp.sl
 rw [List.length_map, hr256] at hxl
 have hxc := sp.sl.le
 dsimp only at hxl hxc
 rw [show IntKind.wrap .i64 ((k : Int) * 64) = ((64 * k : Nat) : Int) by rw [wrap_i64 (by omega)]; omega]
 rw [show IntKind.wrap .i64 (((64 * k : Nat) : Int) + 64) = ((64 * k + 64 : Nat) : Int) by rw [wrap_i64 (by omega)]; omega]
 refine ⟨by simp, by simp, fun y hy => ?_, fun y hy => ?_, ?_⟩
 · simp only [Option.some.injEq] at hy; subst hy
   simp only [Option.map_none, Option.getD_none]
   omega
 · simp only [Option.some.injEq] at hy; subst hy
   simp only [Option.map_some, Option.getD_some, Int.toNat_natCast]
   omega
 simp only [Option.map_none, Option.map_some, Option.getD_none, Option.getD_some, Int.toNat_natCast, Nat.mul_one]
 refine sd.ld (i := 1) (s := .slice) (p := s) rfl ?_
 have hsb : BS _ s l := ((sd.bring 6).pick (i := j) (A := bytA (s, l)) (by simp [setBl, hj])).sl.bs
 have hsl := hsb.len
 refine slc_lo (by omega) (by omega) ?_
 simp only [Int.toNat_natCast, Nat.mul_one]
 refine cpy_min ?_
 have hsrc : BS W.drew ⟨if s.cap = 64 * k then s.a else s.a.map (·.add (64 * k)), s.len - 64 * k, s.cap - 64 * k⟩ (l.drop (64 * k)) := by
   refine ⟨by simp; omega, ?_⟩
   have hrow := hsb.row
   have hscap : 64 * k < s.cap := by
     have := ((sd.bring 6).pick (i := j) (A := bytA (s, l)) (by simp [setBl, hj])).sl.le
     dsimp only at this
     omega
   show readsO W.drew (if s.cap = 64 * k then s.a else s.a.map (·.add (64 * k))) ((l.drop (64 * k)).map ub)
   rw [if_neg (by omega), List.map_drop]
   cases hsa : s.a with
   | none =>
     have := hsb.none_len hsa
     omega
   | some ad =>
     rw [hsa] at hrow
     exact readsAt_row.2 ((readsAt_row.1 hrow).drop _)
 have hcut := BS.cut hsrc 64 0 (by dsimp only; omega)
 have hm64 : Nat.min (s.len - 64 * k) (64 * k + 64 - 64 * k) = 64 := by
   show min _ _ = 64
   omega
 dsimp only at hm64 ⊢
 rw [hm64]
 refine cpy_mid sp.sl (o := 64 * k) (by dsimp only; omega) (.inl ?_) (by dsimp only; omega) hcut.row (fun _ => ?_) hcut.none_len (by dsimp only; omega) NotAgg_ub ?_
 · dsimp only
   rw [if_neg (by omega), Nat.mul_one]
 · simp only [List.length_map, List.length_take, List.length_drop]; omega
 · intro w' g1 g2 g3
   have s3 := sp.slm g2 (us := (reachB x.2 l pick (k + 1)).map ub) ?_ fun _ h => .inl h
   · have s4 := St.unpick (A := bytA (x.1, reachB x.2 l pick (k + 1))) s3 (by rw [List.length_map, hbl]; exact hil)
     have e : ((setBl di i (reachB x.2 l pick k)).bl.map bytA).set i (bytA (x.1, reachB x.2 l pick (k + 1))) = (setBl di i (reachB x.2 l pick (k + 1))).bl.map bytA := by
       show ((di.bl.modify i _).map bytA).set i _ = (di.bl.modify i _).map bytA
       rw [modify_set hx, modify_set hx, ← List.map_set, List.set_set]
     rw [e] at s4
     have e2 : (setBl di i (reachB x.2 l pick k)).bl.map (fun x => slV x.1) = (setBl di i (reachB x.2 l pick (k + 1))).bl.map (fun x => slV x.1) := by
       show (di.bl.modify i _).map _ = (di.bl.modify i _).map _
       rw [modify_map1, modify_map1]
     have s5 := s4.sel [1, 2, 3, 4, 5, 0, 6] 7
     rw [e2] at s5
     exact s5
   · have hh : ((reachB x.2 l pick k).map ub).take (64 * k * 1) ++ ((l.drop (64 * k)).take 64).map ub ++ ((reachB x.2 l pick k).map ub).drop (64 * k * 1 + (((l.drop (64 * k)).take 64).map ub).length) = (reachB x.2 l pick (k + 1)).map ub := by
       rw [hr1]
       unfold lay
       simp only [Nat.mul_one, List.map_append, List.map_take, List.map_drop, List.length_map, List.length_take, List.length_drop]
     rw [← hh]
     exact g1
end Go.Proofs

namespace Go.Proofs
open Go.Eng
def fallGo : List (List UInt8) → List (Int × List UInt8) → List UInt8 → List (List UInt8)
 | bl, [], _ => bl
 | bl, _ :: _, [] => bl
 | bl, x :: ws, p :: ps => fallGo (bl.set x.1.toNat (reachB ((bl[x.1.toNat]?).getD []) x.2 p.toNat 4)) ws ps
def fallsD (D : DM) (pl : List UInt8) : DM := ⟨fallGo D.blocks D.wait pl, [], true, D.ops, 0, []⟩
def goesD (D : DM) : Bool × DM :=
 if D.armed = 0 then (false, { D with ops := D.ops + 1 })
 else if D.armed > 1 then (false, { D with ops := D.ops + 1, armed := D.armed - 1 })
 else (true, fallsD { D with ops := D.ops + 1 } D.picks)
theorem at_bs {w : World} {s : Sl} {l : List UInt8} {j : Nat} {b : UInt8} {k : Int → Pr} (h : BS w s l) (hb : l[j]? = some b) (hk : k (b.toNat : Int) w) :
   (owe ((0 : Int) ≤ (j : Int) ∧ (j : Int) < (s.len : Int)) <| deref s.a fun a => ldC (.int .u8) (a.add (Int.toNat (j : Int) * 1)) k) w := by
 obtain ⟨ad, h1, h2⟩ := h.get hb
 have hl := h.len
 have := (split_at hb).2
 refine ⟨⟨by omega, by omega⟩, ?_⟩
 rw [h1]
 simp only [deref_some', Int.toNat_natCast, Nat.mul_one]
 exact ldC_of (s := .int .u8) (p := (b.toNat : Int)) h2 hk
theorem at_w {w : World} {s : Sl} {wl : List (Int × Sl × List UInt8)} {j : Nat} {x : Int × Sl × List UInt8} {k : Int × Sl → Pr} (h : OwnS w 0 2 s (wl.flatMap wcells)) (hx : wl[j]? = some x) (hk : k (x.1, x.2.1) w) :
   (owe ((0 : Int) ≤ (j : Int) ∧ (j : Int) < (s.len : Int)) <| deref s.a fun a => ldA [.int .i64, .slice] (a.add (Int.toNat (j : Int) * 2)) k) w := by
 have hss : WS w s wl := OwnS.ss wcells_len (by decide) h
 have hl := hss.len
 have := (split_at hx).2
 refine ⟨⟨by omega, by omega⟩, ?_⟩
 obtain ⟨ad, ha, hrow⟩ := hss.get (n := 2) wcells_len hx (by decide)
 rw [ha]
 simp only [deref_some', Int.toNat_natCast]
 exact ldA_of (p := (x.1, x.2.1)) (show readsAt w (ad.add (j * 2)) 0 (valA [.int .i64, .slice] (x.1, x.2.1)) from readsAt_row.2 hrow) hk
structure SameDI (di dj : DI) : Prop where
 bs : dj.bs = di.bs
 ws : dj.ws = di.ws
 ps : dj.ps = di.ps
 wl : dj.wl = di.wl
theorem C95 (p : Nat) (D : DM) (di : DI) (q : Sl) (pl : List UInt8) (w : World) (F : Nat → Prop) (h : Has (dpc p D di) w F) (hb : D.blocks = di.bl.map (·.2)) (hw : D.wait = di.wl.map fun x => (x.1, x.2.2)) (hok : D.ok) (hwl : D.wait.length ≤ 1000000000)
   (hq : ∀ W dj L, SameDI di dj → St F w W (dpc p D dj ++ L) → BS W q pl) :
   Calls Tryz.prog 68 #[P0 p, .slice q.a q.len q.cap] w (RetT [] fun _ w' => St F w w' [DiskA p (fallsD D pl)]) := by
 refine F68_calls _ _ _ _ ?_
 unfold F68
 have st := St.init h
 simp only [deref_some']
 refine st.ld (i := 1) (s := .slice) (p := di.ws) rfl ?_
 have hwn : di.wl.length ≤ 1000000000 := by rw [hw, List.length_map] at hwl; exact hwl
 have hwsl : di.ws.len = di.wl.length := (OwnS.ss (f := wcells) wcells_len (by decide) (st.bring 2).sl).len
 refine loop_of (fun z W => ∃ (j : Nat) (dj : DI), z = j ∧ j ≤ di.wl.length ∧ SameDI di dj ∧ (dj.bl.map (·.2)).length = D.blocks.length ∧ (∀ b ∈ dj.bl.map (·.2), b.length = 256) ∧ fallGo (dj.bl.map (·.2)) (D.wait.drop j) (pl.drop j) = fallGo D.blocks D.wait pl ∧ St F w W (dpc p D dj)) (fun z _ => di.wl.length - z.toNat)
   ⟨0, di, rfl, by omega, ⟨rfl, rfl, rfl, rfl⟩, by rw [hb], by rw [← hb]; exact hok.len, by rw [hb]; rfl, st⟩ ?_
 rintro _ W ⟨j, dj, rfl, hj, hsame, hbl, hb256, hgo, s1⟩
 have hqs := hq W dj [] hsame s1
 have hql := hqs.len
 refine br_of (fun hlt => ?_) (fun hge => ?_)
 · simp only [decide_eq_true_eq] at hlt
   have hjl : j < di.wl.length := by omega
   refine jn_of (fun _ W' => ∃ dj : DI, SameDI di dj ∧ (dj.bl.map (·.2)).length = D.blocks.length ∧ (∀ b ∈ dj.bl.map (·.2), b.length = 256) ∧ fallGo (dj.bl.map (·.2)) (D.wait.drop (j + 1)) (pl.drop (j + 1)) = fallGo D.blocks D.wait pl ∧ St F w W' (dpc p D dj)) ?_ ?_
   rotate_left
   · rintro ⟨⟩ W' ⟨dk, h1, h2, h3, h4, s2⟩
     rw [wrap_succ (by omega)]
     exact ⟨⟨j + 1, dk, rfl, hjl, h1, h2, h3, h4, s2⟩, by omega⟩
   obtain ⟨x, hxx⟩ : ∃ x, di.wl[j]? = some x := ⟨di.wl[j], by simp [hjl]⟩
   have hDj : D.wait[j]? = some (x.1, x.2.2) := by rw [hw, List.getElem?_map, hxx]; rfl
   have hxw := hok.wlen _ (List.mem_of_getElem? hDj)
   dsimp only at hxw
   have hdrop : D.wait.drop j = (x.1, x.2.2) :: D.wait.drop (j + 1) := by
     have := (split_at hDj).2
     rw [List.getElem?_eq_getElem this, Option.some.injEq] at hDj
     rw [List.drop_eq_getElem_cons this, hDj]
   refine at_w (x := x) (s := di.ws) (wl := di.wl) (by have := (s1.bring 2).sl; rw [hsame.ws, hsame.wl] at this; exact this) hxx ?_
   refine St.nw s1 fun r w2 s2 _ _ => ?_
   refine s2.st0 trivial fun w3 s3 => ?_
   refine s3.st (i := 1) (by simp) trivial fun w4 s4 => ?_
   refine br_of (fun hlt2 => ?_) (fun hge2 => ?_)
   · simp only [decide_eq_true_eq] at hlt2
     have hjp : j < pl.length := by omega
     rw [drw_def]
     have s5 := s4.drew
     have hpick : pl.drop j = pl[j] :: pl.drop (j + 1) := List.drop_eq_getElem_cons hjp
     refine ldA_of (p := (x.1, x.2.1)) (show readsAt _ ⟨r, 0, none⟩ 0 (valA [.int .i64, .slice] (x.1, x.2.1)) from readsAt_row.2 s5.box.row) ?_
     refine at_bs (b := pl[j]) (hq _ dj [_] hsame (s5.sel [1, 2, 3, 4, 5, 6, 0] 7)) (by simp [hjp]) ?_
     obtain ⟨G, H, g1, _, _, _, gc⟩ := St.call (dpc p D dj) (s5.drop)
     obtain ⟨i, hi⟩ := Int.eq_ofNat_of_zero_le hxw.1
     have hil : i < dj.bl.length := by rw [List.length_map] at hbl; omega
     obtain ⟨y, hy⟩ : ∃ y, dj.bl[i]? = some y := ⟨dj.bl[i], by simp [hil]⟩
     have hy256 : y.2.length = 256 := hb256 _ (List.mem_map.2 ⟨y, List.mem_of_getElem? hy, rfl⟩)
     have hxj : dj.wl[j]? = some ((i : Int), x.2.1, x.2.2) := by rw [hsame.wl, hxx, ← hi]
     dsimp only
     rw [hi]
     refine callF_of (C103 p D dj i j x.2.1 x.2.2 y (pl[j].toNat : Int) _ G g1 hy hxj hy256 hxw.2.2) ?_
     rintro ⟨⟩ w6 s6
     have s7 := gc _ _ s6
     have hset : (setBl dj i (reachB y.2 x.2.2 (pl[j].toNat : Int) 4)).bl.map (·.2) = (dj.bl.map (·.2)).set i (reachB y.2 x.2.2 (pl[j].toNat : Int) 4) := modify_map2
     refine ⟨setBl dj i (reachB y.2 x.2.2 (pl[j].toNat : Int) 4), ⟨hsame.bs, hsame.ws, hsame.ps, hsame.wl⟩, ?_, ?_, ?_, ?_⟩
     · rw [hset, List.length_set]; exact hbl
     · intro b hbm
       rw [hset] at hbm
       rcases List.mem_or_eq_of_mem_set hbm with h | rfl
       · exact hb256 b h
       · exact reachB_len hy256 hxw.2.2 4 (by omega)
     · rw [← hgo, hset, hdrop, hpick]
       show _ = fallGo ((dj.bl.map (·.2)).set x.1.toNat _) _ _
       rw [hi]
       simp only [Int.ofNat_eq_natCast, Int.toNat_natCast, List.getElem?_map, hy, Option.map_some, Option.getD_some]
     · rw [List.append_nil] at s7; exact s7
   · simp only [decide_eq_false_iff_not] at hge2
     refine ⟨dj, hsame, hbl, hb256, ?_, s4.drop⟩
     rw [← hgo, hdrop, List.drop_eq_nil_of_le (show pl.length ≤ j by omega), List.drop_eq_nil_of_le (show pl.length ≤ j + 1 by omega)]
     cases hh : D.wait.drop (j + 1) <;> rfl
 · simp only [decide_eq_false_iff_not] at hge
   have : j = di.wl.length := by omega
   have hnil : D.wait.drop j = [] := by rw [hw, this]; exact List.drop_eq_nil_of_le (by simp)
   refine s1.st (i := 1) (by simp) trivial fun w2 s2 => ?_
   refine s2.st (i := 5) (by simp) trivial fun w3 s3 => ?_
   refine s3.st (i := 2) (by simp) trivial fun w4 s4 => ?_
   refine s4.st (i := 4) (by simp) trivial fun w5 s5 => ?_
   refine mkDisk (D := fallsD D pl) ⟨dj.bs, ⟨none, 0, 0⟩, ⟨none, 0, 0⟩, dj.bl, []⟩ ?_ rfl ?_
   · rw [hnil] at hgo
     have hf : fallGo (dj.bl.map (·.2)) [] (pl.drop j) = dj.bl.map (·.2) := by unfold fallGo; rfl
     rw [hf] at hgo
     exact hgo.symm
   · exact (((s5.nosl 2).nosl 1).nobig).sel [3, 4, 2, 1, 7, 0] 9
theorem C76 (p : Nat) (D : DM) (w : World) (F : Nat → Prop) (h : Has [DiskA p D] w F) (hok : D.ok) (hwl : D.wait.length ≤ 1000000000) (ha : 0 ≤ D.armed) (ha2 : D.armed ≤ 9223372036854775807) (ho : 0 ≤ D.ops ∧ D.ops ≤ 1000000000000000) :
   Calls Tryz.prog 166 #[P0 p] w (RetT [.c .bool] fun r w' => r = (goesD D).1 ∧ St F w w' [DiskA p (goesD D).2]) := by
 refine F166_calls _ _ _ ?_
 unfold F166
 obtain ⟨i, st⟩ := (St.init h).ex
 obtain ⟨⟨hb, hw⟩, st⟩ := st.p
 simp only [deref_some']
 refine st.ld (i := 3) (s := .int .i64) (p := D.ops) rfl ?_
 rw [show IntKind.wrap .i64 (D.ops + 1) = D.ops + 1 from wrap_i64 (by omega)]
 refine st.st (i := 3) (by simp) trivial fun w1 s1 => ?_
 refine s1.ld (i := 4) (s := .int .i64) (p := D.armed) rfl ?_
 refine br_of (fun h0 => ?_) (fun h0 => ?_)
 · have h0 : D.armed = 0 := by simpa using h0
   have hg : goesD D = (false, { D with ops := D.ops + 1 }) := by unfold goesD; rw [if_pos h0]
   rw [hg]
   exact ⟨rfl, mkDisk (D := { D with ops := D.ops + 1 }) i hb hw s1⟩
 have h0 : D.armed ≠ 0 := by simpa using h0
 refine s1.ld (i := 4) (s := .int .i64) (p := D.armed) rfl ?_
 rw [show IntKind.wrap .i64 (D.armed - 1) = D.armed - 1 from wrap_i64 (by omega)]
 refine s1.st (i := 4) (by simp) trivial fun w2 s2 => ?_
 refine s2.ld (i := 4) (s := .int .i64) (p := D.armed - 1) rfl ?_
 refine br_of (fun h1 => ?_) (fun h1 => ?_)
 · simp only [gt_iff_lt, decide_eq_true_eq] at h1
   have hg : goesD D = (false, { D with ops := D.ops + 1, armed := D.armed - 1 }) := by unfold goesD; rw [if_neg h0, if_pos (by omega)]
   rw [hg]
   exact ⟨rfl, mkDisk (D := { D with ops := D.ops + 1, armed := D.armed - 1 }) i hb hw s2⟩
 simp only [gt_iff_lt, decide_eq_false_iff_not] at h1
 have hg : goesD D = (true, fallsD { D with ops := D.ops + 1 } D.picks) := by unfold goesD; rw [if_neg h0, if_neg (by omega)]
 rw [hg]
 refine s2.ld (i := 5) (s := .slice) (p := i.ps) rfl ?_
 obtain ⟨G, H, g1, _, _, _, gc⟩ := St.call (dpc p { D with ops := D.ops + 1, armed := D.armed - 1 } i) (l := []) s2
 refine callF_of (C95 p { D with ops := D.ops + 1, armed := D.armed - 1 } i i.ps D.picks w2 G g1 hb hw ⟨hok.len, hok.wlen, hok.pos, hok.le⟩ hwl fun W dj L hs s3 => ?_) ?_
 · have := (s3.bring 3).sl.bs
   rw [hs.ps] at this
   exact this
 rintro ⟨⟩ w3 s3
 exact ⟨rfl, gc _ _ s3⟩
def writeD (D : DM) (i : Int) (l : List UInt8) : Int × DM :=
 if placeE D i ≠ 0 then (placeE D i, D) else if l.length ≠ 256 then (31, D) else (if (goesD (addW D i l)).1 then 5 else 0, (goesD (addW D i l)).2)
theorem addW_ok {D : DM} (h : D.ok) {i : Int} {l : List UInt8} (hi : 0 ≤ i ∧ i < D.blocks.length) (hl : l.length = 256) : (addW D i l).ok :=
 ⟨h.len, fun x hx => by
   rcases List.mem_append.1 hx with h1 | h1
   · exact h.wlen x h1
   · rw [List.mem_singleton] at h1; subst h1; exact ⟨hi.1, hi.2, hl⟩, h.pos, h.le⟩
theorem C40' (p : Nat) (D : DM) (i : Int) (b : Sl) (l : List UInt8) (w : World) (F : Nat → Prop) (h : Has [DiskA p D] w F) (hb : Rd w F b l) (hok : D.ok) (hwl : D.wait.length ≤ 100000000) (ha : 0 ≤ D.armed) (ha2 : D.armed ≤ 9223372036854775807) (ho : 0 ≤ D.ops ∧ D.ops ≤ 1000000000000000) :
   Calls Tryz.prog 132 #[P0 p, .int .i64 i, .slice b.a b.len b.cap] w (RetT [.c (.int .i64)] fun r w' => r = (writeD D i l).1 ∧ St F w w' [DiskA p (writeD D i l).2]) := by
 refine Calls.mono (C40 p D (goesD (addW D i l)).2 i b l (goesD (addW D i l)).1 w F h hb hok (by omega) fun hp hl W G g1 => ?_) ?_
 · obtain ⟨_, p1, p2⟩ : D.off = false ∧ 0 ≤ i ∧ i < D.blocks.length := by
     unfold placeE at hp
     split at hp
     · cases hp
     · split at hp
       · cases hp
       · rename_i h1 h2
         exact ⟨by simpa using h1, by omega⟩
   exact C76 p (addW D i l) W G g1 (addW_ok hok ⟨p1, p2⟩ hl) (by show (D.wait ++ [_]).length ≤ _; rw [List.length_append, List.length_singleton]; omega) ha ha2 ho
 · rintro e w' ⟨r, he, hr⟩
   refine ⟨r, he, ?_⟩
   unfold writeD
   by_cases h1 : placeE D i ≠ 0
   · rw [if_pos h1] at hr ⊢
     obtain ⟨rfl, rfl⟩ := hr
     exact ⟨rfl, St.init h⟩
   · rw [if_neg h1] at hr ⊢
     by_cases h2 : l.length ≠ 256
     · rw [if_pos h2] at hr ⊢
       obtain ⟨rfl, rfl⟩ := hr
       exact ⟨rfl, St.init h⟩
     · rw [if_neg h2] at hr ⊢
       exact hr
end Go.Proofs

set_option maxRecDepth 100000
namespace Go.Proofs
open Go.Eng
def an205 : An := (.sq .z (.bl (.lp [] (.sq .z (.sq (.br .z .z) (.bl (.sq .z (.sq .z (.br .z .z)))))))))
def F205 (p0 : Value) (p1 : Option Addr) (Q : Unit → Pr) : Pr :=
 deref p1 fun a =>
 ldC .map a fun (t4 : Option Nat) =>
 mrange t4 fun it =>
 loopE (S := Unit) (fun X s =>
 deref (some ⟨it, 0, none⟩) fun a_1 =>
 mnext a_1 (
 Q ()) fun en =>
 deref (some ⟨it, 0, none⟩) fun a_2 =>
 mentry a_2 fun en_1 =>
 sayC (.int .i64) en_1.key fun (key : Int) =>
 callV Tryz.prog p0 [(.int .i64 key)] [.c .bool] fun (t12 : Bool) =>
 br (!t12) (
 Q ()) (
 X ())) ()
theorem F205_calls (p0 : Value) (p1 : Option Addr) (Q : Unit → Pr) (w : World) (h : F205 p0 p1 Q w) : Calls Tryz.prog 205 #[p0, (.pointer p1)] w (RetT [] Q) := cF (an := an205) Tryz.func205 (by kernel_rfl) h
def an200 : An := (.sq .z (.sq (.sq .z (.bl (.rf [.c (.int .i64)] .z (.bl .z)))) (.sq .z .z)))
def F200 (p0 : Sl) (p1 : Value) (Q : Sl → Pr) : Pr :=
 owe (NotAgg (.slice p0.a p0.len p0.cap)) <| nw (.cells #[(.slice p0.a p0.len p0.cap)] 46) fun r =>
 rngE Tryz.prog p1 [.c (.int .i64)] (fun l (z : Int) bg nx lv =>
 bg (
 deref (some ⟨r, 0, none⟩) fun a =>
 ldC .slice a fun (t8 : Sl) =>
 nw (.cells #[(.int .i64 z)] 3) fun r_1 =>
 app 3 1 8 [(.int .i64 0)] t8 ⟨(some ⟨r_1, 0, none⟩), 1, 1⟩ fun t11 =>
 deref (some ⟨r, 0, none⟩) fun a_1 =>
 st a_1 (.slice t11.a t11.len t11.cap) <|
 nx)) (fun D =>
 deref (some ⟨r, 0, none⟩) fun a_2 =>
 ldC .slice a_2 fun (t12 : Sl) =>
 takes [D] <|
 Q t12) (fun D =>
 fls) (fun D => [])
theorem F200_calls (p0 : Sl) (p1 : Value) (Q : Sl → Pr) (w : World) (h : F200 p0 p1 Q w) : Calls Tryz.prog 200 #[(slV p0), p1] w (RetT [.c .slice] Q) := cF (an := an200) Tryz.func200 (by kernel_rfl) h
def an161 : An := (.sq .z (.sq .z .z))
def F161 (p0 : Value) (Q : Sl → Pr) : Pr :=
 callF Tryz.prog 200 [(.slice none 0 0), p0] [.c .slice] fun (t4 : Sl) =>
 Q t4
theorem F161_calls (p0 : Value) (Q : Sl → Pr) (w : World) (h : F161 p0 Q w) : Calls Tryz.prog 161 #[p0] w (RetT [.c .slice] Q) := cF (an := an161) Tryz.func161 (by kernel_rfl) h
def an169 : An := (.sq .z (.sq .z .z))
def F169 (p0 : Option Nat) (Q : Value → Pr) : Pr :=
 owe (NotAgg (.map p0)) <| nw (.cells #[(.map p0)] 206) fun r =>
 Q ((.func (.func 205) #[] #[(.pointer (some ⟨r, 0, none⟩))]))
theorem F169_calls (p0 : Option Nat) (Q : Value → Pr) (w : World) (h : F169 p0 Q w) : Calls Tryz.prog 169 #[(.map p0)] w (RetT [.c .any] Q) := cF (an := an169) Tryz.func169 (by kernel_rfl) h
def an105 : An := (.sq .z (.sq .z (.sq .z (.sq .z .z))))
def F105 (p0 : Value) (Q : Sl → Pr) : Pr :=
 callF Tryz.prog 161 [p0] [.c .slice] fun (t5 : Sl) =>
 callF Tryz.prog 162 [(.slice t5.a t5.len t5.cap)] [] fun (t7 : Unit) =>
 Q t5
theorem F105_calls (p0 : Value) (Q : Sl → Pr) (w : World) (h : F105 p0 Q w) : Calls Tryz.prog 105 #[p0] w (RetT [.c .slice] Q) := cF (an := an105) Tryz.func105 (by kernel_rfl) h
def an54 : An := (.sq .z (.sq .z .z))
def F54 (p0 : Sl) (Q : Value → Pr) : Pr :=
 owe (NotAgg (.slice p0.a p0.len p0.cap)) <| nw (.cells #[(.slice p0.a p0.len p0.cap)] 46) fun r =>
 Q ((.func (.func 104) #[] #[(.pointer (some ⟨r, 0, none⟩))]))
theorem F54_calls (p0 : Sl) (Q : Value → Pr) (w : World) (h : F54 p0 Q w) : Calls Tryz.prog 54 #[(slV p0)] w (RetT [.c .any] Q) := cF (an := an54) Tryz.func54 (by kernel_rfl) h
def an104 : An := (.sq .z (.bl (.lp [(7, .c (.int .i64))] (.sq .z (.sq (.br .z .z) (.sq (.bl (.sq .z (.sq .z (.br .z .z)))) .z))))))
def F104 (p0 : Value) (p1 : Option Addr) (Q : Unit → Pr) : Pr :=
 deref p1 fun a =>
 ldC .slice a fun (t5 : Sl) =>
 loopE (S := Int) (fun X s =>
 br (decide (s < (t5.len : Int))) (
 owe ((0 : Int) ≤ s ∧ s < (t5.len : Int)) <|
 deref t5.a fun a_1 =>
 deref (some (a_1.add (Int.toNat s * 1))) fun a_2 =>
 ldC (.int .i64) a_2 fun (t10 : Int) =>
 callV Tryz.prog p0 [(.int .i64 t10)] [.c .bool] fun (t13 : Bool) =>
 br (!t13) (
 Q ()) (
 X ((IntKind.wrap .i64 (s + 1))))) (
 Q ())) 0
theorem F104_calls (p0 : Value) (p1 : Option Addr) (Q : Unit → Pr) (w : World) (h : F104 p0 p1 Q w) : Calls Tryz.prog 104 #[p0, (.pointer p1)] w (RetT [] Q) := cF (an := an104) Tryz.func104 (by kernel_rfl) h
def an117 : An := (.sq .z (.sq .z (.sq (.sq .z (.bl (.lp [(9, .c (.int .i64))] (.sq .z (.sq (.br .z .z) (.sq (.jn [] (.bl (.sq .z (.sq .z (.br .z .z))))) .z)))))) (.sq .z .z))))
def F117 (p0 : Sl) (Q : Value → Pr) : Pr :=
 nw (.map #[] 0) fun r =>
 loopE (S := Int) (fun X s =>
 br (decide (s < (p0.len : Int))) (
 jn (S := Unit) (fun R =>
 owe ((0 : Int) ≤ s ∧ s < (p0.len : Int)) <|
 deref p0.a fun a =>
 deref (some (a.add (Int.toNat s * 5))) fun a_1 =>
 ldA [(.int .i64), (.int .i64), (.int .i64), .slice, (.int .i64)] a_1 fun (t12 : Int × Int × Int × Sl × Int) =>
 nw (.cells #[(.int .i64 0), (.int .i64 0), (.int .i64 0), (.slice none 0 0), (.int .i64 0)] 109) fun r_1 =>
 deref (some ⟨r_1, 0, none⟩) fun a_2 =>
 st (a_2.add 0) (.int .i64 t12.1) <|
 st (a_2.add 1) (.int .i64 t12.2.1) <|
 st (a_2.add 2) (.int .i64 t12.2.2.1) <|
 st (a_2.add 3) (.slice t12.2.2.2.1.a t12.2.2.2.1.len t12.2.2.2.1.cap) <|
 st (a_2.add 4) (.int .i64 t12.2.2.2.2) <|
 deref (some ⟨r_1, 0, none⟩) fun a_3 =>
 deref (some (a_3.add 0)) fun a_4 =>
 ldC (.int .i64) a_4 fun (t14 : Int) =>
 br (t14 == 1) (
 deref (some ⟨r_1, 0, none⟩) fun a_5 =>
 deref (some (a_5.add 1)) fun a_6 =>
 ldC (.int .i64) a_6 fun (t18 : Int) =>
 mapPut (.int .i64) (some r) (.int .i64 t18) (.bool true) <|
 R ()) (
 R ())) fun s_1 =>
 X ((IntKind.wrap .i64 (s + 1)))) (
 callF Tryz.prog 169 [(.map (some r))] [.c .any] fun (t21 : Value) =>
 callF Tryz.prog 105 [t21] [.c .slice] fun (t22 : Sl) =>
 callF Tryz.prog 54 [(.slice t22.a t22.len t22.cap)] [.c .any] fun (t23 : Value) =>
 Q t23)) 0
theorem F117_calls (p0 : Sl) (Q : Value → Pr) (w : World) (h : F117 p0 Q w) : Calls Tryz.prog 117 #[(slV p0)] w (RetT [.c .any] Q) := cF (an := an117) Tryz.func117 (by kernel_rfl) h
end Go.Proofs

namespace Go.Proofs
open Go.Eng
theorem nodup_inj {α β : Type} {f : α → β} {a b : α} : ∀ {l : List α}, (l.map f).Nodup → a ∈ l → b ∈ l → f a = f b → a = b
 | [], _, ha, _, _ => by cases ha
 | x :: l, h, ha, hb, hf => by
   rw [List.map_cons, List.nodup_cons] at h
   rcases List.mem_cons.1 ha with hax | hal <;> rcases List.mem_cons.1 hb with hbx | hbl
   · rw [hax, hbx]
   · exact absurd (List.mem_map.2 ⟨b, hbl, by rw [← hf, hax]⟩) h.1
   · exact absurd (List.mem_map.2 ⟨a, hal, by rw [hf, hbx]⟩) h.1
   · exact nodup_inj h.2 hal hbl hf
theorem nodup_of_map {α β : Type} {f : α → β} : ∀ {l : List α}, (l.map f).Nodup → l.Nodup
 | [], _ => List.nodup_nil
 | x :: l, h => by
   rw [List.map_cons, List.nodup_cons] at h
   exact List.nodup_cons.2 ⟨fun hx => h.1 (List.mem_map.2 ⟨x, hx, rfl⟩), nodup_of_map h.2⟩
theorem find_unique {α : Type} {p : α → Bool} {e : α} : ∀ {l : List α}, e ∈ l → p e = true → (∀ x ∈ l, p x = true → x = e) → l.find? p = some e
 | [], h, _, _ => by cases h
 | x :: l, h, hp, hu => by
   rw [List.find?_cons]
   cases hx : p x with
   | true => simp [hu x (by simp) hx]
   | false =>
     rcases List.mem_cons.1 h with rfl | h
     · rw [hp] at hx; cases hx
     · exact find_unique h hp fun y hy => hu y (by simp [hy])
theorem nodup_len {α : Type} : ∀ {l1 l2 : List α}, l1.Nodup → (∀ x ∈ l1, x ∈ l2) → l1.length ≤ l2.length
 | [], _, _, _ => by simp
 | x :: l1, l2, h, hs => by
   rw [List.nodup_cons] at h
   obtain ⟨a, b, rfl⟩ := List.append_of_mem (hs x (by simp))
   have := nodup_len (l1 := l1) (l2 := a ++ b) h.2 fun y hy => by
     have h2 := hs y (by simp [hy])
     rcases List.mem_append.1 h2 with h3 | h3
     · exact List.mem_append_left _ h3
     · rcases List.mem_cons.1 h3 with h4 | h4
       · exact absurd (h4 ▸ hy) h.1
       · exact List.mem_append_right _ h4
   simp only [List.length_append, List.length_cons] at this ⊢
   omega
theorem nodup_ext {α : Type} : ∀ {l1 l2 : List α}, l1.Nodup → (∀ x ∈ l1, x ∈ l2) → ∃ r, (l1 ++ r).Perm l2
 | [], l2, _, _ => ⟨l2, List.Perm.refl _⟩
 | x :: l1, l2, h, hs => by
   rw [List.nodup_cons] at h
   obtain ⟨a, b, rfl⟩ := List.append_of_mem (hs x (by simp))
   obtain ⟨r, hr⟩ := nodup_ext (l1 := l1) (l2 := a ++ b) h.2 fun y hy => by
     have h2 := hs y (by simp [hy])
     rcases List.mem_append.1 h2 with h3 | h3
     · exact List.mem_append_left _ h3
     · rcases List.mem_cons.1 h3 with h4 | h4
       · exact absurd (h4 ▸ hy) h.1
       · exact List.mem_append_right _ h4
   exact ⟨r, (hr.cons x).trans List.perm_middle.symm⟩
def unI : Value → Int
 | .int _ n => n
 | _ => 0
theorem ints_unI (l : List Int) : (ints l).map unI = l := by simp [ints, List.map_map, Function.comp_def, unI]
structure MapI (w : World) (m : Nat) (es : Array MapEntry) (clock : Nat) (ks : List Int) : Prop where
 heap : w.heap[m]? = some (.map es clock)
 born : ∀ e ∈ es.toList, e.born < clock
 nod : (es.toList.map (·.born)).Nodup
 keys : es.toList.map (·.key) = ints ks
 knod : ks.Nodup
theorem F205_ok (y : Value) (ad : Addr) (m : Nat) (es : Array MapEntry) (clock : Nat) (ks : List Int) (w : World) (hc : w.cell? ad = some (.map (some m))) (hm : MapI w m es clock ks)
   (I : List Int → World → Prop) (D : World → Prop) (h0 : ∀ o, I [] (w.alloc o)) (hstab : ∀ pre W o, I pre W → I pre (W.putObj w.heap.size o)) (hdrew : ∀ pre W, I pre W → I pre W.drew) (hmap : ∀ pre W, I pre W → W.heap[m]? = w.heap[m]?)
   (hbody : ∀ pre k W, I pre W → w.heap.size < W.heap.size → (∃ suf, (pre ++ k :: suf).Perm ks) → callV Tryz.prog y [.int .i64 k] [.c .bool] (fun b W' => if b = true then I (pre ++ [k]) W' ∧ W'.heap[w.heap.size]? = W.heap[w.heap.size]? else D W') W) :
   F205 y (some ad) (fun _ w' => (∃ xs, xs.Perm ks ∧ I xs w') ∨ D w') w := by
 unfold F205
 simp only [deref_some']
 refine ldC_of (s := .map) (p := some m) hc ?_
 have hmlt : m < w.heap.size := by
   rcases Nat.lt_or_ge m w.heap.size with h | h
   · exact h
   · have := hm.heap; rw [Array.getElem?_eq_none h] at this; cases this
 refine ⟨es, clock, hm.heap, ?_⟩
 have hen := nodup_of_map hm.nod
 refine loop_of (fun _ W => ∃ (ps : List MapEntry) (seen : Array Nat) (pre : List Int), W.heap[w.heap.size]? = some (.mapIter (some m) clock seen clock) ∧ seen.toList = ps.map (·.born) ∧ (∀ e ∈ ps, e ∈ es.toList) ∧ ps.Nodup ∧ ps.map (·.key) = ints pre ∧ I pre W)
   (fun _ W => match W.heap[w.heap.size]? with | some (.mapIter _ _ seen _) => es.size - seen.size | _ => 0)
   ⟨[], #[], [], heap_alloc_new _ _, rfl, by simp, List.nodup_nil, rfl, h0 _⟩ ?_
 rintro _ W ⟨ps, seen, pre, hit, hseen, hsub, hnd, hkey, hI⟩
 have hWm : W.heap[m]? = some (.map es clock) := (hmap _ _ hI).trans hm.heap
 have hcont : ∀ e ∈ es.toList, (seen.contains e.born = true ↔ e ∈ ps) := by
   intro e he
   rw [Array.contains_iff_mem, ← Array.mem_toList_iff, hseen, List.mem_map]
   constructor
   · rintro ⟨e', h1, h2⟩
     exact nodup_inj hm.nod (hsub e' h1) he h2 ▸ h1
   · intro h1; exact ⟨e, h1, rfl⟩
 have hlen : seen.size = ps.length := by rw [← Array.length_toList, hseen, List.length_map]
 refine ⟨rfl, .inr ⟨m, clock, seen, clock, es, clock, hit, hWm, ?_, fun w1 hw1 => ?_⟩⟩
 · cases hes : es.toList with
   | nil =>
     have : es = #[] := by apply Array.ext'; simpa using hes
     simp [this]
   | cons e l =>
     have h1 := hm.born e (by rw [hes]; simp)
     have : es.all (fun x => decide (x.born ≥ clock)) = false := by
       rw [← Array.all_toList, hes, List.all_cons, decide_eq_false (by omega), Bool.false_and]
     rw [this, Bool.and_false]
 have hI1 : I pre w1 := by rcases hw1 with rfl | rfl; exact hI; exact hdrew _ _ hI
 refine ⟨fun hall => ?_, fun e he hns => ?_⟩
 · refine .inl ⟨pre, ?_, hI1⟩
   have hp : ps.Perm es.toList := (List.perm_ext_iff_of_nodup hnd hen).2 fun e => ⟨hsub e, fun he => (hcont e he).1 (hall e he (hm.born e he))⟩
   have h2 := hp.map (·.key)
   rw [hkey, hm.keys] at h2
   have h3 := h2.map unI
   rwa [ints_unI, ints_unI] at h3
 · have hnp : e ∉ ps := fun h => by rw [(hcont e he).2 h] at hns; cases hns
   have hke : ∃ k, e.key = .int .i64 k ∧ k ∈ ks := by
     have : e.key ∈ ints ks := by rw [← hm.keys]; exact List.mem_map.2 ⟨e, he, rfl⟩
     obtain ⟨k, hk, h⟩ := List.mem_map.1 this
     exact ⟨k, h.symm, hk⟩
   obtain ⟨k, hk, hkk⟩ := hke
   have hw1it : w1.heap[w.heap.size]? = some (.mapIter (some m) clock seen clock) := by rcases hw1 with rfl | rfl <;> exact hit
   have hw1m : w1.heap[m]? = some (.map es clock) := by rcases hw1 with rfl | rfl <;> exact hWm
   have hlt : w.heap.size < w1.heap.size := (Array.getElem?_eq_some_iff.1 hw1it).1
   have hit2 : (w1.putObj w.heap.size (.mapIter (some m) clock (seen.push e.born) clock)).heap[w.heap.size]? = some (.mapIter (some m) clock (seen.push e.born) clock) := World.putObj_heap_same hlt
   refine ⟨rfl, m, clock, seen.push e.born, clock, es, clock, e.born, e, hit2, by simp, (World.putObj_heap_other (k := m) (r := w.heap.size) (by omega)).trans hw1m, rfl, ?_, ?_⟩
   · rw [← Array.find?_toList]
     exact find_unique he (by simp) fun x hx h => nodup_inj hm.nod hx he (by simpa using h)
   refine ⟨k, hk, ?_⟩
   have hI2 := hstab pre w1 (.mapIter (some m) clock (seen.push e.born) clock) hI1
   have hsuf : ∃ suf, (pre ++ k :: suf).Perm ks := by
     have h2 : (ps ++ [e]).Nodup := by
       rw [List.nodup_append]
       refine ⟨hnd, by simp, fun a ha b hb' => ?_⟩
       rw [List.mem_singleton] at hb'
       rintro rfl
       exact hnp (hb' ▸ ha)
     obtain ⟨r, hr⟩ := nodup_ext h2 (l2 := es.toList) fun x hx => by
       rcases List.mem_append.1 hx with hx | hx
       · exact hsub x hx
       · rw [List.mem_singleton] at hx; exact hx ▸ he
     have h3 := (hr.map (·.key)).map unI
     have h4 : ((ps ++ [e]).map (·.key)).map unI = pre ++ [k] := by rw [List.map_append, hkey, List.map_append, ints_unI]; simp [hk, unI]
     rw [hm.keys, ints_unI, List.map_append, List.map_append, h4] at h3
     refine ⟨(r.map (·.key)).map unI, ?_⟩
     simpa using h3
   have hcall := hbody pre k _ hI2 (by simpa using hlt) hsuf
   refine callV_mono (fun b W' hb => ?_) hcall
   refine br_of (fun hf => ?_) (fun hf => ?_)
   · simp only [Bool.not_eq_true'] at hf
     subst hf
     rw [if_neg (by simp)] at hb
     exact .inr hb
   · simp only [Bool.not_eq_false'] at hf
     subst hf
     rw [if_pos rfl] at hb
     refine ⟨⟨ps ++ [e], seen.push e.born, pre ++ [k], hb.2.trans hit2, by simp [hseen], ?_, ?_, ?_, hb.1⟩, ?_⟩
     · intro x hx
       rcases List.mem_append.1 hx with hx | hx
       · exact hsub x hx
       · rw [List.mem_singleton] at hx; exact hx ▸ he
     · rw [List.nodup_append]
       refine ⟨hnd, by simp, fun a ha b hb' => ?_⟩
       rw [List.mem_singleton] at hb'
       rintro rfl
       exact hnp (hb' ▸ ha)
     · rw [List.map_append, hkey, ints_append]
       simp [ints, hk]
     · rw [hb.2, hit2, hit]
       have h1 : ps.length + 1 ≤ es.size := by
         have h2 : (ps ++ [e]).Nodup := by
           rw [List.nodup_append]
           refine ⟨hnd, by simp, fun a ha b hb' => ?_⟩
           rw [List.mem_singleton] at hb'
           rintro rfl
           exact hnp (hb' ▸ ha)
         have h3 := nodup_len h2 (l2 := es.toList) (fun x hx => by
           rcases List.mem_append.1 hx with hx | hx
           · exact hsub x hx
           · rw [List.mem_singleton] at hx; exact hx ▸ he)
         simpa using h3
       simp only [Array.size_push]
       omega
theorem C92 (y : Value) (ad : Addr) (m : Nat) (es : Array MapEntry) (clock : Nat) (ks : List Int) (w : World) (hc : w.cell? ad = some (.map (some m))) (hm : MapI w m es clock ks)
   (I : List Int → World → Prop) (D : World → Prop) (h0 : ∀ o, I [] (w.alloc o)) (hstab : ∀ pre W o, I pre W → I pre (W.putObj w.heap.size o)) (hdrew : ∀ pre W, I pre W → I pre W.drew) (hmap : ∀ pre W, I pre W → W.heap[m]? = w.heap[m]?)
   (hbody : ∀ pre k W, I pre W → w.heap.size < W.heap.size → (∃ suf, (pre ++ k :: suf).Perm ks) → callV Tryz.prog y [.int .i64 k] [.c .bool] (fun b W' => if b = true then I (pre ++ [k]) W' ∧ W'.heap[w.heap.size]? = W.heap[w.heap.size]? else D W') W) :
   Calls Tryz.prog 205 #[y, .pointer (some ad)] w (RetT [] fun _ w' => (∃ xs, xs.Perm ks ∧ I xs w') ∨ D w') :=
 F205_calls y (some ad) _ _ (F205_ok y ad m es clock ks w hc hm I D h0 hstab hdrew hmap hbody)
end Go.Proofs

namespace Go.Proofs
open Go.Eng
def IterI (v : Value) (M : World → Prop) (poss : List Int → Prop) (own : Bool) : Prop :=
 ∃ f caps, v = .func (.func f) #[] caps ∧ callable Tryz.prog f = true ∧
 ∀ (y : Value) (w : World) (I : List Int → World → Prop) (D : World → Prop), M w → I [] w → (∀ o, I [] (w.alloc o)) → (own = true → ∀ pre W o, I pre W → I pre (W.putObj w.heap.size o)) → (∀ pre W, I pre W → I pre W.drew) → (∀ pre W, I pre W → M W) →
   (∀ pre k W, I pre W → (own = true → w.heap.size < W.heap.size) → (∃ suf, poss (pre ++ k :: suf)) → callV Tryz.prog y [.int .i64 k] [.c .bool] (fun b W' => if b = true then I (pre ++ [k]) W' ∧ (own = true → W'.heap[w.heap.size]? = W.heap[w.heap.size]?) else D W') W) →
   Calls Tryz.prog f (#[y] ++ caps) w (RetT [] fun _ w' => (∃ xs, poss xs ∧ I xs w') ∨ D w')
theorem iter_keys (ad : Addr) (m : Nat) (es : Array MapEntry) (clock : Nat) (ks : List Int) (hb : ∀ e ∈ es.toList, e.born < clock) (hnd : (es.toList.map (·.born)).Nodup) (hk : es.toList.map (·.key) = ints ks) (hkn : ks.Nodup) :
   IterI (.func (.func 205) #[] #[.pointer (some ad)]) (fun w => w.cell? ad = some (.map (some m)) ∧ w.heap[m]? = some (.map es clock)) (fun xs => xs.Perm ks) true := by
 refine ⟨205, _, rfl, by kernel_rfl, ?_⟩
 intro y w I D hM h0 hal hst hdr hMM hbody
 exact C92 y ad m es clock ks w hM.1 ⟨hM.2, hb, hnd, hk, hkn⟩ I D hal (hst rfl) hdr (fun pre W h => (hMM pre W h).2.trans hM.2.symm) fun pre k W h1 h2 h3 => callV_mono (fun b W' hb => by
   by_cases hbt : b = true
   · rw [if_pos hbt] at hb ⊢; exact ⟨hb.1, hb.2 rfl⟩
   · rw [if_neg hbt] at hb ⊢; exact hb) (hbody pre k W h1 (fun _ => h2) h3)
theorem iter_values (ad : Addr) (s : Sl) (l : List Int) (hl : l.length ≤ 1000000000) :
   IterI (.func (.func 104) #[] #[.pointer (some ad)]) (fun w => w.cell? ad = some (.slice s.a s.len s.cap) ∧ IS w s l) (fun xs => xs = l) false := by
 refine ⟨104, _, rfl, by kernel_rfl, ?_⟩
 intro y w I D hM h0 hal hst hdr hMM hbody
 refine F104_calls y (some ad) _ _ ?_
 unfold F104
 rw [deref_some']
 refine ldC_of (s := .slice) (p := s) hM.1 ?_
 have hsl := hM.2.len
 refine loop_of (fun i W => ∃ j : Nat, i = j ∧ j ≤ l.length ∧ I (l.take j) W) (fun i _ => l.length - i.toNat) ⟨0, rfl, by omega, by simpa using h0⟩ ?_
 rintro _ W ⟨j, rfl, hj, hI⟩
 refine br_of (fun hlt => ?_) (fun hge => ?_)
 · simp only [decide_eq_true_eq] at hlt
   have hjl : j < l.length := by omega
   refine iat_of (i := (j : Int)) (b := l[j]) (hMM _ _ hI).2 (by omega) (by simp) ?_
   have hd : l.take j ++ l[j] :: l.drop (j + 1) = l := by rw [← List.drop_eq_getElem_cons hjl, List.take_append_drop]
   refine callV_mono (fun b W' hb => ?_) (hbody (l.take j) l[j] W hI (fun h => by cases h) ⟨l.drop (j + 1), hd⟩)
   refine br_of (fun hf => ?_) (fun hf => ?_)
   · simp only [Bool.not_eq_true'] at hf
     subst hf
     rw [if_neg (by simp)] at hb
     exact .inr hb
   · simp only [Bool.not_eq_false'] at hf
     subst hf
     rw [if_pos rfl, ← take_succ' hjl] at hb
     rw [wrap_succ (by omega)]
     exact ⟨⟨j + 1, rfl, hjl, hb.1⟩, by omega⟩
 · simp only [decide_eq_false_iff_not] at hge
   refine .inl ⟨l, rfl, ?_⟩
   rwa [List.take_of_length_le (by omega)] at hI
def book (w : World) (own : Bool) (b : Nat) : Prop := w.heap.size ≤ b ∧ b < w.heap.size + 2 + (if own = true then 1 else 0)
def notBook (w : World) (own : Bool) (b : Nat) : Prop := ¬ book w own b
theorem rng_of {v : Value} {M : World → Prop} {poss : List Int → Prop} {own : Bool} (hv : IterI v M poss own) {w : World} {R : Nat → Int → (Pr → Pr) → Pr → (Option Nat → Pr) → Pr} {K Jr : Nat → Pr} {Jx : Nat → List (Nat × Pr)}
   (U : List Int → World → Prop) (E : Option Nat → World → Prop) (h0 : U [] w) (hU : ∀ pre W W', U pre W → Mod (book w own) W W' → U pre W') (hE : ∀ j W W', E j W → Mod (book w own) W W' → E j W') (hM : ∀ pre W, U pre W → M W)
   (hround : ∀ l pre k W0 (bg : Pr → Pr) (nx : Pr) (lv : Option Nat → Pr), U pre W0 → (∃ suf, poss (pre ++ k :: suf)) → w.heap.size + 2 + (if own = true then 1 else 0) ≤ W0.heap.size →
     (∀ c W, Mod (notBook w own) W0 W → (∀ W1, Mod (book w own) W W1 → W1.heap.size = W.heap.size → (∀ W2, Mod (notBook w own) W1 W2 → U (pre ++ [k]) W2 → nx W2) → (∀ j W2, Mod (notBook w own) W1 W2 → E j W2 → lv j W2) → c W1) → bg c W) →
     R l k bg nx lv W0)
   (hK : ∀ xs W, poss xs → U xs W → W.heap[w.heap.size]? = some (.deferred (some [])) → K w.heap.size W)
   (hJ : ∀ j W, E j W → W.heap[w.heap.size]? = some (.deferred (some [])) → jmp (Jr w.heap.size) (Jx w.heap.size) j W) :
   rngE Tryz.prog v [.c (.int .i64)] R K Jr Jx w := by
 obtain ⟨f, caps, rfl, hcl, hspec⟩ := hv
 refine ⟨f, caps, rfl, hcl, fun L hL hY => ?_⟩
 generalize hw1 : (w.alloc (.deferred (some []))).alloc (L .ready none) = w1
 have hsz1 : w1.heap.size = w.heap.size + 2 := by rw [← hw1]; simp
 have hl1 : w1.heap[w.heap.size + 1]? = some (L .ready none) := by
   rw [← hw1]
   have := heap_alloc_new (w.alloc (.deferred (some []))) (L .ready none)
   rwa [World.size_alloc] at this
 have hd1 : w1.heap[w.heap.size]? = some (.deferred (some [])) := by
   rw [← hw1, heap_alloc_lt (by simp)]
   exact heap_alloc_new _ _
 have hg1 : Grow w w1 := by rw [← hw1]; exact ((Mod.refl _ w).alloc _).alloc _
 have hown : (if own = true then 1 else 0) ≤ 1 := by split <;> omega
 have hbook1 : ∀ b, b = w.heap.size ∨ b = w.heap.size + 1 → book w own b := fun b hb => by unfold book; omega
 have hput : ∀ {b : Nat} (W : World) (o : Obj), book w own b → Mod (book w own) W (W.putObj b o) := fun W o hb => (Mod.refl _ W).putObj (.inl hb)
 refine (hspec (.func (.yield (w.heap.size + 1)) #[] #[]) w1 (fun pre W => U pre W ∧ W.heap[w.heap.size + 1]? = some (L .ready none) ∧ W.heap[w.heap.size]? = some (.deferred (some [])) ∧ w.heap.size + 2 ≤ W.heap.size)
   (fun W => ∃ j, E j W ∧ W.heap[w.heap.size + 1]? = some (L .done (some (jcode j))) ∧ W.heap[w.heap.size]? = some (.deferred (some [])))
   (hM _ _ (hU _ _ _ h0 hg1.mod)) ⟨hU _ _ _ h0 hg1.mod, hl1, hd1, by omega⟩ ?_ ?_ ?_ (fun pre W h => hM _ _ h.1) ?_).mono ?_
 · intro o
   exact ⟨hU _ _ _ h0 (hg1.mod.alloc o), (heap_alloc_lt (by omega)).trans hl1, (heap_alloc_lt (by omega)).trans hd1, by simp; omega⟩
 · intro ho pre W o ⟨h1, h2, h3, h4⟩
   refine ⟨hU _ _ _ h1 (hput W o ?_), (World.putObj_heap_other (by omega)).trans h2, (World.putObj_heap_other (by omega)).trans h3, by simpa using h4⟩
   unfold book
   rw [ho, hsz1]
   simp
 · intro pre W ⟨h1, h2, h3, h4⟩
   exact ⟨hU _ _ _ h1 (Mod.refl _ W).drew, h2, h3, h4⟩
 · intro pre k W ⟨h1, h2, h3, h4⟩ hit hsuf
   refine .inr ⟨w.heap.size + 1, #[], rfl, ?_⟩
   refine hY W k _ h2 ?_
   have hsz : w.heap.size + 2 + (if own = true then 1 else 0) ≤ W.heap.size := by
     split
     · rename_i ho
       have := hit ho
       omega
     · omega
   refine hround _ pre k W _ _ _ h1 hsuf hsz ?_
   intro c W1 hm hc
   have hsW := hm.size
   have hkeep : ∀ b, book w own b → W1.heap[b]? = W.heap[b]? := fun b hb => hm.same b (by have := hb.2; omega) fun h => h hb
   refine ⟨(hkeep _ (hbook1 _ (.inr rfl))).trans h2, ?_⟩
   refine hc _ (hput W1 _ (hbook1 _ (.inr rfl))) (by simp) ?_ ?_
   · intro W2 hm2 hU2
     have hs2 : W1.heap.size ≤ W2.heap.size := by have := hm2.size; simpa using this
     have hk2 : ∀ b, book w own b → W2.heap[b]? = (W1.putObj (w.heap.size + 1) (L .busy none)).heap[b]? := fun b hb => hm2.same b (by have := hb.2; simp; omega) fun h => h hb
     refine ⟨(hk2 _ (hbook1 _ (.inr rfl))).trans (World.putObj_heap_same (by omega)), ?_⟩
     rw [if_pos rfl]
     refine ⟨⟨hU _ _ _ hU2 (hput W2 _ (hbook1 _ (.inr rfl))), World.putObj_heap_same (by omega), (World.putObj_heap_other (by omega)).trans (((hk2 _ (hbook1 _ (.inl rfl))).trans (World.putObj_heap_other (by omega))).trans ((hkeep _ (hbook1 _ (.inl rfl))).trans h3)), by simp; omega⟩, fun ho => ?_⟩
     rw [hsz1]
     have hb2 : book w own (w.heap.size + 2) := by unfold book; rw [ho]; simp
     exact (World.putObj_heap_other (by omega)).trans (((hk2 _ hb2).trans (World.putObj_heap_other (by omega))).trans (hkeep _ hb2))
   · intro j W2 hm2 hE2
     have hs2 : W1.heap.size ≤ W2.heap.size := by have := hm2.size; simpa using this
     have hk2 : ∀ b, book w own b → W2.heap[b]? = (W1.putObj (w.heap.size + 1) (L .busy none)).heap[b]? := fun b hb => hm2.same b (by have := hb.2; simp; omega) fun h => h hb
     refine ⟨(hk2 _ (hbook1 _ (.inr rfl))).trans (World.putObj_heap_same (by omega)), ?_⟩
     rw [if_neg (by simp)]
     exact ⟨j, hE _ _ _ hE2 (hput W2 _ (hbook1 _ (.inr rfl))), World.putObj_heap_same (by omega), (World.putObj_heap_other (by omega)).trans (((hk2 _ (hbook1 _ (.inl rfl))).trans (World.putObj_heap_other (by omega))).trans ((hkeep _ (hbook1 _ (.inl rfl))).trans h3))⟩
 · rintro e W ⟨p, rfl, ⟨xs, hxs, h1, h2, h3, h4⟩ | ⟨j, h1, h2, h3⟩⟩
   · exact ⟨⟨_, rfl⟩, .inl ⟨h2, hK xs _ hxs (hU _ _ _ h1 (hput W _ (hbook1 _ (.inr rfl)))) ((World.putObj_heap_other (by omega)).trans h3)⟩⟩
   · exact ⟨⟨_, rfl⟩, .inr ⟨j, h2, hJ j _ (hE _ _ _ h1 (hput W _ (hbook1 _ (.inr rfl)))) ((World.putObj_heap_other (by omega)).trans h3)⟩⟩
end Go.Proofs

namespace Go.Proofs
open Go.Eng
theorem app_one {w : World} {n0 : Nat} {t : Sl} {xs : List Int} {b : Nat} {z : Int} {k : Sl → Pr} (h : OwnS w n0 1 t (ints xs)) (hn0 : n0 ≤ w.heap.size) (hb : Box w b [.int .i64 z]) (hl : xs.length ≤ 1000000000)
   (hk : ∀ r w', OwnS w' n0 1 r (ints (xs ++ [z])) → Mod t.blk w w' → (∀ c, r.blk c → t.blk c ∨ w.heap.size ≤ c) → k r w') : app 3 1 8 [.int .i64 0] t ⟨some ⟨b, 0, none⟩, 1, 1⟩ k w := by
 have htl := (owns_ints h).len
 refine app_own2 (vs := ints xs) (new := [.int .i64 z]) h hn0 (fun _ => rfl) (fun h => by cases h) (readsAt_row.2 hb.row) (by simp) rfl (by decide) (by dsimp only; omega) ?_
 intro r w' h1 _ _ _ h5 h6
 exact hk r w' (by rw [ints_append]; exact h1) h5 h6
def Acc (w0 w1 : World) (own : Bool) (b0 : Nat) (pre : List Int) (W : World) : Prop :=
 ∃ t, Box W b0 [.slice t.a t.len t.cap] ∧ OwnS W w0.heap.size 1 t (ints pre) ∧ (∀ c, t.blk c → ¬ book w1 own c ∧ c ≠ b0 ∧ w1.heap.size ≤ c) ∧ Grow w0 W
theorem Acc.keep {w0 w1 : World} {own : Bool} {b0 : Nat} {pre : List Int} {W W' : World} (h01 : w0.heap.size ≤ w1.heap.size) (hb : ¬ book w1 own b0) (h : Acc w0 w1 own b0 pre W) (hm : Mod (book w1 own) W W') : Acc w0 w1 own b0 pre W' := by
 obtain ⟨t, h1, h2, h3, h4⟩ := h
 refine ⟨t, h1.mod hm hb, h2.mod hm fun ad ha hS => (h3 _ ⟨ad, ha, rfl⟩).1 hS, h3, Mod.trans h4 hm fun b hlt hS => ?_⟩
 have := hS.1
 omega
theorem Acc.push {w0 w1 : World} {own : Bool} {b0 : Nat} {pre : List Int} {W : World} {z : Int} {k : Pr} (hb : ¬ book w1 own b0) (hb0 : w0.heap.size ≤ b0) (h : Acc w0 w1 own b0 pre W) (hsz : w1.heap.size + 2 + (if own = true then 1 else 0) ≤ W.heap.size) (hl : pre.length ≤ 1000000000)
   (hk : ∀ W', Acc w0 w1 own b0 (pre ++ [z]) W' → Mod (notBook w1 own) W W' → Mod (fun c => c = b0 ∨ w1.heap.size ≤ c) W W' → k W') :
   (ldC .slice ⟨b0, 0, none⟩ fun (t8 : Sl) => nw (.cells #[(.int .i64 z)] 3) fun r_1 => app 3 1 8 [(.int .i64 0)] t8 ⟨(some ⟨r_1, 0, none⟩), 1, 1⟩ fun t11 => st ⟨b0, 0, none⟩ (.slice t11.a t11.len t11.cap) k) W := by
 obtain ⟨t, h1, h2, h3, h4⟩ := h
 have h1' : W.cell? ⟨b0, 0, none⟩ = some (.slice t.a t.len t.cap) := h1.row 0 _ rfl
 refine ldC_of (s := .slice) (p := t) h1' ?_
 refine nw_of fun b1 W1 g1 e1 s1 bx => ?_
 have hs4 := h4.size
 refine app_one (h2.grow g1) (by omega) bx hl fun r W2 h5 h6 h7 => ?_
 have hb2 : Box W2 b0 [.slice t.a t.len t.cap] := (h1.grow g1).mod h6 fun hc => (h3 _ hc).2.1 rfl
 have hnb : ∀ c, r.blk c → ¬ book w1 own c ∧ c ≠ b0 ∧ w1.heap.size ≤ c := by
   intro c hc
   rcases h7 c hc with h8 | h8
   · exact h3 c h8
   · have hlt := h1.lt
     refine ⟨fun hB => ?_, by omega, by omega⟩
     have := hB.2
     omega
 have hb3 := hb2.st (i := 0) (v := .slice r.a r.len r.cap) (k := k) (by simp) trivial fun W3 h8 h9 h10 => ?_
 · simpa using hb3
 have hm : Mod (fun c => t.blk c ∨ c = b0) W W3 := Mod.trans (Mod.trans (Grow.mod g1) h6 fun _ _ h => .inl h) h9 fun _ _ h => .inr h
 refine hk W3 ⟨r, h8, h5.mod h9 fun ad ha hS => (hnb _ ⟨ad, ha, rfl⟩).2.1 hS, hnb, ?_⟩ (hm.mono fun c _ hc => ?_) (hm.mono fun c _ hc => hc.elim (fun h => .inr (h3 c h).2.2) .inl)
 · refine Mod.trans h4 hm fun c hlt hc => ?_
   rcases hc with hc | hc
   · have := OwnS.blk_le h2 hc; omega
   · omega
 · rcases hc with hc | hc
   · exact (h3 c hc).1
   · rw [hc]; exact hb
theorem C100 {v : Value} {M : World → Prop} {poss : List Int → Prop} {own : Bool} (hv : IterI v M poss own) (w : World) (hM : ∀ W, Grow w W → M W) (hN : ∀ xs, poss xs → xs.length ≤ 1000000) :
   Calls Tryz.prog 200 #[.slice none 0 0, v] w (RetT [.c .slice] fun r w' => ∃ xs, poss xs ∧ OwnS w' w.heap.size 1 r (ints xs) ∧ Grow w w') := by
 refine F200_calls ⟨none, 0, 0⟩ v _ _ ?_
 unfold F200
 refine ⟨trivial, nw_of fun b0 w1 g1 e1 s1 bx => ?_⟩
 have hb : ¬ book w1 own b0 := fun h => by have := h.1; omega
 have h01 : w.heap.size ≤ w1.heap.size := by omega
 simp only [deref_some']
 refine rng_of hv (fun pre W => Acc w w1 own b0 pre W) (fun _ _ => False) ⟨⟨none, 0, 0⟩, bx, OwnS.nil _ _ _, fun c ⟨ad, h, _⟩ => by (cases h), g1⟩ (fun pre W W' h hm => h.keep h01 hb hm) (fun _ _ _ h _ => h) (fun pre W ⟨t, _, _, _, h4⟩ => hM W h4) ?_ ?_ (fun _ _ h => h.elim)
 · intro l pre k W0 bg nx lv hU hsuf hsz hbg
   refine hbg _ _ (Mod.refl _ _) fun W1 hm hs hnx _ => ?_
   obtain ⟨suf, hs2⟩ := hsuf
   have hN2 := hN _ hs2
   rw [List.length_append, List.length_cons] at hN2
   refine Acc.push hb (by omega) (hU.keep h01 hb hm) (by omega) (by omega) fun W2 hA hm2 _ => ?_
   exact hnx W2 hm2 hA
 · intro xs W hxs hU hd
   obtain ⟨t, h1, h2, h3, h4⟩ := hU
   have h1' : W.cell? ⟨b0, 0, none⟩ = some (.slice t.a t.len t.cap) := h1.row 0 _ rfl
   refine ldC_of (s := .slice) (p := t) h1' ⟨hd, xs, hxs, ?_⟩
   have hp : Mod (fun b => b = w1.heap.size) W (W.putObj w1.heap.size (.deferred none)) := (Mod.refl _ W).putObj (.inl rfl)
   refine ⟨h2.mod hp fun ad ha hS => (h3 _ ⟨ad, ha, rfl⟩).1 ?_, Mod.trans h4 hp fun c hlt hc => by omega⟩
   rw [hS]
   exact ⟨Nat.le_refl _, by omega⟩
end Go.Proofs

namespace Go.Proofs
open Go.Eng
theorem sortI_perm (l : List Int) : (sortI l).Perm l := List.mergeSort_perm l _
theorem sortI_sorted (l : List Int) : (sortI l).Pairwise (· ≤ ·) := by
 have := List.pairwise_mergeSort (le := fun x y : Int => decide (x ≤ y)) (fun a b c h1 h2 => by simp at *; omega) (fun a b => by simp; omega) l
 exact this.imp fun h => by simpa using h
theorem sorted_eq : ∀ {a b : List Int}, a.Perm b → a.Pairwise (· ≤ ·) → b.Pairwise (· ≤ ·) → a = b
 | [], b, h, _, _ => by simpa using h.symm.eq_nil.symm
 | x :: a, [], h, _, _ => by simpa using h.eq_nil
 | x :: a, y :: b, h, ha, hb => by
   rw [List.pairwise_cons] at ha hb
   have hxy : x = y := by
     have h1 : x ∈ y :: b := h.subset (by simp)
     have h2 : y ∈ x :: a := h.symm.subset (by simp)
     have h3 : y ≤ x := by
       rcases List.mem_cons.1 h1 with h4 | h4
       · omega
       · exact hb.1 x h4
     have h4 : x ≤ y := by
       rcases List.mem_cons.1 h2 with h5 | h5
       · omega
       · exact ha.1 y h5
     omega
   subst hxy
   rw [sorted_eq (List.Perm.cons_inv h) ha.2 hb.2]
theorem sortI_congr {a b : List Int} (h : a.Perm b) : sortI a = sortI b :=
 sorted_eq (((sortI_perm a).trans h).trans (sortI_perm b).symm) (sortI_sorted a) (sortI_sorted b)
theorem C90 {v : Value} {M : World → Prop} {poss : List Int → Prop} {own : Bool} (hv : IterI v M poss own) (w : World) (hM : ∀ W, Grow w W → M W) (hN : ∀ xs, poss xs → xs.length ≤ 1000000) :
   Calls Tryz.prog 161 #[v] w (RetT [.c .slice] fun r w' => ∃ xs, poss xs ∧ OwnS w' w.heap.size 1 r (ints xs) ∧ Grow w w') := by
 refine F161_calls v _ _ ?_
 unfold F161
 refine callF_of (C100 hv w hM hN) ?_
 intro r w' h
 exact h
theorem C65 {v : Value} {M : World → Prop} {ks : List Int} {own : Bool} (hv : IterI v M (fun xs => xs.Perm ks) own) (w : World) (hM : ∀ W, Grow w W → M W) (hN : ks.length ≤ 1000000) :
   Calls Tryz.prog 105 #[v] w (RetT [.c .slice] fun r w' => OwnS w' w.heap.size 1 r (ints (sortI ks)) ∧ Grow w w') := by
 refine F105_calls v _ _ ?_
 unfold F105
 refine callF_of (C90 hv w hM fun xs h => by rw [h.length_eq]; exact hN) ?_
 rintro r w1 ⟨xs, hp, ho, g1⟩
 have hl := (owns_ints ho).len
 have hpl := hp.length_eq
 refine callF_of (C91 r xs w.heap.size w1 ho (by omega)) ?_
 rintro _ w2 ⟨h2, m2⟩
 rw [sortI_congr hp] at h2
 exact ⟨h2, Mod.trans g1 m2 fun b hb hS => by have := OwnS.blk_le ho hS; omega⟩
theorem C66 (m : Option Nat) (w : World) : Calls Tryz.prog 169 #[.map m] w (RetT [.c .any] fun r w' => ∃ b, r = .func (.func 205) #[] #[.pointer (some ⟨b, 0, none⟩)] ∧ Box w' b [.map m] ∧ Grow w w') := by
 refine F169_calls m _ _ ?_
 unfold F169
 refine ⟨trivial, nw_of fun b w1 g1 _ _ bx => ?_⟩
 exact ⟨b, rfl, bx, g1⟩
end Go.Proofs

namespace Go.Proofs
open Go.Eng
def dirtyK (C : CM) : List Int := sortI ((C.l.filter (·.dirty)).map (·.key))
def dpick (bs : List Bf) (j : Nat) : Option Int := (bs[j]?).bind fun x => if x.dirty = true then some x.key else none
theorem dpick_all : ∀ (bs : List Bf), (List.range bs.length).filterMap (dpick bs) = (bs.filter (·.dirty)).map (·.key) := by
 intro bs
 have h : ∀ (l pre : List Bf), (List.range' pre.length l.length).filterMap (dpick (pre ++ l)) = (l.filter (·.dirty)).map (·.key) := by
   intro l
   induction l with
   | nil => intro pre; rfl
   | cons x l ih =>
     intro pre
     rw [List.length_cons, List.range'_succ, List.filterMap_cons]
     have h1 := ih (pre ++ [x])
     rw [List.length_append, List.length_singleton, List.append_assoc, List.singleton_append] at h1
     have h2 : dpick (pre ++ x :: l) pre.length = if x.dirty = true then some x.key else none := by
       unfold dpick
       rw [List.getElem?_append_right (Nat.le_refl _), Nat.sub_self]
       rfl
     rw [h1, h2, List.filter_cons]
     cases hx : x.dirty <;> simp
 have := h bs []
 rw [List.range_eq_range']
 simpa using this
theorem filterMap_len {α β : Type} (f : α → Option β) (l : List α) : (l.filterMap f).length ≤ l.length := List.length_filterMap_le f l
theorem dirty_m (bs : List Bf) : (bs.map Bf.m).filter (·.dirty) = (bs.filter (·.dirty)).map Bf.m := by
 induction bs with
 | nil => rfl
 | cons x bs ih => rw [List.map_cons, List.filter_cons, List.filter_cons, ih]; cases hx : x.dirty <;> simp [Bf.m, hx]
theorem C77 (c dp : Nat) (C : CM) (w : World) (F : Nat → Prop) (h : Has [CacheA c dp C] w F) (hn : C.l.length ≤ 1000000) :
   Calls Tryz.prog 171 #[P0 c] w (RetT [.c .slice] fun r w' => St F w w' [SlA 1 r (ints (dirtyK C)), CacheA c dp C]) := by
 refine F171_calls _ _ _ ?_
 unfold F171
 obtain ⟨m, bs, hl, st⟩ := (St.init h).cOpen
 refine callF_of (C72 c dp _ w st.box) ?_
 rintro _ _ ⟨rfl, rfl⟩
 refine br_f rfl ?_
 simp only [deref_some']
 refine st.ld (i := 2) (s := .map) (p := some m) rfl ?_
 refine St.mrange (T := intKT) (st.bring 1) fun it w1 s1 => ?_
 have hnb : (bs.map bkv).length = bs.length := by simp
 have hbl : bs.length ≤ 1000000 := by rw [hl, List.length_map] at hn; exact hn
 refine loop_of (fun t W => ∃ done, St F w W [MapItA intKT m it (bs.map bkv) done, SlA 1 t (ints (done.filterMap (dpick bs))), BoxA c [P0 dp, .int .i64 C.room, .map (some m), .int .i64 C.asked], bigA (bs.map bufA)])
   (fun _ W => bs.length - itSeen it W) ⟨[], (s1.nosl 1).sel [1, 0, 2, 3] 4⟩ ?_
 rintro t W ⟨done, s⟩
 have hds := s.itSeen
 have hdl : done.length ≤ bs.length := by
   obtain ⟨_, _, _, _, _, h3, h4, _⟩ := s.itOpen
   rw [hnb] at h3
   exact nodup_le h4 h3
 refine St.mnext s (fun hp W' s' => ?_) (fun i en W' hi hnd s' => ?_)
 · have hfl := filterMap_len (dpick bs) done
   have htl := slA_len1 (s'.bring 1).sl
   rw [ints_length] at htl
   refine callF_of (C91 t _ 0 W' (s'.bring 1).sl (by omega)) ?_
   rintro ⟨⟩ w3 ⟨h1, h2⟩
   have s2 := (s'.bring 1).slm h2 h1 fun _ h => .inl h
   have hd : sortI (done.filterMap (dpick bs)) = dirtyK C := by
     unfold dirtyK
     refine sortI_congr ?_
     rw [hl, dirty_m, List.map_map]
     rw [hnb] at hp
     have := hp.filterMap (dpick bs)
     rw [dpick_all] at this
     exact this
   rw [hd] at s2
   have s3 := (s2.bring 1).itMap
   exact ((s3.sel [2, 0, 3, 1] 4).cClose (C := C) hl).bring 1
 · rw [hnb] at hi
   refine s'.mentry fun en2 kvx hkv hk hv => ?_
   have hbi : bs[i]? = some bs[i] := by simp
   rw [List.getElem?_map, hbi, Option.map_some, Option.some.injEq] at hkv
   subst hkv
   refine ⟨bs[i].key, hk, some ⟨bs[i].ptr, 0, none⟩, hv, ?_⟩
   have hds' := s'.itSeen
   simp only [List.length_append, List.length_singleton] at hds'
   have hdl' : done.length + 1 ≤ bs.length := by
     obtain ⟨_, _, _, _, _, h3, h4, _⟩ := s'.itOpen
     rw [hnb] at h3
     have := nodup_le h4 h3
     simpa using this
   simp only [deref_some']
   have hbuf := (s'.bring 3).buf hbi
   refine hbuf.1.ld (i := 1) (s := .bool) (p := bs[i].dirty) rfl ?_
   have hpk : (done ++ [i]).filterMap (dpick bs) = done.filterMap (dpick bs) ++ (if bs[i].dirty = true then [bs[i].key] else []) := by
     rw [List.filterMap_append, List.filterMap_cons, List.filterMap_nil]
     unfold dpick
     rw [hbi]
     cases hb : bs[i].dirty <;> simp [hb]
   refine br_of (fun hd => ?_) (fun hd => ?_)
   · rw [if_pos hd] at hpk
     have hfl := filterMap_len (dpick bs) done
     have htl := slA_len1 (s'.bring 1).sl
     rw [ints_length] at htl
     refine St.nw s' fun r w2 s2 _ _ => ?_
     refine (s2.bring 2).app (new := [.int .i64 bs[i].key]) (fun _ => rfl) (fun h => by cases h) (readsAt_row.2 s2.box.row) (by simp) rfl (by decide) (by dsimp only; omega) fun t2 w3 s3 _ => ?_
     have s4 := s3.sel [2, 0, 3, 4] 5
     have hds3 := St.itSeen (done := done ++ [i]) s4
     simp only [List.length_append, List.length_singleton] at hds3
     refine ⟨⟨done ++ [i], ?_⟩, by omega⟩
     rw [hpk, show ints (done.filterMap (dpick bs) ++ [bs[i].key]) = ints (done.filterMap (dpick bs)) ++ [.int .i64 bs[i].key] by simp [ints]]
     exact s4
   · rw [if_neg (by simp [hd]), List.append_nil] at hpk
     refine ⟨⟨done ++ [i], ?_⟩, by omega⟩
     rw [hpk]
     exact s'
theorem dirtyK_len (C : CM) : (dirtyK C).length ≤ C.l.length := by
 unfold dirtyK
 rw [(sortI_perm _).length_eq, List.length_map]
 exact List.length_filter_le _ _
end Go.Proofs

namespace Go.Proofs
open Go.Eng
def bytesAt (C : CM) (k : Int) : List UInt8 := ((C.l.find? (·.key == k)).map (·.b)).getD []
def setClean (C : CM) (k : Int) : CM := { C with l := C.l.map fun x => if x.key = k then { x with dirty := false } else x }
def cleanGo : List Int → CM → DM → Int × CM × DM
 | [], C, D => (0, C, D)
 | k :: ks, C, D => if (writeD D k (bytesAt C k)).1 ≠ 0 then ((writeD D k (bytesAt C k)).1, C, (writeD D k (bytesAt C k)).2) else cleanGo ks (setClean C k) (writeD D k (bytesAt C k)).2
theorem cleanGo_cons (k : Int) (ks : List Int) (C : CM) (D : DM) : cleanGo (k :: ks) C D = if (writeD D k (bytesAt C k)).1 ≠ 0 then ((writeD D k (bytesAt C k)).1, C, (writeD D k (bytesAt C k)).2) else cleanGo ks (setClean C k) (writeD D k (bytesAt C k)).2 := rfl
theorem set_same {α : Type} {l : List α} {j : Nat} {a : α} (h : l[j]? = some a) : l.set j a = l := by
 refine List.ext_getElem? fun i => ?_
 rw [List.getElem?_set]
 split
 · rename_i h2; subst h2; rw [if_pos (split_at h).2, h]
 · rfl
theorem map_if_set {l : List Bm} {i : Nat} {x : Bm} {f : Bm → Bm} (hn : (l.map (·.key)).Nodup) (hi : l[i]? = some x) : (l.map fun y => if y.key = x.key then f y else y) = l.set i (f x) := by
 refine List.ext_getElem? fun j => ?_
 rw [List.getElem?_map, List.getElem?_set]
 by_cases h : i = j
 · subst h
   rw [hi, if_pos rfl, if_pos (split_at hi).2]
   simp
 · rw [if_neg h]
   cases hj : l[j]? with
   | none => rfl
   | some y =>
     have : y.key ≠ x.key := by
       intro he
       have e1 : (l.map (·.key))[i]? = some x.key := by rw [List.getElem?_map, hi]; rfl
       have e2 : (l.map (·.key))[j]? = some x.key := by rw [List.getElem?_map, hj, ← he]; rfl
       exact h ((List.getElem?_inj (split_at e1).2 hn).1 (e1.trans e2.symm))
     simp [this]
theorem find_at {l : List Bm} {i : Nat} {x : Bm} (hn : (l.map (·.key)).Nodup) (hi : l[i]? = some x) : l.find? (·.key == x.key) = some x := by
 have h1 := split_at hi
 rw [h1.1, List.find?_append]
 have : (l.take i).find? (·.key == x.key) = none := by
   rw [List.find?_eq_none]
   intro y hy hk
   simp only [beq_iff_eq] at hk
   obtain ⟨j, hj⟩ := List.getElem?_of_mem hy
   rw [List.getElem?_take] at hj
   split at hj
   · rename_i hji
     have e1 : (l.map (·.key))[i]? = some x.key := by rw [List.getElem?_map, hi]; rfl
     have e2 : (l.map (·.key))[j]? = some x.key := by rw [List.getElem?_map, hj, ← hk]; rfl
     have := (List.getElem?_inj (split_at e1).2 hn).1 (e1.trans e2.symm)
     omega
   · cases hj
 rw [this]
 simp
structure DM.bd (D : DM) (N : Nat) : Prop where
 armed : 0 ≤ D.armed ∧ D.armed ≤ 9223372036854775807
 ops : 0 ≤ D.ops ∧ D.ops ≤ (N : Int)
 wait : D.wait.length ≤ N
theorem fallGo_len : ∀ (ws : List (Int × List UInt8)) (ps : List UInt8) (bl : List (List UInt8)), (fallGo bl ws ps).length = bl.length
 | [], _, bl => by unfold fallGo; rfl
 | _ :: _, [], bl => by unfold fallGo; rfl
 | x :: ws, p :: ps, bl => by unfold fallGo; rw [fallGo_len ws ps]; simp
theorem fallGo_256 : ∀ (ws : List (Int × List UInt8)) (ps : List UInt8) (bl : List (List UInt8)), (∀ b ∈ bl, b.length = 256) → (∀ x ∈ ws, 0 ≤ x.1 ∧ x.1 < (bl.length : Int) ∧ x.2.length = 256) → ∀ b ∈ fallGo bl ws ps, b.length = 256
 | [], _, bl, h, _ => by unfold fallGo; exact h
 | _ :: _, [], bl, h, _ => by unfold fallGo; exact h
 | x :: ws, p :: ps, bl, h, hw => by
   unfold fallGo
   have hx := hw x (by simp)
   refine fallGo_256 ws ps _ ?_ ?_
   · intro b hb
     rcases List.mem_or_eq_of_mem_set hb with h1 | rfl
     · exact h b h1
     · have hi : x.1.toNat < bl.length := by omega
       rw [List.getElem?_eq_getElem hi]
       exact reachB_len (h _ (List.getElem_mem hi)) hx.2.2 4 (by omega)
   · intro y hy
     have := hw y (by simp [hy])
     rw [List.length_set]
     exact this
theorem fallsD_ok {D : DM} (h : D.ok) (pl : List UInt8) : (fallsD D pl).ok :=
 ⟨fallGo_256 D.wait pl D.blocks h.len h.wlen, fun x hx => by simp [fallsD] at hx, by show 1 ≤ (fallGo _ _ _).length; rw [fallGo_len]; exact h.pos, by show (fallGo _ _ _).length ≤ 2048; rw [fallGo_len]; exact h.le⟩
theorem goesD_ok {D : DM} (h : D.ok) {N : Nat} (hb : D.bd N) : (goesD D).2.ok ∧ (goesD D).2.bd (N + 1) ∧ (goesD D).2.blocks.length = D.blocks.length := by
 have h1 := hb.armed
 have h2 := hb.ops
 have h3 := hb.wait
 unfold goesD
 split
 · exact ⟨⟨h.len, h.wlen, h.pos, h.le⟩, ⟨h1, ⟨by dsimp only; omega, by dsimp only; omega⟩, by dsimp only; omega⟩, rfl⟩
 · split
   · exact ⟨⟨h.len, h.wlen, h.pos, h.le⟩, ⟨⟨by dsimp only; omega, by dsimp only; omega⟩, ⟨by dsimp only; omega, by dsimp only; omega⟩, by dsimp only; omega⟩, rfl⟩
   · refine ⟨fallsD_ok (D := { D with ops := D.ops + 1 }) ⟨h.len, h.wlen, h.pos, h.le⟩ _, ⟨⟨by simp [fallsD], by simp [fallsD]⟩, ⟨by simp only [fallsD]; omega, by simp only [fallsD]; omega⟩, by simp [fallsD]⟩, by show (fallGo _ _ _).length = _; rw [fallGo_len]⟩
theorem writeD_ok {D : DM} (h : D.ok) {N : Nat} (hb : D.bd N) (i : Int) (l : List UInt8) : (writeD D i l).2.ok ∧ (writeD D i l).2.bd (N + 2) ∧ (writeD D i l).2.blocks.length = D.blocks.length := by
 have h1 := hb.armed
 have h2 := hb.ops
 have h3 := hb.wait
 have hb2 : D.bd (N + 2) := ⟨h1, ⟨h2.1, by omega⟩, by omega⟩
 unfold writeD
 split
 · exact ⟨h, hb2, rfl⟩
 · rename_i hp
   split
   · exact ⟨h, hb2, rfl⟩
   · rename_i hl
     obtain ⟨_, p1, p2⟩ := place0 (Classical.not_not.1 hp)
     have := goesD_ok (addW_ok h ⟨p1, p2⟩ (Classical.not_not.1 hl)) (N := N + 1) ⟨h1, ⟨h2.1, by show D.ops ≤ _; omega⟩, by show (D.wait ++ [_]).length ≤ _; rw [List.length_append, List.length_singleton]; omega⟩
     exact this
theorem setClean_keys (C : CM) (k : Int) : (setClean C k).l.map (·.key) = C.l.map (·.key) := by
 show (C.l.map _).map _ = _
 rw [List.map_map]
 refine List.map_congr_left fun x _ => ?_
 show (if x.key = k then _ else _ : Bm).key = x.key
 split <;> rfl
theorem C42 (c dp : Nat) (C : CM) (D : DM) (w : World) (F : Nat → Prop) (h : Has [CacheA c dp C, DiskA dp D] w F) (hnod : (C.l.map (·.key)).Nodup) (hn : C.l.length ≤ 1000) (hD : D.ok) (N : Nat) (hb : D.bd N) (hN : N ≤ 1000000) :
   Calls Tryz.prog 119 #[P0 c] w (RetT [.c (.int .i64)] fun r w' => r = (cleanGo (dirtyK C) C D).1 ∧ St F w w' [CacheA c dp (cleanGo (dirtyK C) C D).2.1, DiskA dp (cleanGo (dirtyK C) C D).2.2]) := by
 refine F119_calls _ _ _ ?_
 unfold F119
 have st := St.init h
 obtain ⟨G1, _, _, g1, _, _, _, gc⟩ := st.call1
 obtain ⟨m0, hbx⟩ := cbox g1
 refine callF_of (C72 c dp _ w hbx) ?_
 rintro _ _ ⟨rfl, rfl⟩
 refine br_f rfl ?_
 simp only [deref_some']
 refine callF_of (C77 c dp C w G1 g1 (by omega)) ?_
 rintro t w1 s0
 have s1 : St F w w1 [SlA 1 t (ints (dirtyK C)), CacheA c dp C, DiskA dp D] := gc _ _ s0
 have htl := slA_len1 s1.sl
 rw [ints_length] at htl
 have hdl := dirtyK_len C
 have hks : ∀ k ∈ dirtyK C, k ∈ C.l.map (·.key) := fun k hk => by
   have h2 := (sortI_perm _).subset hk
   obtain ⟨x, hx, rfl⟩ := List.mem_map.1 h2
   exact List.mem_map.2 ⟨x, (List.mem_filter.1 hx).1, rfl⟩
 refine loop_of (fun z W => ∃ (j : Nat) (Cj : CM) (Dj : DM), z = j ∧ j ≤ (dirtyK C).length ∧ cleanGo ((dirtyK C).drop j) Cj Dj = cleanGo (dirtyK C) C D ∧ Cj.l.map (·.key) = C.l.map (·.key) ∧ Dj.ok ∧ Dj.bd (N + 2 * j) ∧ St F w W [SlA 1 t (ints (dirtyK C)), CacheA c dp Cj, DiskA dp Dj])
   (fun z _ => (dirtyK C).length - z.toNat) ⟨0, C, D, rfl, by omega, rfl, rfl, hD, hb, s1⟩ ?_
 rintro _ W ⟨j, Cj, Dj, rfl, hj, hgo, hkj, hDj, hbj, s⟩
 refine br_of (fun hlt => ?_) (fun hge => ?_)
 rotate_left
 · simp only [decide_eq_false_iff_not] at hge
   rw [List.drop_eq_nil_of_le (by omega)] at hgo
   have hgo' : (0, Cj, Dj) = cleanGo (dirtyK C) C D := hgo
   rw [← hgo']
   exact ⟨rfl, s.drop⟩
 simp only [decide_eq_true_eq] at hlt
 have hjl : j < (dirtyK C).length := by omega
 have hdrop : (dirtyK C).drop j = (dirtyK C)[j] :: (dirtyK C).drop (j + 1) := List.drop_eq_getElem_cons hjl
 generalize hk : (dirtyK C)[j] = k at hdrop
 have hkm : k ∈ Cj.l.map (·.key) := by rw [hkj, ← hk]; exact hks _ (List.getElem_mem hjl)
 refine ⟨⟨by omega, hlt⟩, ?_⟩
 rw [Int.toNat_natCast]
 refine at_own s.sl (i := j) (c := .int .i64) (p := k) (by simp [ints, hjl, hk]) ?_
 obtain ⟨m, bs, hl, s2⟩ := St.cOpen (s.bring 1)
 refine s2.ld (i := 2) (s := .map) (p := some m) rfl ?_
 have hnj : (Cj.l.map (·.key)).Nodup := by rw [hkj]; exact hnod
 rcases lkp_bkv k bs with ⟨_, h1⟩ | ⟨i, x, h1, h2, h3⟩
 · exfalso
   obtain ⟨y, hy, hyk⟩ := List.mem_map.1 hkm
   rw [hl] at hy
   obtain ⟨z, hz, rfl⟩ := List.mem_map.1 hy
   exact h1 z hz hyk
 have hxm : Cj.l[i]? = some x.m := by rw [hl, List.getElem?_map, h1]; rfl
 refine St.mapAt (T := intKT) (s2.bring 1) (k := k) (fun v hv => ?_) (fun hv => by rw [h3] at hv; cases hv)
 rw [h3, Option.some.injEq] at hv
 refine ⟨some ⟨x.ptr, 0, none⟩, hv.symm, ?_⟩
 rw [drw_def]
 have s3 := s2.drew
 refine s3.ld (i := 0) (s := .ptr) (p := some ⟨dp, 0, none⟩) rfl ?_
 simp only [deref_some']
 have s4 := ((s3.bring 2).pick (i := i) (A := bufA x) (by simp [h1])).big
 replace s4 : St F w W.drew [BoxA x.ptr [slV x.s, .bool x.dirty, .int .i64 x.asked], SlA 1 x.s (x.b.map ub), bigA ((bs.map bufA).eraseIdx i), BoxA c [P0 dp, .int .i64 Cj.room, .map (some m), .int .i64 Cj.asked], MapA intKT m (bs.map bkv), SlA 1 t (ints (dirtyK C)), DiskA dp Dj] := s4
 refine s4.ld (i := 0) (s := .slice) (p := x.s) rfl ?_
 have s5 := s4.sel [6, 1, 0, 2, 3, 4, 5] 7
 obtain ⟨G, H, g2, g3, g4, _, gc2⟩ := St.call [DiskA dp Dj] s5
 have hb1 := hbj.armed
 have hb2 := hbj.ops
 have hb3 := hbj.wait
 have hby : bytesAt Cj k = x.b := by
   unfold bytesAt
   rw [← h2, show x.key = x.m.key from rfl, find_at hnj hxm]
   rfl
 refine callF_of (C40' dp Dj k x.s x.b _ G g2 (Rd.own g3 g4) hDj (by omega) hb1.1 hb1.2 ⟨hb2.1, by omega⟩) ?_
 rintro e w2 ⟨he, s6⟩
 have s7 := gc2 _ _ s6
 rw [← hby] at he s7
 have hwo := writeD_ok hDj hbj k (bytesAt Cj k)
 rw [hdrop, cleanGo_cons] at hgo
 refine br_of (fun hne => ?_) (fun heq => ?_)
 · have hne : (writeD Dj k (bytesAt Cj k)).1 ≠ 0 := by rw [← he]; simpa using hne
   rw [if_pos hne] at hgo
   rw [← hgo]
   refine ⟨he, ?_⟩
   rw [hby] at s7
   have s8 := St.unpick (A := bufA x) (St.mkbig (xs := [_, _]) (s7.sel [2, 1, 3, 4, 5, 0] 7)) (split_at (show (bs.map bufA)[i]? = some (bufA x) by simp [h1])).2
   rw [set_same (show (bs.map bufA)[i]? = some (bufA x) by simp [h1])] at s8
   rw [hby]
   exact (s8.sel [1, 2, 0, 3] 4).cClose (C := Cj) hl
 · have heq : (writeD Dj k (bytesAt Cj k)).1 = 0 := by rw [← he]; simpa using heq
   rw [if_neg (by simp [heq])] at hgo
   refine (s7.bring 2).st (i := 1) (by simp) trivial fun w3 s8 => ?_
   rw [wrap_succ (by omega)]
   refine ⟨⟨j + 1, setClean Cj k, (writeD Dj k (bytesAt Cj k)).2, rfl, hjl, hgo, by rw [setClean_keys, hkj], hwo.1, ?_, ?_⟩, by omega⟩
   · rw [show N + 2 * (j + 1) = N + 2 * j + 2 by omega]; exact hwo.2.1
   · rw [hby] at s8 ⊢
     have s9 := St.unpick (A := bufA { x with dirty := false }) (St.mkbig (xs := [_, _]) (s8.sel [0, 2, 3, 4, 5, 1, 6] 7)) (split_at (show (bs.map bufA)[i]? = some (bufA x) by simp [h1])).2
     have e1 : (bs.map bufA).set i (bufA { x with dirty := false }) = (bs.set i { x with dirty := false }).map bufA := by rw [List.map_set]
     have e2 : bs.map bkv = (bs.set i { x with dirty := false }).map bkv := (map_set_same bkv (a := { x with dirty := false }) h1 rfl).symm
     rw [e1, e2] at s9
     have s10 := (s9.sel [1, 2, 0, 3, 4] 5).cClose (C := setClean Cj k) (bs := bs.set i { x with dirty := false }) (by
       show (Cj.l.map _) = _
       rw [List.map_set, ← hl, show k = x.m.key from h2.symm, map_if_set (f := fun y => { y with dirty := false }) hnj hxm]
       rfl)
     exact s10.sel [2, 0, 1] 3
end Go.Proofs

namespace Go.Proofs
open Go.Eng
theorem push_slice {F0 : Nat → Prop} {w0 w : World} {L : List HA} {E p r : Nat} {bs t : Sl} {bl : List (Sl × List UInt8)} {l : List UInt8} {rest : List Value} {k : Pr} (hn : bl.length ≤ 100000000)
   (st : St F0 w0 w (BoxA r [slV t] :: SlA 1 t (l.map ub) :: BoxA p (slV bs :: rest) :: SlA 1 bs (bl.map fun x => slV x.1) :: bigA (bl.map bytA) :: L))
   (hk : ∀ bs' w', St F0 w0 w' (BoxA p (slV bs' :: rest) :: SlA 1 bs' ((bl ++ [(t, l)]).map fun x => slV x.1) :: bigA ((bl ++ [(t, l)]).map bytA) :: L) → k w') :
   app E 1 24 [.slice none 0 0] bs ⟨some ⟨r, 0, none⟩, 1, 1⟩ (fun t26 => Eng.st (Addr.add ⟨p, 0, none⟩ 0) (.slice t26.a t26.len t26.cap) k) w := by
 have hbl := slA_len1 (st.bring 3).sl
 rw [List.length_map] at hbl
 refine (st.bring 3).app (new := [slV t]) (fun _ => rfl) (fun h => by cases h) (readsAt_row.2 st.box.row) (by simp) rfl (by decide) (by dsimp only; omega) fun r2 w2 s2 _ => ?_
 refine (s2.bring 3).st (i := 0) (by simp) trivial fun w3 s3 => ?_
 refine hk r2 w3 ?_
 rw [List.map_append, List.map_append]
 have s4 := (s3.sel [3, 4, 0, 1] 5).push (A := bytA (t, l))
 exact s4.sel [1, 2, 0] 3
theorem C43 (n : Int) (w : World) : Calls Tryz.prog 45 #[.int .i64 n] w (RetT [.c .ptr, .c (.int .i64)] fun r w' =>
   if 1 ≤ n ∧ n ≤ 2048 then r.2 = 0 ∧ ∃ p, r.1 = some ⟨p, 0, none⟩ ∧ St noF w w' [DiskA p (newD n.toNat)] else r = (none, 1) ∧ w = w') := by
 refine F45_calls _ _ _ ?_
 unfold F45
 refine jn_of (fun b W => b = decide (n < 1 ∨ n > 2048) ∧ w = W) ?_ ?_
 · refine br_of (fun h0 => ⟨?_, rfl⟩) (fun h0 => ⟨?_, rfl⟩)
   · simp only [decide_eq_true_eq] at h0
     symm; rw [decide_eq_true_eq]; exact .inl h0
   · simp only [decide_eq_false_iff_not] at h0
     rw [decide_eq_decide]; omega
 rintro _ _ ⟨rfl, rfl⟩
 refine br_of (fun hbad => ?_) (fun hgood => ?_)
 · simp only [decide_eq_true_eq] at hbad
   dsimp only
   rw [if_neg (by omega)]
   exact ⟨rfl, rfl⟩
 simp only [decide_eq_false_iff_not] at hgood
 obtain ⟨n, rfl⟩ : ∃ m : Nat, n = (m : Int) := ⟨n.toNat, by omega⟩
 refine St.nw (St.init0 w) fun r w2 s2 _ _ => ?_
 simp only [deref_some']
 refine loop_of (fun z W => ∃ (j : Nat) (bs : Sl) (bl : List (Sl × List UInt8)), z = j ∧ j ≤ n ∧ bl.length = j ∧ bl.map (·.2) = List.replicate j zero256 ∧
     St noF w W [BoxA r [slV bs, slV ⟨none, 0, 0⟩, .bool false, .int .i64 0, .int .i64 0, slV ⟨none, 0, 0⟩], SlA 1 bs (bl.map (fun x => slV x.1)), bigA (bl.map bytA)]) (fun z _ => n - z.toNat)
   ⟨0, ⟨none, 0, 0⟩, [], rfl, by omega, rfl, rfl, (s2.nobig.nosl 1).sel [2, 0, 1] 3⟩ ?_
 rintro _ W ⟨j, bs, bl, rfl, hj, hbl, hz, st⟩
 refine br_of (fun hlt => ?_) (fun hge => ?_)
 · simp only [decide_eq_true_eq] at hlt
   refine jn_of (fun _ W' => ∃ bs' u, St noF w W' [BoxA r [slV bs', slV ⟨none, 0, 0⟩, .bool false, .int .i64 0, .int .i64 0, slV ⟨none, 0, 0⟩], SlA 1 bs' ((bl ++ [(u, zero256)]).map (fun x => slV x.1)), bigA ((bl ++ [(u, zero256)]).map bytA)]) ?_ ?_
   rotate_left
   · rintro ⟨⟩ W' ⟨bs', u, s3⟩
     rw [wrap_succ (by omega)]
     exact ⟨⟨j + 1, bs', _, rfl, by omega, by simp [hbl], by rw [List.map_append, hz, List.replicate_succ']; rfl, s3⟩, by omega⟩
   have sd := st.drew
   refine ⟨?_, ?_⟩
   · refine sd.ld (i := 0) (s := .slice) (p := bs) rfl ?_
     refine sd.mkSi (k := 1) 256 rfl rfl (by omega) (by omega) fun u W2 s3 _ => ?_
     rw [zc_u8] at s3
     refine St.nw s3 fun r1 W3 s4 _ _ => ?_
     exact push_slice (l := zero256) (by omega) s4 fun bs' w' s => ⟨bs', u, s⟩
   · refine sd.mkSi (k := 1) 256 rfl rfl (by omega) (by omega) fun u W2 s3 _ => ?_
     rw [zc_u8] at s3
     refine (s3.bring 1).ld (i := 0) (s := .slice) (p := bs) rfl ?_
     refine St.nw s3 fun r1 W3 s4 _ _ => ?_
     exact push_slice (l := zero256) (by omega) s4 fun bs' w' s => ⟨bs', u, s⟩
 · simp only [decide_eq_false_iff_not] at hge
   have : j = n := by omega
   subst this
   rw [if_pos (by omega)]
   refine ⟨trivial, r, rfl, ?_⟩
   refine mkDisk (D := newD j) ⟨bs, ⟨none, 0, 0⟩, ⟨none, 0, 0⟩, bl, []⟩ hz.symm rfl ?_
   exact (((st.nosl 2).nosl 1).nobig).sel [3, 4, 2, 1, 5, 0] 6
def stepD (D : DM) : DM := { D with ops := D.ops + 1, armed := if D.armed = 0 then 0 else D.armed - 1 }
theorem C81 (p : Nat) (D : DM) (w : World) (F : Nat → Prop) (h : Has [DiskA p D] w F) (ha : 0 ≤ D.armed) (ha2 : D.armed ≤ 9223372036854775807) (ho : 0 ≤ D.ops ∧ D.ops ≤ 1000000000000000) :
   Calls Tryz.prog 185 #[P0 p] w (RetT [.c .bool] fun r w' => r = decide (D.armed = 1) ∧ St F w w' [DiskA p (stepD D)]) := by
 refine F185_calls _ _ _ ?_
 unfold F185
 obtain ⟨i, st⟩ := (St.init h).ex
 obtain ⟨⟨hb, hw⟩, st⟩ := st.p
 simp only [deref_some']
 refine st.ld (i := 3) (s := .int .i64) (p := D.ops) rfl ?_
 rw [show IntKind.wrap .i64 (D.ops + 1) = D.ops + 1 from wrap_i64 (by omega)]
 refine st.st (i := 3) (by simp) trivial fun w1 s1 => ?_
 refine s1.ld (i := 4) (s := .int .i64) (p := D.armed) rfl ?_
 refine br_of (fun h0 => ?_) (fun h0 => ?_)
 · have h0 : D.armed = 0 := by simpa using h0
   refine ⟨by rw [h0]; rfl, mkDisk (D := stepD D) i hb hw ?_⟩
   have : (stepD D).armed = D.armed := by unfold stepD; rw [if_pos h0, h0]
   rw [this]
   exact s1
 have h0 : D.armed ≠ 0 := by simpa using h0
 refine s1.ld (i := 4) (s := .int .i64) (p := D.armed) rfl ?_
 rw [show IntKind.wrap .i64 (D.armed - 1) = D.armed - 1 from wrap_i64 (by omega)]
 refine s1.st (i := 4) (by simp) trivial fun w2 s2 => ?_
 refine s2.ld (i := 4) (s := .int .i64) (p := D.armed - 1) rfl ⟨?_, mkDisk (D := stepD D) i hb hw ?_⟩
 · rw [Bool.eq_iff_iff]; simp only [beq_iff_eq, decide_eq_true_eq]; omega
 · have : (stepD D).armed = D.armed - 1 := by unfold stepD; rw [if_neg h0]
   rw [this]
   exact s2
end Go.Proofs

namespace Go.Proofs
open Go.Eng
theorem reachB_get {b l : List UInt8} {p : Int} (hb : b.length = 256) (hl : l.length = 256) : ∀ n, n ≤ 4 → ∀ i : Nat, (reachB b l p n)[i]? = if i < 64 * n ∧ pbit p (i / 64) = true then l[i]? else b[i]?
 | 0, _, i => by rw [if_neg (by omega)]; rfl
 | n + 1, hn, i => by
   have ih := reachB_get (p := p) hb hl n (by omega) i
   have hlen := reachB_len (p := p) hb hl n (by omega)
   unfold reachB
   by_cases hp : pbit p n = true
   · rw [if_pos hp, lay_get (by rw [List.length_take, List.length_drop]; omega)]
     have hdl : ((l.drop (64 * n)).take 64).length = 64 := by rw [List.length_take, List.length_drop]; omega
     rw [hdl]
     by_cases h1 : 64 * n ≤ i ∧ i < 64 * n + 64
     · have hq : i / 64 = n := by omega
       rw [if_pos h1, if_pos ⟨by omega, by rw [hq]; exact hp⟩, List.getElem?_take, if_pos (by omega), List.getElem?_drop, show 64 * n + (i - 64 * n) = i by omega]
     · rw [if_neg h1, ih]
       by_cases h2 : i < 64 * n
       · by_cases h3 : pbit p (i / 64) = true
         · rw [if_pos ⟨h2, h3⟩, if_pos ⟨by omega, h3⟩]
         · rw [if_neg (fun h => h3 h.2), if_neg (fun h => h3 h.2)]
       · rw [if_neg (fun h => h2 h.1), if_neg (fun h => by omega)]
   · rw [if_neg hp, ih]
     by_cases h2 : i < 64 * n
     · by_cases h3 : pbit p (i / 64) = true
       · rw [if_pos ⟨h2, h3⟩, if_pos ⟨by omega, h3⟩]
       · rw [if_neg (fun h => h3 h.2), if_neg (fun h => h3 h.2)]
     · rw [if_neg (fun h => h2 h.1), if_neg]
       rintro ⟨h3, h4⟩
       have hq : i / 64 = n := by omega
       rw [hq] at h4
       exact hp h4
def setBt (di : DI) (i : Nat) (t : Sl) (b : List UInt8) : DI := { di with bl := di.bl.set i (t, b) }
theorem put_byte {F0 : Nat → Prop} {w0 w : World} {L : List HA} {s : Sl} {l : List UInt8} {j : Nat} {b : UInt8} {k : Pr} (h : St F0 w0 w (SlA 1 s (l.map ub) :: L)) (hj : j < l.length)
   (hk : ∀ w', St F0 w0 w' (SlA 1 s ((l.set j b).map ub) :: L) → k w') :
   (owe ((0 : Int) ≤ (j : Int) ∧ (j : Int) < (s.len : Int)) <| deref s.a fun a => Eng.st (a.add (Int.toNat (j : Int) * 1)) (.int .u8 (b.toNat : Int)) k) w := by
 have hl := slA_len1 h.sl
 rw [List.length_map] at hl
 refine ⟨⟨by omega, by omega⟩, ?_⟩
 rw [Int.toNat_natCast]
 refine put_own h (by rw [List.length_map]; exact hj) trivial fun w' s' => hk w' ?_
 rw [List.map_set]
 exact s'
theorem wrap_u64_small {n : Nat} (h : n < 1000) : IntKind.wrap .u64 (n : Int) = (n : Int) := by
 simp only [IntKind.wrap, IntKind.signed, IntKind.bits]
 simp
 omega
set_option maxRecDepth 20000 in
theorem C98 (p : Nat) (D : DM) (di : DI) (i j : Nat) (s : Sl) (l : List UInt8) (x : Sl × List UInt8) (pick : Int) (w : World) (F : Nat → Prop) (h : Has (dpc p D di) w F) (hx : di.bl[i]? = some x) (hj : di.wl[j]? = some ((i : Int), s, l)) (hx256 : x.2.length = 256) (hl256 : l.length = 256) :
   Calls Tryz.prog 186 #[P0 p, .agg #[.int .i64 (i : Int), .slice s.a s.len s.cap], .int .u8 pick] w (RetT [] fun _ w' => ∃ t, St F w w' (dpc p D (setBt di i t (reachB x.2 l pick 4)))) := by
 refine F186_calls _ _ _ _ _ _ ?_
 unfold F186
 refine St.nw (St.init h) fun r w1 s1 _ _ => ?_
 simp only [deref_some']
 rw [drw_def]
 have s2 := s1.drew
 replace s2 : St F w w1.drew (BoxA r [.int .i64 (i : Int), slV s] :: dpc p D di) := s2
 refine (s2.bring 1).ld (i := 0) (s := .slice) (p := di.bs) rfl ?_
 refine s2.ld (i := 0) (s := .int .i64) (p := (i : Int)) rfl ?_
 have hil := (split_at hx).2
 have hbsl := slA_len1 (s2.bring 2).sl
 rw [List.length_map] at hbsl
 refine ⟨⟨by omega, by omega⟩, ?_⟩
 refine at_own (s2.bring 2).sl (p := x.1) (by rw [Int.toNat_natCast, List.getElem?_map, hx]; rfl) ?_
 have hxb := ((s2.bring 5).pick (i := i) (A := bytA x) (by rw [List.getElem?_map, hx]; rfl)).sl.bs
 have hxl := hxb.len
 refine clone_app hxb (by omega) fun t w2 ht gt => ?_
 have s3 := s2.mksl gt ht
 refine loop_of (fun z W => ∃ (k : Nat) (m : List UInt8), z = k ∧ k ≤ l.length ∧ m.length = l.length ∧ (∀ a : Nat, m[a]? = if a < k ∧ pbit pick (a / 64) = true then l[a]? else x.2[a]?) ∧ St F w W (SlA 1 t (m.map ub) :: BoxA r [.int .i64 (i : Int), slV s] :: dpc p D di)) (fun z _ => l.length - z.toNat)
   ⟨0, x.2, rfl, by omega, by omega, fun a => by rw [if_neg (by omega)], s3⟩ ?_
 intro z W hI
 obtain ⟨k, m, hz, hk, hm, hma, st⟩ := hI
 subst hz
 refine br_of (fun hlt => ?_) (fun hge => ?_)
 · simp only [decide_eq_true_eq] at hlt
   have hk256 : k < 256 := by omega
   refine jn_of (fun _ W' => ∃ m : List UInt8, m.length = l.length ∧ (∀ a : Nat, m[a]? = if a < k + 1 ∧ pbit pick (a / 64) = true then l[a]? else x.2[a]?) ∧ St F w W' (SlA 1 t (m.map ub) :: BoxA r [.int .i64 (i : Int), slV s] :: dpc p D di)) ?_ ?_
   rotate_left
   · rintro ⟨⟩ W' ⟨m', h1, h2, h3⟩
     rw [wrap_succ (by omega)]
     exact ⟨⟨k + 1, m', rfl, by omega, h1, h2, h3⟩, by omega⟩
   have hdiv : IntKind.wrap .u64 (IntKind.wrap .i64 ((k : Int).tdiv 64)) = ((k / 64 : Nat) : Int) := by
     have e1 : (k : Int).tdiv 64 = ((k / 64 : Nat) : Int) := by
       rw [Int.tdiv_eq_ediv_of_nonneg (by omega)]; omega
     rw [e1, wrap_i64 (by omega)]
     exact wrap_u64_small (by omega)
   rw [hdiv]
   refine ⟨by decide, by omega, ?_⟩
   refine br_of (fun hb => ?_) (fun hb => ?_)
   · have hp : pbit pick (k / 64) = true := hb
     refine (st.bring 1).ld (i := 1) (s := .slice) (p := s) rfl ?_
     have hsb : BS W s l := ((st.bring 7).pick (i := j) (A := bytA (s, l)) (by simp [hj])).sl.bs
     refine at_bs (b := l[k]) hsb (by simp [hl256, hk256]) ?_
     refine put_byte st (by omega) fun w' s4 => ⟨_, by rw [List.length_set]; exact hm, fun a => ?_, s4⟩
     rw [List.getElem?_set]
     by_cases hka : k = a
     · subst hka
       rw [if_pos rfl, if_pos (by omega), if_pos ⟨by omega, hp⟩]
       simp [hl256, hk256]
     · rw [if_neg hka, hma]
       by_cases h2 : a < k
       · by_cases h3 : pbit pick (a / 64) = true
         · rw [if_pos ⟨h2, h3⟩, if_pos ⟨by omega, h3⟩]
         · rw [if_neg (fun h => h3 h.2), if_neg (fun h => h3 h.2)]
       · rw [if_neg (fun h => h2 h.1), if_neg (fun h => by omega)]
   · have hp : ¬ pbit pick (k / 64) = true := by unfold pbit; rw [hb]; simp
     refine ⟨m, hm, fun a => ?_, st⟩
     rw [hma]
     by_cases h2 : a < k
     · by_cases h3 : pbit pick (a / 64) = true
       · rw [if_pos ⟨h2, h3⟩, if_pos ⟨by omega, h3⟩]
       · rw [if_neg (fun h => h3 h.2), if_neg (fun h => h3 h.2)]
     · rw [if_neg (fun h => h2 h.1), if_neg]
       rintro ⟨h3, h4⟩
       have : a = k := by omega
       subst this
       exact hp h4
 · simp only [decide_eq_false_iff_not] at hge
   have hk6 : k = 256 := by omega
   have hmr : m = reachB x.2 l pick 4 := by
     refine List.ext_getElem? fun a => ?_
     rw [hma, hk6, reachB_get hx256 hl256 4 (by omega)]
   rw [hmr] at st
   rw [drw_def]
   have s5 := st.drew
   refine (s5.bring 2).ld (i := 0) (s := .slice) (p := di.bs) rfl ?_
   refine (s5.bring 1).ld (i := 0) (s := .int .i64) (p := (i : Int)) rfl ?_
   refine ⟨⟨by omega, by omega⟩, ?_⟩
   rw [Int.toNat_natCast]
   refine put_own (s5.bring 3) (i := i) (v := slV t) (by rw [List.length_map]; exact hil) trivial fun W2 s6 => ⟨t, ?_⟩
   have s7 := (s6.sel [6, 0, 1, 2, 3, 4, 5, 7] 8).pick (i := i) (A := bytA x) (by rw [List.getElem?_map, hx]; rfl)

   have s8 := St.unpick (A := bytA (t, reachB x.2 l pick 4)) (s7.sel [3, 1, 2, 5, 6, 7, 8] 9) (by rw [List.length_map]; exact hil)
   have e1 : (di.bl.map bytA).set i (bytA (t, reachB x.2 l pick 4)) = (di.bl.set i (t, reachB x.2 l pick 4)).map bytA := by rw [List.map_set]
   have e2 : (di.bl.map fun x => slV x.1).set i (slV t) = (di.bl.set i (t, reachB x.2 l pick 4)).map fun x => slV x.1 := by rw [List.map_set]
   rw [e1, e2] at s8
   exact s8.sel [2, 1, 3, 4, 0, 5] 6
theorem C82 (p : Nat) (D : DM) (di : DI) (q : Sl) (pl : List UInt8) (w : World) (F : Nat → Prop) (h : Has (dpc p D di) w F) (hb : D.blocks = di.bl.map (·.2)) (hw : D.wait = di.wl.map fun x => (x.1, x.2.2)) (hok : D.ok) (hoff : D.off = false) (hwl : D.wait.length ≤ 1000000000)
   (hq : ∀ W dj L, SameDI di dj → St F w W (dpc p D dj ++ L) → BS W q pl) :
   Calls Tryz.prog 150 #[P0 p, .slice q.a q.len q.cap] w (RetT [.c (.int .i64)] fun r w' => r = 0 ∧ St F w w' [DiskA p (fallsD D pl)]) := by
 refine F150_calls _ _ _ _ ?_
 unfold F150
 have st := St.init h
 simp only [deref_some']
 refine st.ld (i := 2) (s := .bool) (p := D.off) rfl ?_
 refine br_f hoff ?_
 have hwn : di.wl.length ≤ 1000000000 := by rw [hw, List.length_map] at hwl; exact hwl
 have hwsl : di.ws.len = di.wl.length := (OwnS.ss (f := wcells) wcells_len (by decide) (st.bring 2).sl).len
 refine loop_of (fun z W => ∃ (j : Nat) (dj : DI), z = j ∧ j ≤ di.wl.length ∧ SameDI di dj ∧ (dj.bl.map (·.2)).length = D.blocks.length ∧ (∀ b ∈ dj.bl.map (·.2), b.length = 256) ∧ fallGo (dj.bl.map (·.2)) (D.wait.drop j) (pl.drop j) = fallGo D.blocks D.wait pl ∧ St F w W (dpc p D dj)) (fun z _ => di.wl.length - z.toNat)
   ⟨0, di, rfl, by omega, ⟨rfl, rfl, rfl, rfl⟩, by rw [hb], by rw [← hb]; exact hok.len, by rw [hb]; rfl, st⟩ ?_
 rintro _ W ⟨j, dj, rfl, hj, hsame, hbl, hb256, hgo, s1⟩
 have hqs := hq W dj [] hsame s1
 have hql := hqs.len
 refine jn_of (fun b W' => b = decide (j < di.wl.length ∧ j < pl.length) ∧ W = W') ?_ ?_
 · refine s1.ld (i := 1) (s := .slice) (p := di.ws) (by show some (slV dj.ws) = _; rw [hsame.ws]; rfl) ?_
   refine br_of (fun h1 => ⟨?_, rfl⟩) (fun h1 => ⟨?_, rfl⟩)
   · simp only [decide_eq_true_eq] at h1
     rw [decide_eq_decide]; omega
   · simp only [decide_eq_false_iff_not] at h1
     symm; rw [decide_eq_false_iff_not]; omega
 rintro _ _ ⟨rfl, rfl⟩
 by_cases hc : j < di.wl.length ∧ j < pl.length
 · refine br_t (by simp [hc]) ?_
   obtain ⟨hjl, hjp⟩ := hc
   rw [drw_def]
   have s5 := s1.drew
   obtain ⟨x, hxx⟩ : ∃ x, di.wl[j]? = some x := ⟨di.wl[j], by simp [hjl]⟩
   have hDj : D.wait[j]? = some (x.1, x.2.2) := by rw [hw, List.getElem?_map, hxx]; rfl
   have hxw := hok.wlen _ (List.mem_of_getElem? hDj)
   dsimp only at hxw
   have hdrop : D.wait.drop j = (x.1, x.2.2) :: D.wait.drop (j + 1) := by
     have := (split_at hDj).2
     rw [List.getElem?_eq_getElem this, Option.some.injEq] at hDj
     rw [List.drop_eq_getElem_cons this, hDj]
   have hpick : pl.drop j = pl[j] :: pl.drop (j + 1) := List.drop_eq_getElem_cons hjp
   refine s5.ld (i := 1) (s := .slice) (p := di.ws) (by show some (slV dj.ws) = _; rw [hsame.ws]; rfl) ?_
   refine at_w (x := x) (s := di.ws) (wl := di.wl) (by have := (s5.bring 2).sl; rw [hsame.ws, hsame.wl] at this; exact this) hxx ?_
   refine at_bs (b := pl[j]) (hq _ dj [] hsame s5) (by simp [hjp]) ?_
   obtain ⟨G, H, g1, _, _, _, gc⟩ := St.call (dpc p D dj) (l := []) s5
   obtain ⟨i, hi⟩ := Int.eq_ofNat_of_zero_le hxw.1
   have hil : i < dj.bl.length := by rw [List.length_map] at hbl; omega
   obtain ⟨y, hy⟩ : ∃ y, dj.bl[i]? = some y := ⟨dj.bl[i], by simp [hil]⟩
   have hy256 : y.2.length = 256 := hb256 _ (List.mem_map.2 ⟨y, List.mem_of_getElem? hy, rfl⟩)
   have hxj : dj.wl[j]? = some ((i : Int), x.2.1, x.2.2) := by rw [hsame.wl, hxx, ← hi]
   dsimp only
   rw [hi]
   refine callF_of (C98 p D dj i j x.2.1 x.2.2 y (pl[j].toNat : Int) _ G g1 hy hxj hy256 hxw.2.2) ?_
   rintro ⟨⟩ w6 ⟨t, s6⟩
   have s7 := gc _ _ s6
   rw [List.append_nil] at s7
   have hset : (setBt dj i t (reachB y.2 x.2.2 (pl[j].toNat : Int) 4)).bl.map (·.2) = (dj.bl.map (·.2)).set i (reachB y.2 x.2.2 (pl[j].toNat : Int) 4) := by
     show (dj.bl.set i _).map _ = _
     rw [List.map_set]
   rw [wrap_succ (by omega)]
   refine ⟨⟨j + 1, setBt dj i t (reachB y.2 x.2.2 (pl[j].toNat : Int) 4), rfl, by omega, ⟨hsame.bs, hsame.ws, hsame.ps, hsame.wl⟩, ?_, ?_, ?_, s7⟩, by omega⟩
   · rw [hset, List.length_set]; exact hbl
   · intro b hbm
     rw [hset] at hbm
     rcases List.mem_or_eq_of_mem_set hbm with h | rfl
     · exact hb256 b h
     · exact reachB_len hy256 hxw.2.2 4 (by omega)
   · rw [← hgo, hset, hdrop, hpick]
     show _ = fallGo ((dj.bl.map (·.2)).set x.1.toNat _) _ _
     rw [hi]
     simp only [Int.ofNat_eq_natCast, Int.toNat_natCast, List.getElem?_map, hy, Option.map_some, Option.getD_some]
 · refine br_f (by simp only [hc, decide_false]) ?_
   have hf : fallGo (dj.bl.map (·.2)) (D.wait.drop j) (pl.drop j) = dj.bl.map (·.2) := by
     by_cases h1 : j < di.wl.length
     · have h2 : pl.length ≤ j := by omega
       rw [List.drop_eq_nil_of_le h2]
       cases D.wait.drop j <;> rfl
     · have h2 : D.wait.drop j = [] := List.drop_eq_nil_of_le (by rw [hw, List.length_map]; omega)
       rw [h2]
       unfold fallGo; rfl
   rw [hf] at hgo
   refine s1.st (i := 1) (by simp) trivial fun w2 s2 => ?_
   refine s2.st (i := 2) (by simp) trivial fun w3 s3 => ?_
   refine s3.st (i := 4) (by simp) trivial fun w4 s4 => ?_
   refine s4.st (i := 5) (by simp) trivial fun w5 s5 => ⟨trivial, ?_⟩
   refine mkDisk (D := fallsD D pl) ⟨dj.bs, ⟨none, 0, 0⟩, ⟨none, 0, 0⟩, dj.bl, []⟩ hgo.symm rfl ?_
   exact (((s5.nosl 2).nosl 1).nobig).sel [3, 4, 2, 1, 7, 0] 9
end Go.Proofs

namespace Go.Proofs
open Go.Eng
theorem wr_tail' {E : Nat} {F0 : Nat → Prop} {w0 w : World} {L : List HA} {p r : Nat} {D : DM} {di : DI} {i : Int} {t : Sl} {l : List UInt8} {k : Pr} (hb : D.blocks = di.bl.map (·.2)) (hw : D.wait = di.wl.map fun x => (x.1, x.2.2)) (hn : D.wait.length ≤ 1000000000)
   (st : St F0 w0 w (BoxA r [.int .i64 i, slV t] :: SlA 1 t (l.map ub) :: BoxA p [slV di.bs, slV di.ws, .bool D.off, .int .i64 D.ops, .int .i64 D.armed, slV di.ps] :: SlA 1 di.bs (di.bl.map fun x => slV x.1) :: SlA 2 di.ws (di.wl.flatMap wcells) :: SlA 1 di.ps (D.picks.map ub) ::
     bigA (di.bl.map bytA) :: bigA (di.wl.map fun x => bytA x.2) :: L)) (hk : ∀ w', St F0 w0 w' (DiskA p (addW D i l) :: L) → k w') :
   app E 2 32 [.int .i64 0, .slice none 0 0] di.ws ⟨some ⟨r, 0, none⟩, 1, 1⟩ (fun t27 => Eng.st (Addr.add ⟨p, 0, none⟩ 1) (.slice t27.a t27.len t27.cap) k) w := by
 have hwl := (st.bring 4).sl.len
 rw [flatMap_len wcells_len] at hwl
 have hn2 : di.wl.length ≤ 1000000000 := by rw [hw, List.length_map] at hn; exact hn
 refine (st.bring 4).app (new := wcells (i, t, l)) (fun _ => rfl) (fun h => by cases h) (readsAt_row.2 st.box.row) NotAgg_wcells rfl (by decide) (by dsimp only; omega) fun r2 w2 s2 _ => ?_
 refine (s2.bring 3).st (i := 1) (by simp) trivial fun w3 s3 => ?_
 refine hk w3 (mkDisk (D := addW D i l) { di with ws := r2, wl := di.wl ++ [(i, t, l)] } hb (by simp [addW, hw]) ?_)
 dsimp only [addW]
 rw [List.flatMap_append, List.map_append]
 have s5 := (s3.sel [3, 7, 0, 4, 1, 5, 6] 8).push
 exact s5.sel [1, 2, 3, 4, 5, 0] 6
theorem C48 (p : Nat) (D : DM) (i : Int) (b : Sl) (l : List UInt8) (w : World) (F : Nat → Prop) (h : Has [DiskA p D] w F) (hb : Rd w F b l) (hok : D.ok) (hwl : D.wait.length ≤ 100000000) (ha : 0 ≤ D.armed) (ha2 : D.armed ≤ 9223372036854775807) (ho : 0 ≤ D.ops ∧ D.ops ≤ 1000000000000000) :
   Calls Tryz.prog 136 #[P0 p, .int .i64 i, .slice b.a b.len b.cap] w (RetT [.c (.int .i64)] fun r w' => r = (writeD D i l).1 ∧ St F w w' [DiskA p (writeD D i l).2]) := by
 refine F136_calls _ _ _ _ _ ?_
 unfold F136
 have stF := St.init h
 obtain ⟨di, sd⟩ := (St.init h).ex
 obtain ⟨⟨hb', hw⟩, sd⟩ := sd.p
 simp only [deref_some']
 refine sd.ld (i := 2) (s := .bool) (p := D.off) rfl ?_
 refine br_of (fun hoff => ?_) (fun hoff => ?_)
 · have hp : placeE D i = 5 := by unfold placeE; rw [if_pos hoff]
   unfold writeD
   rw [if_pos (by rw [hp]; decide), hp]
   exact ⟨rfl, stF⟩
 have hbs := slA_len1 (sd.bring 1).sl
 have hbl : di.bl.length = D.blocks.length := by rw [hb']; simp
 rw [List.length_map, hbl] at hbs
 refine jn_of (fun b W => b = decide (i < 0 ∨ i ≥ D.blocks.length) ∧ w = W) ?_ ?_
 · refine br_of (fun h0 => ⟨?_, rfl⟩) (fun h0 => ?_)
   · simp only [decide_eq_true_eq] at h0
     symm; rw [decide_eq_true_eq]; exact .inl h0
   · simp only [decide_eq_false_iff_not] at h0
     refine sd.ld (i := 0) (s := .slice) (p := di.bs) rfl ⟨?_, rfl⟩
     rw [decide_eq_decide]; omega
 rintro _ _ ⟨rfl, rfl⟩
 by_cases hc : i < 0 ∨ i ≥ D.blocks.length
 · refine br_t (by simp [hc]) ?_
   have hp : placeE D i = 30 := by unfold placeE; rw [if_neg (by simp [hoff]), if_pos hc]
   unfold writeD
   rw [if_pos (by rw [hp]; decide), hp]
   exact ⟨rfl, stF⟩
 refine br_f (by simp [hc]) ?_
 have hp : placeE D i = 0 := by unfold placeE; rw [if_neg (by simp [hoff]), if_neg hc]
 have hbl2 := hb.bs.len
 refine br_of (fun hne => ?_) (fun heq => ?_)
 · have hne : l.length ≠ 256 := by simp at hne; omega
   unfold writeD
   rw [if_neg (by rw [hp]; decide), if_pos hne]
   exact ⟨rfl, stF⟩
 have hl : l.length = 256 := by simp at heq; omega
 have st := sd.drew
 rw [drw_def]
 have hclone : ∀ W L, St F w W L → ∀ k : Sl → Pr, (∀ t w', St F w w' (SlA 1 t (l.map ub) :: L) → k t w') → app 5 1 1 [.int .u8 0] ⟨none, 0, 0⟩ b k W := by
   intro W L s k hk
   refine clone_app (hb.at s) (by omega) fun t w' ht g5 => ?_
   exact hk t w' (s.mksl g5 ht)
 refine st.ld (i := 1) (s := .slice) (p := di.ws) rfl ?_
 refine hclone _ _ st _ fun t w1 s1 => ?_
 refine St.nw s1 fun r w2 s2 _ _ => ?_
 refine wr_tail' hb' hw (by omega) s2 fun W st => ?_
 obtain ⟨G, H, _, h1, _, _, _, hcl⟩ := st.call1
 have hok1 := addW_ok hok (i := i) (l := l) ⟨by omega, by omega⟩ hl
 refine callF_of (C81 p (addW D i l) W G h1 ha ha2 ho) ?_
 rintro _ w' ⟨rfl, s2⟩
 have s3 := hcl w' _ s2
 have hwr : writeD D i l = (if (goesD (addW D i l)).1 then 5 else 0, (goesD (addW D i l)).2) := by
   unfold writeD
   rw [if_neg (by rw [hp]; decide), if_neg (by simp [hl])]
 rw [hwr]
 have hga : (addW D i l).armed = D.armed := rfl
 by_cases h1' : D.armed = 1
 · refine br_t (by rw [hga]; simp [h1']) ?_
   have hg : goesD (addW D i l) = (true, fallsD (stepD (addW D i l)) (addW D i l).picks) := by
     unfold goesD
     rw [if_neg (by rw [hga]; omega), if_neg (by rw [hga]; omega)]
     rfl
   rw [hg]
   obtain ⟨dj, s4⟩ := s3.ex
   obtain ⟨⟨hbj, hwj⟩, s4⟩ := s4.p
   refine s4.ld (i := 5) (s := .slice) (p := dj.ps) rfl ?_
   obtain ⟨G2, H2, g1, _, _, _, gc⟩ := St.call (dpc p (stepD (addW D i l)) dj) (l := []) s4
   have hok2 : (stepD (addW D i l)).ok := ⟨hok1.len, hok1.wlen, hok1.pos, hok1.le⟩
   refine callF_of (C82 p (stepD (addW D i l)) dj dj.ps (addW D i l).picks w' G2 g1 hbj hwj hok2 (by exact hoff) (by show (D.wait ++ [_]).length ≤ _; rw [List.length_append, List.length_singleton]; omega) fun W dk L hs s5 => ?_) ?_
   · have := (s5.bring 3).sl.bs
     rw [hs.ps] at this
     exact this
   rintro e w6 ⟨_, s6⟩
   exact ⟨rfl, gc _ _ s6⟩
 · refine br_f (by rw [hga]; simp [h1']) ?_
   have hg : goesD (addW D i l) = (false, stepD (addW D i l)) := by
     unfold goesD stepD
     by_cases h0 : D.armed = 0
     · rw [if_pos (by rw [hga]; exact h0), if_pos (by rw [hga]; exact h0)]
       have : (addW D i l).armed = 0 := h0
       rw [← this]
     · rw [if_neg (by rw [hga]; exact h0), if_pos (by rw [hga]; omega), if_neg (by rw [hga]; exact h0)]
   rw [hg]
   exact ⟨rfl, s3⟩
def armD (D : DM) (n : Int) (l : List UInt8) : Int × DM := if D.off then (5, D) else if n < 0 then (1, D) else (0, { D with armed := n, picks := l })
theorem C50 (p : Nat) (D : DM) (n : Int) (b : Sl) (l : List UInt8) (w : World) (F : Nat → Prop) (h : Has [DiskA p D] w F) (hb : Rd w F b l) (hl : l.length ≤ 1000000) :
   Calls Tryz.prog 39 #[P0 p, .int .i64 n, .slice b.a b.len b.cap] w (RetT [.c (.int .i64)] fun r w' => r = (armD D n l).1 ∧ St F w w' [DiskA p (armD D n l).2]) := by
 refine F39_calls _ _ _ _ _ ?_
 unfold F39
 have stF := St.init h
 obtain ⟨di, sd⟩ := (St.init h).ex
 obtain ⟨⟨hb', hw⟩, sd⟩ := sd.p
 simp only [deref_some']
 unfold armD
 refine sd.ld (i := 2) (s := .bool) (p := D.off) rfl ?_
 refine br_of (fun hoff => ?_) (fun hoff => br_of (fun hn => ?_) (fun hn => ?_))
 · rw [if_pos hoff]; exact ⟨rfl, stF⟩
 · simp only [decide_eq_true_eq] at hn
   rw [if_neg (by simp [hoff]), if_pos hn]; exact ⟨rfl, stF⟩
 simp only [decide_eq_false_iff_not] at hn
 rw [if_neg (by simp [hoff]), if_neg hn]
 refine sd.st (i := 4) (by simp) trivial fun w2 s2 => ?_
 have hbl := hb.bs.len
 refine clone_app (hb.at s2) (by omega) fun t w3 ht g => ?_
 have s3 := s2.mksl g ht
 refine (s3.bring 1).st (i := 5) (by simp) trivial fun w4 s4 => ⟨rfl, ?_⟩
 refine mkDisk (D := { D with armed := n, picks := l }) { di with ps := t } hb' hw ?_
 exact s4.sel [0, 2, 3, 1, 5, 6] 7
theorem C84 (s : Sl) (l : List UInt8) (w : World) (h : BS w s l) (hl : s.len ≤ 1000000) : Calls Tryz.prog 86 #[.slice s.a s.len s.cap] w (RetT [.c .slice] fun r w' => St noF w w' [SlA 1 r (l.map ub)]) := by
 refine F86_calls s _ _ ?_
 unfold F86
 refine ⟨trivial, br_of (fun hn => ?_) (fun hn => ?_)⟩
 · have ha : s.a = none := by simpa using hn
   have h0 := h.none_len ha
   have hl0 : l = [] := List.eq_nil_of_length_eq_zero (by rw [← h.len, h0])
   subst hl0
   exact (St.init0 w).nosl 1
 · have ha : s.a ≠ none := fun h => by simp [h] at hn
   refine St.nw (St.init0 w) fun r w1 s1 g1 _ => ?_
   have s2 : St noF w w1 [SlA 1 ⟨some ⟨r, 0, none⟩, 0, 0⟩ []] := by
     refine s1.conv (m := [SlA 1 ⟨some ⟨r, 0, none⟩, 0, 0⟩ []]) fun F hF => Has.mk1 ⟨⟨by simp, by simp, .inr ⟨r, 0, [], rfl, Nat.zero_le _, hF.1.lt, hF.1.unf, Row.nil _ _, rfl⟩⟩, fun c => ?_⟩
     rw [hF.2]
     constructor
     · rintro rfl; exact ⟨_, rfl, rfl⟩
     · rintro ⟨ad, h1, h2⟩; simp only [Option.some.injEq] at h1; rw [← h2, ← h1]
   have := h.len
   refine s2.app (new := l.map ub) (fun _ => by simp; omega) h.none_len (h.row.grow g1) NotAgg_ub rfl (by decide) (by dsimp only; omega) fun r2 w3 s3 _ => ?_
   exact s3
theorem C49 (p : Nat) (D : DM) (n : Int) (b : Sl) (l : List UInt8) (w : World) (F : Nat → Prop) (h : Has [DiskA p D] w F) (hb : Rd w F b l) (hok : D.ok) (hl : l.length ≤ 1000000) :
   Calls Tryz.prog 38 #[P0 p, .int .i64 n, .slice b.a b.len b.cap] w (RetT [.c (.int .i64)] fun r w' => r = (armD D n l).1 ∧ St F w w' [DiskA p (armD D n l).2]) := by
 refine F38_calls _ _ _ _ _ ?_
 unfold F38
 refine callF_of (C83 p D w F h hok) ?_
 rintro _ _ ⟨rfl, rfl⟩
 have stF := St.init h
 obtain ⟨di, sd⟩ := (St.init h).ex
 obtain ⟨⟨hb', hw⟩, sd⟩ := sd.p
 simp only [deref_some']
 unfold armD canE
 by_cases hoff : D.off = true
 · refine br_t (by simp [hoff]) ?_
   rw [if_pos hoff, if_pos hoff]; exact ⟨rfl, stF⟩
 refine br_f (by simp [hoff]) (br_of (fun hn => ?_) (fun hn => ?_))
 · simp only [decide_eq_true_eq] at hn
   rw [if_neg hoff, if_pos hn]; exact ⟨rfl, stF⟩
 simp only [decide_eq_false_iff_not] at hn
 rw [if_neg hoff, if_neg hn]
 have hbl := hb.bs.len
 refine callF_of (C84 b l w hb.bs (by omega)) ?_
 rintro t w2 s2
 have s3 := sd.call0 s2
 refine (s3.bring 1).st (i := 4) (by simp) trivial fun w4 s4 => ?_
 refine s4.st (i := 5) (by simp) trivial fun w5 s5 => ⟨rfl, ?_⟩
 refine mkDisk (D := { D with armed := n, picks := l }) { di with ps := t } hb' hw ?_
 exact s5.sel [0, 2, 3, 1, 5, 6] 7
def upD (D : DM) : Int × DM := if D.off then (0, { D with off := false }) else (7, D)
theorem C51 (p : Nat) (D : DM) (w : World) (F : Nat → Prop) (h : Has [DiskA p D] w F) (hok : D.ok) : Calls Tryz.prog 23 #[P0 p] w (RetT [.c (.int .i64)] fun r w' => r = (upD D).1 ∧ St F w w' [DiskA p (upD D).2]) := by
 refine F23_calls _ _ _ ?_
 unfold F23
 refine callF_of (C83 p D w F h hok) ?_
 rintro _ _ ⟨rfl, rfl⟩
 obtain ⟨di, sd⟩ := (St.init h).ex
 obtain ⟨⟨hb', hw⟩, sd⟩ := sd.p
 simp only [deref_some']
 unfold upD canE
 by_cases hoff : D.off = true
 · refine br_f (by simp [hoff]) (br_t (by simp [hoff]) ?_)
   rw [if_pos hoff]
   refine sd.st (i := 2) (by simp) trivial fun w2 s2 => ⟨rfl, ?_⟩
   exact mkDisk (D := { D with off := false }) di hb' hw s2
 · refine br_t (by simp [hoff]) ?_
   rw [if_neg hoff]
   exact ⟨rfl, St.init h⟩
end Go.Proofs

namespace Go.Proofs
open Go.Eng
theorem C99 (n : Int) (w : World) (h0 : 0 ≤ n) (h1 : n ≤ 1000000) : Calls Tryz.prog 135 #[.slice none 0 0, .int .i64 n] w (RetT [.c .slice] fun r w' => St noF w w' [SlA 1 r []]) := by
 refine F135_calls ⟨none, 0, 0⟩ n _ _ ?_
 unfold F135
 refine jn_of (fun _ w' => w = w') (br_f (by simpa using h0) rfl) ?_
 rintro ⟨⟩ _ rfl
 have hw : IntKind.wrap .i64 (n - IntKind.wrap .i64 (((0 : Nat) : Int) - ((0 : Nat) : Int))) = n := by
   rw [show IntKind.wrap .i64 (((0 : Nat) : Int) - ((0 : Nat) : Int)) = 0 from rfl, wrap_i64 (by omega)]; omega
 rw [hw]
 refine br_of (fun h => ?_) (fun h => (St.init0 w).nosl 1)
 simp only [gt_iff_lt, decide_eq_true_eq] at h
 refine slc_hi (by decide) (by decide) ?_
 simp only [Int.toNat_natCast, if_true]
 refine ⟨h0, by omega, wrap_i64 (by omega), fun hroom => ?_, fun _ => ⟨[], fun h => by simp at h, rfl, ?_, ?_, ?_⟩⟩
 · have : 0 + n.toNat ≤ 0 := hroom
   omega
 · have := nextslicecap_le (show 0 < 0 + n.toNat by omega)
   show Builtin.nextslicecap (0 + n.toNat) 0 * 1 ≤ 2 ^ 48
   omega
 · show 0 + n.toNat < 2 ^ 63
   omega
 intro cap hc1 hc2
 dsimp only at hc1 hc2 ⊢
 refine slc_hi (by decide) (by dsimp only; omega) ?_
 simp only [map_add_zero, ite_self]
 refine (St.init0 w).mksl ((Mod.refl _ w).drew.alloc _) ?_
 generalize hL : ([] ++ zc [.int .u8 0] n.toNat ++ zc [.int .u8 0] (cap - (0 + n.toNat)) : List Value) = L
 have hLl : L.length = cap * 1 := by rw [← hL]; simp only [List.nil_append, List.length_append, zc_length, List.length_cons, List.length_nil]; omega
 refine ⟨by simp, by simp, .inr ⟨w.heap.size, 0, L, rfl, Nat.le_refl _, by simp, fun o _ _ => ?_, ?_, by simpa using hLl⟩⟩
 · exact World.frozen?_alloc_new w.drew _ _ o
 · intro j v hj
   rw [add_mk, Nat.zero_add]
   have := World.cell?_alloc_new w.drew L.toArray 5 j
   rw [World.size_drew] at this
   rw [this]
   simpa using hj
def catB (bl : List (Sl × List UInt8)) : List UInt8 := bl.flatMap (·.2)
theorem catB_succ {bl : List (Sl × List UInt8)} {j : Nat} {x : Sl × List UInt8} (h : bl[j]? = some x) : catB (bl.take (j + 1)) = catB (bl.take j) ++ x.2 := by
 have hj := (split_at h).2
 rw [List.getElem?_eq_getElem hj, Option.some.injEq] at h
 unfold catB
 rw [List.take_add_one, List.getElem?_eq_getElem hj, h, List.flatMap_append]
 simp
theorem catB_len {bl : List (Sl × List UInt8)} (h : ∀ x ∈ bl, x.2.length = 256) : (catB bl).length = bl.length * 256 := by
 unfold catB
 induction bl with
 | nil => rfl
 | cons x bl ih =>
   rw [List.flatMap_cons, List.length_append, ih fun y hy => h y (by simp [hy]), h x (by simp), List.length_cons]
   omega
structure Rows256 (w : World) (bs : Sl) (bl : List (Sl × List UInt8)) : Prop where
 own : OwnS w 0 1 bs (bl.map fun x => slV x.1)
 row : ∀ x ∈ bl, BS w x.1 x.2
 len : ∀ x ∈ bl, x.2.length = 256
 le : bl.length ≤ 2048
theorem Rows256.grow {w w' : World} {bs : Sl} {bl : List (Sl × List UInt8)} (h : Rows256 w bs bl) (g : Grow w w') : Rows256 w' bs bl := ⟨h.own.grow g, fun x hx => (h.row x hx).grow g, h.len, h.le⟩
theorem Rows256.at {w : World} {bs : Sl} {bl : List (Sl × List UInt8)} (h : Rows256 w bs bl) {j : Nat} {x : Sl × List UInt8} (hx : bl[j]? = some x) {k : Sl → Pr} (hk : k x.1 w) :
   (owe ((0 : Int) ≤ (j : Int) ∧ (j : Int) < (bs.len : Int)) <| deref bs.a fun a => ldC .slice (a.add (Int.toNat (j : Int) * 1)) k) w := by
 have hl := slA_len1 h.own
 rw [List.length_map] at hl
 have := (split_at hx).2
 refine ⟨⟨by omega, by omega⟩, ?_⟩
 rw [Int.toNat_natCast]
 exact at_own h.own (p := x.1) (by rw [List.getElem?_map, hx]; rfl) hk
theorem Rows256.blen {w : World} {bs : Sl} {bl : List (Sl × List UInt8)} (h : Rows256 w bs bl) : bs.len = bl.length := by
 have := slA_len1 h.own
 rwa [List.length_map] at this
theorem C86 (bs : Sl) (bl : List (Sl × List UInt8)) (w : World) (h : Rows256 w bs bl) : Calls Tryz.prog 79 #[.slice bs.a bs.len bs.cap] w (RetT [.c .slice] fun r w' => St noF w w' [SlA 1 r ((catB bl).map ub)]) := by
 refine F79_calls bs _ _ ?_
 unfold F79
 have hl := h.blen
 have hle := h.le
 simp only [deref_some']
 refine loop_of (fun z W => ∃ j : Nat, z.2 = j ∧ j ≤ bl.length ∧ z.1 = ((256 * j : Nat) : Int) ∧ w = W) (fun z _ => bl.length - z.2.toNat) ⟨0, rfl, by omega, rfl, rfl⟩ ?_
 rintro ⟨n, _⟩ _ ⟨j, rfl, hj, rfl, rfl⟩
 dsimp only
 refine br_of (fun hlt => ?_) (fun hge => ?_)
 · simp only [decide_eq_true_eq] at hlt
   have hjl : j < bl.length := by omega
   obtain ⟨x, hx⟩ : ∃ x, bl[j]? = some x := ⟨bl[j], by simp [hjl]⟩
   have hx256 := h.len x (List.mem_of_getElem? hx)
   have hxl := (h.row x (List.mem_of_getElem? hx)).len
   refine jn_of (fun m W => m = ((256 * (j + 1) : Nat) : Int) ∧ w = W) ?_ ?_
   · refine h.at hx ?_
     rw [wrap_i64 (by omega)]
     refine br_f (by simp only [decide_eq_false_iff_not]; omega) ⟨by omega, rfl⟩
   · rintro m _ ⟨rfl, rfl⟩
     rw [wrap_succ (by omega)]
     exact ⟨⟨j + 1, rfl, by omega, rfl, rfl⟩, by omega⟩
 · simp only [decide_eq_false_iff_not] at hge
   refine callF_of (C99 ((256 * j : Nat) : Int) w (by omega) (by omega)) ?_
   rintro t w1 s1
   refine loop_of (fun z W => ∃ j : Nat, z.2 = j ∧ j ≤ bl.length ∧ St noF w W [SlA 1 z.1 ((catB (bl.take j)).map ub)]) (fun z _ => bl.length - z.2.toNat) ⟨0, rfl, by omega, s1⟩ ?_
   rintro ⟨u, _⟩ W ⟨j, rfl, hj, s2⟩
   dsimp only at s2 ⊢
   refine br_of (fun hlt => ?_) (fun hge => ?_)
   · simp only [decide_eq_true_eq] at hlt
     have hjl : j < bl.length := by omega
     obtain ⟨x, hx⟩ : ∃ x, bl[j]? = some x := ⟨bl[j], by simp [hjl]⟩
     have hx256 := h.len x (List.mem_of_getElem? hx)
     have hxb := (h.row x (List.mem_of_getElem? hx)).grow s2.gro
     have hxl := hxb.len
     have hul := slA_len1 s2.sl
     rw [List.length_map, catB_len fun y hy => h.len y (List.mem_of_mem_take hy), List.length_take] at hul
     refine (h.grow s2.gro).at hx ?_
     refine s2.app (new := x.2.map ub) (fun _ => by simp; omega) hxb.none_len hxb.row NotAgg_ub rfl (by decide) (by omega) fun r w3 s3 _ => ?_
     rw [wrap_succ (by omega)]
     refine ⟨⟨j + 1, rfl, by omega, ?_⟩, by omega⟩
     rw [catB_succ hx, List.map_append]
     exact s3
   · simp only [decide_eq_false_iff_not] at hge
     rw [List.take_of_length_le (by omega)] at s2
     exact s2
theorem rows_of {p : Nat} {D : DM} {w : World} {F : Nat → Prop} (h : Has [DiskA p D] w F) (hok : D.ok) : ∃ di : DI, D.blocks = di.bl.map (·.2) ∧ Rows256 w di.bs di.bl ∧ ∃ vs, Box w p (slV di.bs :: vs) := by
 obtain ⟨di, sd⟩ := (St.init h).ex
 obtain ⟨⟨hb', hw⟩, sd⟩ := sd.p
 have hl : di.bl.length = D.blocks.length := by rw [hb']; simp
 refine ⟨di, hb', ⟨(sd.bring 1).sl, fun x hx => ?_, fun x hx => hok.len _ (by rw [hb']; exact List.mem_map.2 ⟨x, hx, rfl⟩), by rw [hl]; exact hok.le⟩, _, sd.box⟩
 obtain ⟨j, hj⟩ := List.getElem?_of_mem hx
 exact ((sd.bring 4).pick (i := j) (A := bytA x) (by rw [List.getElem?_map, hj]; rfl)).sl.bs
theorem catB_flat (bl : List (Sl × List UInt8)) : catB bl = (bl.map (·.2)).flatten := by unfold catB; rw [List.flatMap_def]
theorem C54 (p : Nat) (D : DM) (w : World) (F : Nat → Prop) (h : Has [DiskA p D] w F) (hok : D.ok) : Calls Tryz.prog 25 #[P0 p] w (RetT [.c .slice] fun r w' => St noF w w' [SlA 1 r (D.blocks.flatten.map ub)]) := by
 refine F25_calls _ _ _ ?_
 unfold F25
 obtain ⟨di, hb, hr, vs, hbx⟩ := rows_of h hok
 refine ⟨trivial, br_f rfl ?_⟩
 simp only [deref_some']
 refine hbx.ld (i := 0) (s := .slice) (p := di.bs) rfl ?_
 refine callF_of (C86 di.bs di.bl w hr) ?_
 rintro t w1 s1
 rw [hb, ← catB_flat]
 exact s1
theorem C55 (p : Nat) (D : DM) (w : World) (F : Nat → Prop) (h : Has [DiskA p D] w F) (hok : D.ok) : Calls Tryz.prog 92 #[P0 p] w (RetT [.c .slice] fun r w' => St noF w w' [SlA 1 r (D.blocks.flatten.map ub)]) := by
 refine F92_calls _ _ _ ?_
 unfold F92
 obtain ⟨di, hb, hr, vs, hbx⟩ := rows_of h hok
 have hl := hr.blen
 have hle := hr.le
 simp only [deref_some']
 refine loop_of (fun z W => ∃ j : Nat, z.2 = j ∧ j ≤ di.bl.length ∧ St noF w W [SlA 1 z.1 ((catB (di.bl.take j)).map ub)]) (fun z _ => di.bl.length - z.2.toNat) ⟨0, rfl, by omega, (St.init0 w).nosl 1⟩ ?_
 rintro ⟨u, _⟩ W ⟨j, rfl, hj, s2⟩
 dsimp only at s2 ⊢
 refine (hbx.grow s2.gro).ld (i := 0) (s := .slice) (p := di.bs) rfl ?_
 refine br_of (fun hlt => ?_) (fun hge => ?_)
 · simp only [decide_eq_true_eq] at hlt
   have hjl : j < di.bl.length := by omega
   obtain ⟨x, hx⟩ : ∃ x, di.bl[j]? = some x := ⟨di.bl[j], by simp [hjl]⟩
   have hx256 := hr.len x (List.mem_of_getElem? hx)
   have hxb := (hr.row x (List.mem_of_getElem? hx)).grow s2.gro
   have hxl := hxb.len
   have hul := slA_len1 s2.sl
   rw [List.length_map, catB_len fun y hy => hr.len y (List.mem_of_mem_take hy), List.length_take] at hul
   refine (hbx.grow s2.gro).ld (i := 0) (s := .slice) (p := di.bs) rfl ?_
   refine (hr.grow s2.gro).at hx ?_
   refine s2.app (new := x.2.map ub) (fun _ => by simp; omega) hxb.none_len hxb.row NotAgg_ub rfl (by decide) (by omega) fun r w3 s3 _ => ?_
   rw [wrap_succ (by omega)]
   refine ⟨⟨j + 1, rfl, by omega, ?_⟩, by omega⟩
   rw [catB_succ hx, List.map_append]
   exact s3
 · simp only [decide_eq_false_iff_not] at hge
   rw [List.take_of_length_le (by omega)] at s2
   rw [hb, ← catB_flat]
   exact s2
end Go.Proofs

set_option maxRecDepth 100000
namespace Go.Proofs
open Go.Eng
def an22 : An := (.sq .z (.sq (.sq .z (.sq .z (.br (.sq .z .z) .z))) (.sq .z (.sq .z .z))))
def F22 (p0 : Option Addr) (p1 : Sl) (Q : Int → Pr) : Pr :=
 callF Tryz.prog 67 [(.pointer p0)] [.c I64] fun (t7 : Int) =>
 br (t7 != 0) (
 Q t7) (
 callF Tryz.prog 68 [(.pointer p0), (slV p1)] [] fun (t13 : Unit) =>
 Q 0)
theorem F22_calls (p0 : Option Addr) (p1 : Sl) (Q : Int → Pr) (w : World) (h : F22 p0 p1 Q w) : Calls Tryz.prog 22 #[(.pointer p0), (slV p1)] w (RetT [.c I64] Q) := cF (an := an22) Tryz.func22 (by kernel_rfl) h
def an35 : An := (.sq .z (.sq .z (.sq (.sq (.jn [(21, .c .bool)] .z) (.br (.sq .z .z) .z)) (.sq (.sq .z (.bl (.lp [(27, .c (.int .i64))] (.sq .z (.sq (.br .z .z) (.sq (.bl (.sq .z .z)) .z)))))) (.sq .z .z)))))
def F35 (p0 : Sl) (Q : (Option Addr) × Int → Pr) : Pr :=
 owe ((256 : Int) ≠ 0) <|
 callF Tryz.prog 44 [(iv (w64 ((p0.len : Int).tdiv 256)))] [.c .ptr, .c I64] fun (t11 : (Option Addr) × Int) =>
 jn (S:=Bool) (fun R =>
 br (t11.2 != 0) (
 R true) (
 owe ((256 : Int) ≠ 0) <|
 R ((((p0.len : Int).tmod 256) != 0)))) fun s =>
 br s (
 Q (none, 1)) (
 deref t11.1 fun a =>
 ldS (a.add 0) fun t25 =>
 loopE (S:=Int) (fun X s_1 =>
 br (decide (s_1 < (t25.len : Int))) (
 drw <|
 deref t11.1 fun a_3 =>
 ldS (a_3.add 0) fun t33 =>
 el t33 s_1 1 fun a_6 =>
 ldS a_6 fun t36 =>
 slc 1 p0 (some (w64 (s_1 * 256))) none none fun t40 =>
 cpy 1 t36 t40 <|
 X ((w64 (s_1 + 1)))) (
 Q (t11.1, 0))) 0)
theorem F35_calls (p0 : Sl) (Q : (Option Addr) × Int → Pr) (w : World) (h : F35 p0 Q w) : Calls Tryz.prog 35 #[(slV p0)] w (RetT [.c .ptr, .c I64] Q) := cF (an := an35) Tryz.func35 (by kernel_rfl) h
def an53 : An := (.sq .z (.sq .z .z))
def F53 (p0 : Option Addr) (Q : Bool → Pr) : Pr :=
 callF Tryz.prog 67 [(.pointer p0)] [.c I64] fun (t4 : Int) =>
 Q ((t4 == 0))
theorem F53_calls (p0 : Option Addr) (Q : Bool → Pr) (w : World) (h : F53 p0 Q w) : Calls Tryz.prog 53 #[(.pointer p0)] w (RetT [.c .bool] Q) := cF (an := an53) Tryz.func53 (by kernel_rfl) h
def an91 : An := (.sq .z (.sq (.sq .z (.br (.sq .z .z) .z)) (.sq .z .z)))
def F91 (p0 : Option Addr) (Q : Int → Pr) : Pr :=
 owe True <|
 br (Option.isNone p0) (
 Q 0) (
 deref p0 fun a =>
 ldI (a.add 3) fun t8 =>
 Q t8)
theorem F91_calls (p0 : Option Addr) (Q : Int → Pr) (w : World) (h : F91 p0 Q w) : Calls Tryz.prog 91 #[(.pointer p0)] w (RetT [.c I64] Q) := cF (an := an91) Tryz.func91 (by kernel_rfl) h
def an90 : An := (.sq .z (.sq .z (.sq (.jn [] (.sq .z (.br .z .z))) (.sq .z .z))))
def F90 (p0 : Option Addr) (Q : Value → Pr) : Pr :=
 owe (NotAgg (.slice none 0 0)) <| nw (.cells #[(.slice none 0 0)] 111) fun r =>
 jn (S:=Unit) (fun R =>
 owe True <|
 br (!(Option.isNone p0)) (
 deref p0 fun a =>
 ldS (a.add 1) fun t9 =>
 callF Tryz.prog 140 [(slV t9)] [.c .slice] fun (t10 : Sl) =>
 st (bA r 0) (slV t10) <|
 R ()) (
 R ())) fun s =>
 Q ((.func (.func 141) #[] #[(.pointer (some ⟨r, 0, none⟩))]))
theorem F90_calls (p0 : Option Addr) (Q : Value → Pr) (w : World) (h : F90 p0 Q w) : Calls Tryz.prog 90 #[(.pointer p0)] w (RetT [.c .any] Q) := cF (an := an90) Tryz.func90 (by kernel_rfl) h
def an141 : An := (.sq .z (.bl (.lp [(7, .c (.int .i64))] (.sq .z (.sq (.br .z .z) (.sq (.bl (.sq .z (.sq (.jn [(18, .c .bool)] .z) (.br .z .z)))) .z))))))
def F141 (p0 : Value) (p1 : Option Addr) (Q : Unit → Pr) : Pr :=
 deref p1 fun a =>
 ldS a fun t5 =>
 loopE (S:=Int) (fun X s =>
 br (decide (s < (t5.len : Int))) (
 el t5 s 2 fun a_1 =>
 ldA [I64, .slice] a_1 fun (t10 : Int × Sl) =>
 nvs 164 [(iv 0), (.slice none 0 0)] [(iv t10.1), (slV t10.2)] fun r =>
 jn (S:=Bool) (fun R =>
 drw <|
 ldS (bA r 1) fun t15 =>
 both (
 ldI (bA r 0) fun t13 =>
 callF Tryz.prog 82 [(slV t15)] [.c .slice] fun (t16 : Sl) =>
 callV Tryz.prog p0 [(iv t13), (slV t16)] [.c .bool] fun (t17 : Bool) =>
 R (!t17)) (
 callF Tryz.prog 82 [(slV t15)] [.c .slice] fun (t16_1 : Sl) =>
 ldI (bA r 0) fun t13_1 =>
 callV Tryz.prog p0 [(iv t13_1), (slV t16_1)] [.c .bool] fun (t17_1 : Bool) =>
 R (!t17_1))) fun s_1 =>
 br s_1 (
 Q ()) (
 X ((w64 (s + 1))))) (
 Q ())) 0
theorem F141_calls (p0 : Value) (p1 : Option Addr) (Q : Unit → Pr) (w : World) (h : F141 p0 p1 Q w) : Calls Tryz.prog 141 #[p0, (.pointer p1)] w (RetT [] Q) := cF (an := an141) Tryz.func141 (by kernel_rfl) h
def an112 : An := (.sq .z (.sq (.sq .z (.sq .z (.br (.sq .z .z) .z))) (.sq (.sq .z (.br (.sq .z .z) .z)) (.sq (.sq .z (.bl (.lp [(18, .c (.int .i64))] (.sq .z (.sq (.br .z .z) (.sq (.bl (.sq .z .z)) .z)))))) (.sq .z (.sq .z .z))))))
def F112 (p0 : Option Addr) (Q : Int → Pr) : Pr :=
 callF Tryz.prog 67 [(.pointer p0)] [.c I64] fun (t7 : Int) =>
 br (t7 != 0) (
 Q t7) (
 callF Tryz.prog 166 [(.pointer p0)] [.c .bool] fun (t12 : Bool) =>
 br t12 (
 Q 5) (
 deref p0 fun a =>
 ldS (a.add 1) fun t16 =>
 loopE (S:=Int) (fun X s =>
 br (decide (s < (t16.len : Int))) (
 el t16 s 2 fun a_3 =>
 ldA [I64, .slice] a_3 fun (t21 : Int × Sl) =>
 nvs 164 [(iv 0), (.slice none 0 0)] [(iv t21.1), (slV t21.2)] fun r =>
 ldA [I64, .slice] (bA r 0) fun (t23 : Int × Sl) =>
 callF Tryz.prog 120 [(.pointer p0), (.agg #[(iv t23.1), (slV t23.2)]), (uv 15)] [] fun (t24 : Unit) =>
 X ((w64 (s + 1)))) (
 deref p0 fun a_7 =>
 st (a_7.add 1) (.slice none 0 0) <|
 Q 0)) 0))
theorem F112_calls (p0 : Option Addr) (Q : Int → Pr) (w : World) (h : F112 p0 Q w) : Calls Tryz.prog 112 #[(.pointer p0)] w (RetT [.c I64] Q) := cF (an := an112) Tryz.func112 (by kernel_rfl) h
def an140 : An := (.sq .z (.sq (.sq .z (.br (.sq .z .z) .z)) (.sq .z .z)))
def F140 (p0 : Sl) (Q : Sl → Pr) : Pr :=
 owe True <|
 br (Option.isNone p0.a) (
 Q (⟨none, 0, 0⟩)) (
 nw (.cells #[] 164) fun r =>
 app 164 2 32 [(iv 0), (.slice none 0 0)] ⟨(some ⟨r, 0, none⟩), 0, 0⟩ p0 fun t7 =>
 Q t7)
theorem F140_calls (p0 : Sl) (Q : Sl → Pr) (w : World) (h : F140 p0 Q w) : Calls Tryz.prog 140 #[(slV p0)] w (RetT [.c .slice] Q) := cF (an := an140) Tryz.func140 (by kernel_rfl) h
def an36 : An := (.sq .z (.sq (.sq .z (.br (.sq .z .z) .z)) (.sq .z (.sq (.sq .z (.br (.sq .z .z) .z)) (.sq (.sq .z (.bl (.lp [(6, .c (.int .i64))] (.sq (.sq .z (.br .z .z)) (.sq (.bl .z) .z))))) (.sq .z .z))))))
def F36 (p0 : Sl) (Q : (Option Addr) × Int → Pr) : Pr :=
 owe ((256 : Int) ≠ 0) <|
 br (((p0.len : Int).tmod 256) != 0) (
 Q (none, 1)) (
 owe ((256 : Int) ≠ 0) <|
 callF Tryz.prog 45 [(iv (w64 ((p0.len : Int).tdiv 256)))] [.c .ptr, .c I64] fun (t15 : (Option Addr) × Int) =>
 br (t15.2 != 0) (
 Q (none, t15.2)) (
 loopE (S:=Int) (fun X s =>
 deref t15.1 fun a =>
 ldS (a.add 0) fun t25 =>
 br (decide (s < (t25.len : Int))) (
 drw <|
 deref t15.1 fun a_3 =>
 ldS (a_3.add 0) fun t33 =>
 el t33 s 1 fun a_6 =>
 ldS a_6 fun t36 =>
 slc 1 p0 (some (w64 (s * 256))) none none fun t40 =>
 cpy 1 t36 t40 <|
 X ((w64 (s + 1)))) (
 Q (t15.1, 0))) 0))
theorem F36_calls (p0 : Sl) (Q : (Option Addr) × Int → Pr) (w : World) (h : F36 p0 Q w) : Calls Tryz.prog 36 #[(slV p0)] w (RetT [.c .ptr, .c I64] Q) := cF (an := an36) Tryz.func36 (by kernel_rfl) h
def an137 : An := (.sq .z (.sq (.sq .z (.br (.sq .z .z) .z)) (.sq (.sq .z (.br (.sq .z (.sq .z .z)) .z)) (.sq (.sq .z (.bl (.lp [(3, .c (.int .i64))] (.sq (.sq .z (.br .z .z)) (.sq (.bl .z) .z))))) (.sq .z (.sq .z .z))))))
def F137 (p0 : Option Addr) (Q : Int → Pr) : Pr :=
 deref p0 fun a =>
 ldB (a.add 2) fun t7 =>
 br t7 (
 Q 5) (
 callF Tryz.prog 185 [(.pointer p0)] [.c .bool] fun (t9 : Bool) =>
 br t9 (
 deref p0 fun a_3 =>
 ldS (a_3.add 5) fun t14 =>
 callF Tryz.prog 150 [(.pointer p0), (slV t14)] [.c I64] fun (t15 : Int) =>
 Q 5) (
 loopE (S:=Int) (fun X s =>
 deref p0 fun a_6 =>
 ldS (a_6.add 1) fun t20 =>
 br (decide (s < (t20.len : Int))) (
 deref p0 fun a_9 =>
 ldS (a_9.add 1) fun t29 =>
 el t29 s 2 fun a_12 =>
 ldA [I64, .slice] a_12 fun (t32 : Int × Sl) =>
 callF Tryz.prog 186 [(.pointer p0), (.agg #[(iv t32.1), (slV t32.2)]), (uv 15)] [] fun (t33 : Unit) =>
 X ((w64 (s + 1)))) (
 deref p0 fun a_14 =>
 st (a_14.add 1) (.slice none 0 0) <|
 Q 0)) 0))
theorem F137_calls (p0 : Option Addr) (Q : Int → Pr) (w : World) (h : F137 p0 Q w) : Calls Tryz.prog 137 #[(.pointer p0)] w (RetT [.c I64] Q) := cF (an := an137) Tryz.func137 (by kernel_rfl) h
end Go.Proofs

set_option maxRecDepth 20000
namespace Go.Proofs
open Go.Eng
structure DB (N : Nat) (D : DM) : Prop where
 ok : D.ok
 bd : D.bd N
theorem DB.le {N M : Nat} {D : DM} (h : DB N D) (hm : N ≤ M) : DB M D := ⟨h.ok, h.bd.armed, by have := h.bd.ops; omega, by have := h.bd.wait; omega⟩
theorem pbit15 {k : Nat} (h : k < 4) : pbit 15 k = true := by
 obtain rfl | rfl | rfl | rfl : k = 0 ∨ k = 1 ∨ k = 2 ∨ k = 3 := by omega
 all_goals rfl
theorem reach15 {b l : List UInt8} (hb : b.length = 256) (hl : l.length = 256) : ∀ k, k ≤ 4 → reachB b l 15 k = l.take (64 * k) ++ b.drop (64 * k)
 | 0, _ => by simp [reachB]
 | k + 1, hk => by
   unfold reachB
   rw [if_pos (pbit15 (by omega)), reach15 hb hl k (by omega)]
   unfold lay
   have h1 : (l.take (64 * k)).length = 64 * k := by rw [List.length_take]; omega
   have h2 : ((l.drop (64 * k)).take 64).length = 64 := by rw [List.length_take, List.length_drop]; omega
   rw [h2, List.take_append_of_le_length (by omega), List.take_of_length_le (by omega)]
   have h3 : (l.take (64 * k) ++ b.drop (64 * k)).drop (64 * k + 64) = b.drop (64 * (k + 1)) := by
     rw [List.drop_append, h1, List.drop_eq_nil_of_le (by omega), List.nil_append, List.drop_drop]
     congr 1; omega
   rw [h3, show 64 * (k + 1) = 64 * k + 64 by omega, List.take_add]
theorem reach_all {b l : List UInt8} (hb : b.length = 256) (hl : l.length = 256) : reachB b l 15 4 = l := by
 rw [reach15 hb hl 4 (by omega), List.take_of_length_le (by omega), List.drop_eq_nil_of_le (by omega), List.append_nil]
def flushB (bs : List (List UInt8)) (ws : List (Int × List UInt8)) : List (List UInt8) := ws.foldl (fun b x => b.set x.1.toNat x.2) bs
def flushD (D : DM) : Int × DM := if D.off then (5, D) else if (goesD D).1 then (5, (goesD D).2) else (0, { (goesD D).2 with blocks := flushB D.blocks D.wait, wait := [] })
def crashD (D : DM) (pl : List UInt8) : Int × DM := if D.off then (5, D) else (0, fallsD D pl)
theorem goesD_no {D : DM} (h : (goesD D).1 = false) : (goesD D).2.blocks = D.blocks ∧ (goesD D).2.wait = D.wait ∧ (goesD D).2.off = D.off ∧ (goesD D).2.ops = D.ops + 1 ∧ (goesD D).2.picks = D.picks ∧ (D.armed = 0 ∧ (goesD D).2.armed = 0 ∨ D.armed > 1 ∧ (goesD D).2.armed = D.armed - 1) := by
 unfold goesD at h ⊢
 split
 · rename_i h0; exact ⟨rfl, rfl, rfl, rfl, rfl, .inl ⟨h0, h0⟩⟩
 · split
   · rename_i h1; exact ⟨rfl, rfl, rfl, rfl, rfl, .inr ⟨h1, rfl⟩⟩
   · rename_i h0 h1; rw [if_neg h0, if_neg h1] at h; cases h
theorem goesD_ok' {D : DM} (hok : D.ok) (h : (goesD D).1 = false) : (goesD D).2.ok := by
 obtain ⟨h1, h2, _⟩ := goesD_no h
 exact ⟨by rw [h1]; exact hok.len, by rw [h1, h2]; exact hok.wlen, by rw [h1]; exact hok.pos, by rw [h1]; exact hok.le⟩
theorem V112 (p : Nat) (D : DM) (N : Nat) (w : World) (F : Nat → Prop) (h : Has [DiskA p D] w F) (hd : DB N D) (hN : N ≤ 10000000) :
   Calls Tryz.prog 112 #[P0 p] w (RetT [.c (.int .i64)] fun r w' => r = (flushD D).1 ∧ St F w w' [DiskA p (flushD D).2]) := by
 refine F112_calls _ _ _ ?_
 unfold F112
 have hwl := hd.bd.wait
 have hop := hd.bd.ops
 refine callF_of (C83 p D w F h hd.ok) ?_
 rintro _ _ ⟨rfl, rfl⟩
 unfold canE flushD
 refine br_of (fun h1 => ?_) fun h1 => ?_
 · have : D.off = true := by cases hh : D.off <;> simp [hh] at h1 ⊢
   rw [this]
   exact ⟨rfl, St.init h⟩
 have hoff : D.off = false := by cases hh : D.off <;> simp [hh] at h1 ⊢
 rw [hoff, if_neg (by simp)]
 refine callF_of (C76 p D w F h hd.ok (by omega) hd.bd.armed.1 hd.bd.armed.2 (by omega)) ?_
 rintro _ w1 ⟨rfl, s1⟩
 refine br_of (fun hg => ?_) fun hg => ?_
 · rw [if_pos hg]; exact ⟨rfl, s1⟩
 rw [if_neg (by simp [hg])]
 have hok := goesD_ok' hd.ok hg
 obtain ⟨g1, g2, g3, _⟩ := goesD_no hg
 rw [← g1, ← g2]
 rw [← g2] at hwl
 generalize (goesD D).2 = E at s1 hok hwl ⊢
 clear g1 g2 g3 hg hd
 obtain ⟨di, s1⟩ := s1.ex
 obtain ⟨⟨hb, hw⟩, s1⟩ := s1.p
 have s1 : St F w w1 (dpc p E di) := s1
 simp only [deref_some']
 have hwn : di.wl.length ≤ 10000000 := by rw [hw, List.length_map] at hwl; omega
 have hwsl : di.ws.len = di.wl.length := (OwnS.ss (f := wcells) wcells_len (by decide) (s1.bring 2).sl).len
 refine s1.L 0 rfl (p := di.ws) rfl ?_
 refine loop_of (fun z W => ∃ (j : Nat) (dj : DI), z = j ∧ j ≤ di.wl.length ∧ SameDI di dj ∧ (dj.bl.map (·.2)).length = E.blocks.length ∧ (∀ b ∈ dj.bl.map (·.2), b.length = 256) ∧ dj.bl.map (·.2) = flushB E.blocks (E.wait.take j) ∧ St F w W (dpc p E dj)) (fun z _ => di.wl.length - z.toNat)
   ⟨0, di, rfl, by omega, ⟨rfl, rfl, rfl, rfl⟩, by rw [hb], by rw [← hb]; exact hok.len, by rw [hb]; rfl, s1⟩ ?_
 rintro _ W ⟨j, dj, rfl, hj, hsame, hbl, hb256, hgo, sW⟩
 refine br_of (fun hlt => ?_) (fun hge => ?_)
 · simp only [decide_eq_true_eq] at hlt
   have hjl : j < di.wl.length := by omega
   obtain ⟨x, hxx⟩ : ∃ x, di.wl[j]? = some x := ⟨di.wl[j], by simp [hjl]⟩
   have hDj : E.wait[j]? = some (x.1, x.2.2) := by rw [hw, List.getElem?_map, hxx]; rfl
   have hxw := hok.wlen _ (List.mem_of_getElem? hDj)
   dsimp only at hxw
   have hss : WS W di.ws di.wl := by have := OwnS.ss (f := wcells) wcells_len (by decide) (sW.bring 2).sl; rw [hsame.ws, hsame.wl] at this; exact this
   refine hss.eld wcells_len (n := 2) (cs := [.int .i64, .slice]) (p := (x.1, x.2.1)) hxx (by decide) rfl ?_
   refine sW.nvs (vs := [iv x.1, slV x.2.1]) rfl (by simp) fun r w2 s2 => ?_
   refine s2.LA 0 rfl (p := (x.1, x.2.1)) rfl ?_
   have s3 : St F w w2 (dpc p E dj) := s2.drop
   obtain ⟨G, H, k1, _, _, _, gc⟩ := St.call (dpc p E dj) (l := []) s3
   obtain ⟨i, hi⟩ := Int.eq_ofNat_of_zero_le hxw.1
   have hil : i < dj.bl.length := by rw [List.length_map] at hbl; omega
   obtain ⟨y, hy⟩ : ∃ y, dj.bl[i]? = some y := ⟨dj.bl[i], by simp [hil]⟩
   have hy256 : y.2.length = 256 := hb256 _ (List.mem_map.2 ⟨y, List.mem_of_getElem? hy, rfl⟩)
   have hxj : dj.wl[j]? = some ((i : Int), x.2.1, x.2.2) := by rw [hsame.wl, hxx, ← hi]
   dsimp only
   rw [hi]
   refine callF_of (C103 p E dj i j x.2.1 x.2.2 y 15 _ G k1 hy hxj hy256 hxw.2.2) ?_
   rintro ⟨⟩ w6 s6
   have s7 := gc _ _ s6
   rw [reach_all hy256 hxw.2.2, List.append_nil] at s7
   have hset : (setBl dj i x.2.2).bl.map (·.2) = (dj.bl.map (·.2)).set i x.2.2 := modify_map2
   rw [w64_succ (by omega)]
   refine ⟨⟨j + 1, setBl dj i x.2.2, rfl, hjl, ⟨hsame.bs, hsame.ws, hsame.ps, hsame.wl⟩, ?_, ?_, ?_, s7⟩, by omega⟩
   · rw [hset, List.length_set]; exact hbl
   · intro b hbm
     rw [hset] at hbm
     rcases List.mem_or_eq_of_mem_set hbm with h | rfl
     · exact hb256 b h
     · exact hxw.2.2
   · have ht : E.wait.take (j + 1) = E.wait.take j ++ [(x.1, x.2.2)] := by rw [List.take_add_one, hDj]; rfl
     rw [hset, hgo, ht]
     unfold flushB
     rw [List.foldl_append]
     show _ = (List.foldl _ E.blocks (List.take j E.wait)).set x.1.toNat x.2.2
     rw [hi]; rfl
 · simp only [decide_eq_false_iff_not] at hge
   have : j = di.wl.length := by omega
   have hall : E.wait.take j = E.wait := List.take_of_length_le (by rw [hw, List.length_map]; omega)
   rw [hall] at hgo
   refine sW.S 0 rfl (by simp) trivial fun w2 s2 => ⟨trivial, ?_⟩
   refine mkDisk (D := { E with blocks := flushB E.blocks E.wait, wait := [] }) ⟨dj.bs, ⟨none, 0, 0⟩, dj.ps, dj.bl, []⟩ hgo.symm rfl ?_
   exact ((s2.nosl 2).nobig).sel [2, 3, 1, 5, 6, 0] 8
theorem V22 (p : Nat) (D : DM) (q : Sl) (pl : List UInt8) (N : Nat) (w : World) (F : Nat → Prop) (h : Has [DiskA p D] w F) (hq : Rd w F q pl) (hd : DB N D) (hN : N ≤ 10000000) :
   Calls Tryz.prog 22 #[P0 p, slV q] w (RetT [.c (.int .i64)] fun r w' => r = (crashD D pl).1 ∧ St F w w' [DiskA p (crashD D pl).2]) := by
 refine F22_calls _ _ _ _ ?_
 unfold F22
 have hwl := hd.bd.wait
 refine callF_of (C83 p D w F h hd.ok) ?_
 rintro _ _ ⟨rfl, rfl⟩
 unfold canE crashD
 refine br_of (fun h1 => ?_) fun h1 => ?_
 · have : D.off = true := by cases hh : D.off <;> simp [hh] at h1 ⊢
   rw [this]
   exact ⟨rfl, St.init h⟩
 have hoff : D.off = false := by cases hh : D.off <;> simp [hh] at h1 ⊢
 rw [hoff, if_neg (by simp)]
 obtain ⟨di, s1⟩ := (St.init h).ex
 obtain ⟨⟨hb, hw⟩, s1⟩ := s1.p
 obtain ⟨G, H, k1, _, _, k4, gc⟩ := St.call (dpc p D di) (l := []) s1
 refine callF_of (C95 p D di q pl w G k1 hb hw hd.ok (by omega) fun W dj L _ hs => (hq.go (St.init h) (fun b hb => k4 b hb)).at hs) ?_
 rintro ⟨⟩ w2 s2
 exact ⟨rfl, gc _ _ s2⟩
theorem V53 (p : Nat) (D : DM) (w : World) (F : Nat → Prop) (h : Has [DiskA p D] w F) (hok : D.ok) : Calls Tryz.prog 53 #[P0 p] w (RetT [.c .bool] fun r w' => r = !D.off ∧ w = w') := by
 refine F53_calls _ _ _ ?_
 unfold F53
 refine callF_of (C83 p D w F h hok) ?_
 rintro _ _ ⟨rfl, rfl⟩
 refine ⟨?_, rfl⟩
 unfold canE
 cases D.off <;> rfl
end Go.Proofs

set_option maxRecDepth 20000
namespace Go.Proofs
open Go.Eng
abbrev ringC (dp : Nat) (st n h : Int) (s : Sl) : List Value := [P0 dp, iv st, iv n, iv h, slV s]
abbrev RP (r : Nat) : Value := .pointer (some ⟨r, 0, none⟩)
theorem V111 {r dp : Nat} {st n h : Int} {s : Sl} {w : World} (hb : Box w r (ringC dp st n h s)) (hn : 0 ≤ n ∧ n ≤ 256) :
   Calls Tryz.prog 111 #[RP r] w (RetT [.c (.int .i64)] fun x w' => x = 4 * n ∧ w = w') := by
 refine F111_calls _ _ _ ?_
 unfold F111
 simp only [deref_some']
 refine hb.ld (i := 2) (s := .int .i64) (p := n) rfl ?_
 exact ⟨w64_of ⟨by omega, by omega⟩, rfl⟩
def placeB (st n q : Int) : Int := st + q % (4 * n) / 4
def placeO (n q : Int) : Int := q % (4 * n) % 4 * 64
theorem V125 {r dp : Nat} {st n h q : Int} {s : Sl} {w : World} (hb : Box w r (ringC dp st n h s)) (hn : 1 ≤ n ∧ n ≤ 256) (hst : 0 ≤ st ∧ st ≤ 2048) (hq : 0 ≤ q) :
   Calls Tryz.prog 125 #[RP r, iv q] w (RetT [.c (.int .i64), .c (.int .i64)] fun x w' => x = (placeB st n q, placeO n q) ∧ w = w') := by
 refine F125_calls _ _ _ _ ?_
 unfold F125
 refine callF_of (V111 hb ⟨by omega, hn.2⟩) ?_
 rintro _ _ ⟨rfl, rfl⟩
 refine ⟨by omega, ?_⟩
 simp only [deref_some']
 refine hb.ld (i := 1) (s := .int .i64) (p := st) rfl ?_
 refine ⟨by omega, by omega, ?_, rfl⟩
 have h1 : q.tmod (4 * n) = q % (4 * n) := Int.tmod_eq_emod_of_nonneg hq
 have h2 := Int.emod_nonneg q (b := 4 * n) (by omega)
 have h3 := Int.emod_lt_of_pos q (b := 4 * n) (by omega)
 rw [h1, Int.tdiv_eq_ediv_of_nonneg h2, Int.tmod_eq_emod_of_nonneg h2]
 unfold placeB placeO
 rw [w64_of (n := q % (4 * n) / 4) ⟨by omega, by omega⟩, w64_of (n := st + _) ⟨by omega, by omega⟩, w64_of (n := q % (4 * n) % 4 * 64) ⟨by omega, by omega⟩]
theorem placeB_le {st n q : Int} (hn : 1 ≤ n) : st ≤ placeB st n q ∧ placeB st n q < st + n := by
 have h2 := Int.emod_nonneg q (b := 4 * n) (by omega)
 have h3 := Int.emod_lt_of_pos q (b := 4 * n) (by omega)
 unfold placeB
 omega
theorem placeO_le (n q : Int) : 0 ≤ placeO n q ∧ placeO n q ≤ 192 ∧ placeO n q % 64 = 0 := by
 unfold placeO
 omega
theorem V107 {r dp : Nat} {st n h : Int} {s : Sl} {w : World} (hb : Box w r (ringC dp st n h s)) :
   Calls Tryz.prog 107 #[RP r] w (RetT [.c .bool] fun x w' => x = false ∧ w = w') := by
 refine F107_calls _ _ _ ?_
 unfold F107
 refine ⟨trivial, br_f rfl ?_⟩
 simp only [deref_some']
 refine hb.ld (i := 0) (s := .ptr) (p := some ⟨dp, 0, none⟩) rfl ?_
 exact ⟨trivial, rfl, rfl⟩
theorem V58 {r dp : Nat} {st n h : Int} {s : Sl} {w : World} (hb : Box w r (ringC dp st n h s)) :
   Calls Tryz.prog 58 #[RP r] w (RetT [.c (.int .i64)] fun x w' => x = h ∧ w = w') := by
 refine F58_calls _ _ _ ?_
 unfold F58
 refine callF_of (V107 hb) ?_
 rintro _ _ ⟨rfl, rfl⟩
 refine br_f rfl ?_
 simp only [deref_some']
 exact hb.ld (i := 3) (s := .int .i64) (p := h) rfl ⟨rfl, rfl⟩
theorem V57 {r dp : Nat} {st n h : Int} {s : Sl} {w : World} (hb : Box w r (ringC dp st n h s)) (hh : 0 ≤ h ∧ h ≤ 2305843009213693952) (hs : s.len ≤ 1000000) :
   Calls Tryz.prog 57 #[RP r] w (RetT [.c (.int .i64)] fun x w' => x = h + s.len ∧ Grow w w') := by
 refine F57_calls _ _ _ ?_
 unfold F57
 refine callF_of (V107 hb) ?_
 rintro _ _ ⟨rfl, rfl⟩
 refine br_f rfl ?_
 rw [drw_def]
 have hg : Grow w w.drew := (Mod.refl _ w).drew
 simp only [deref_some']
 refine (hb.grow hg).ld (i := 3) (s := .int .i64) (p := h) rfl ?_
 refine (hb.grow hg).ld (i := 4) (s := .slice) (p := s) rfl ?_
 exact ⟨w64_of ⟨by omega, by omega⟩, hg⟩
theorem V62 {r dp : Nat} {st n h : Int} {s : Sl} {w : World} (hb : Box w r (ringC dp st n h s)) (hn : 0 ≤ n ∧ n ≤ 256) (hs : s.len ≤ 1000000) :
   Calls Tryz.prog 62 #[RP r] w (RetT [.c (.int .i64)] fun x w' => x = 4 * n - s.len ∧ Grow w w') := by
 refine F62_calls _ _ _ ?_
 unfold F62
 refine callF_of (V107 hb) ?_
 rintro _ _ ⟨rfl, rfl⟩
 refine br_f rfl ?_
 rw [drw_def]
 have hg : Grow w w.drew := (Mod.refl _ w).drew
 have hb := hb.grow hg
 simp only [deref_some']
 have e : w64 (4 * n - (s.len : Int)) = 4 * n - s.len := w64_of ⟨by omega, by omega⟩
 refine ⟨?_, ?_⟩
 · refine callF_of (V111 hb hn) ?_
   rintro _ _ ⟨rfl, rfl⟩
   exact hb.ld (i := 4) (s := .slice) (p := s) rfl ⟨e, hg⟩
 · refine hb.ld (i := 4) (s := .slice) (p := s) rfl ?_
   refine callF_of (V111 hb hn) ?_
   rintro _ _ ⟨rfl, rfl⟩
   exact ⟨e, hg⟩
def lapV (h n : Int) : Int := if n < 1 ∨ n > 256 ∨ h < 0 ∨ h > 1152921504606846976 then 0 else h + 4 * n
theorem V130 (h n : Int) (w : World) : Calls Tryz.prog 130 #[iv h, iv n] w (RetT [.c (.int .i64)] fun x w' => x = lapV h n ∧ w = w') := by
 refine F130_calls _ _ _ _ ?_
 unfold F130
 refine jn_of (fun b W => b = decide (n < 1 ∨ n > 256 ∨ h < 0 ∨ h > 1152921504606846976) ∧ W = w) ?_ ?_
 · refine br_of (fun a => ⟨by simp at a; simp [a], rfl⟩) fun a => br_of (fun b => ⟨by simp at b; simp [b], rfl⟩) fun b => br_of (fun c => ⟨by simp at c; simp [c], rfl⟩) fun c => ⟨?_, rfl⟩
   simp only [decide_eq_false_iff_not] at a b c
   exact decide_eq_decide.2 (by omega)
 rintro _ _ ⟨rfl, rfl⟩
 unfold lapV
 refine br_of (fun a => ?_) fun a => ?_
 · rw [if_pos (by simpa using a)]; exact ⟨rfl, rfl⟩
 · have a' := of_decide_eq_false a
   rw [if_neg a']
   refine ⟨?_, rfl⟩
   rw [w64_of (n := 4 * n) ⟨by omega, by omega⟩, w64_of ⟨by omega, by omega⟩]
end Go.Proofs

set_option maxRecDepth 20000
namespace Go.Proofs
open Go.Eng
def layR (n : Int) : Int → List UInt8 → List Rv → Int × List UInt8
 | _, l, [] => (0, l)
 | q, l, x :: xs => if recEx q x ≠ 0 then (recEx q x, l) else layR n (q + 1) (lay l (placeO n q).toNat (secX q x)) xs
def layD (D : DM) (n blk q : Int) (xs : List Rv) : Int × DM :=
 if placeE D blk ≠ 0 then (placeE D blk, D) else if (layR n q (rdD D blk) xs).1 ≠ 0 then ((layR n q (rdD D blk) xs).1, D) else writeD D blk (layR n q (rdD D blk) xs).2
theorem secX_len {q : Int} {x : Rv} (h : recEx q x = 0) : (secX q x).length = 64 := by
 have hc : checkB x.1 x.2.1 x.2.2.1 x.2.2.2.1 x.2.2.2.2.length = true := by
   by_cases h2 : checkB x.1 x.2.1 x.2.2.1 x.2.2.2.1 x.2.2.2.2.length = true
   · exact h2
   · unfold recEx recE at h
     split at h
     · cases h
     · cases h
 have := secB_len (n := q) (k := x.1) (b := x.2.1) (o := x.2.2.1) (m := x.2.2.2.1) (checkB_num hc).2.1
 unfold secX secR
 rw [List.length_append, this, numB_len]
theorem V168 {r dp : Nat} {D : DM} {st n h : Int} {s : Sl} {blk q : Int} {p : Sl} {xs : List Rc} {N : Nat} {w : World} {F : Nat → Prop} (hh : Has [BoxA r (ringC dp st n h s), DiskA dp D] w F)
   (hd : DB N D) (hN : N ≤ 10000000) (hn : 1 ≤ n ∧ n ≤ 256) (hst : 0 ≤ st ∧ st ≤ 2048) (hq : 0 ≤ q ∧ q ≤ 2305843009213693952) (hr : RL w p xs) (hp : p.len ≤ 1000000) :
   Calls Tryz.prog 168 #[RP r, iv blk, iv q, slV p] w (RetT [.c (.int .i64)] fun x w' => x = (layD D n blk q (xs.map rv)).1 ∧ St F w w' [BoxA r (ringC dp st n h s), DiskA dp (layD D n blk q (xs.map rv)).2]) := by
 refine F168_calls _ _ _ _ _ _ ?_
 unfold F168
 have hpl := hr.len
 have s0 := St.init hh
 have hW : ∀ {W}, Grow w W → Has [BoxA r (ringC dp st n h s), DiskA dp D] W F := fun g => hh.mod g fun _ _ h => h
 have hB : ∀ {W}, Grow w W → Box W r (ringC dp st n h s) := fun g => (St.init (hW g)).box
 simp only [deref_some']
 refine (hB (Mod.refl _ w)).ld (i := 0) (s := .ptr) (p := some ⟨dp, 0, none⟩) rfl ?_
 have hbd := hd.bd.wait
 obtain ⟨F1, hd1⟩ : ∃ F1, Has [DiskA dp D] w F1 := by
   obtain ⟨G, H, g2, _⟩ := St.call [DiskA dp D] (s0.sel [1, 0] 2)
   exact ⟨G, g2⟩
 refine callF_of (C35 dp D blk w F1 hd1 hd.ok (by omega)) ?_
 rintro ⟨t, e⟩ w1 ⟨he, t1⟩
 dsimp only at he t1
 subst he
 unfold layD
 refine br_of (fun hne => ?_) fun heq => ?_
 · have hne : placeE D blk ≠ 0 := by simpa using hne
   rw [if_pos hne]
   exact ⟨rfl, s0.grow t1.gro⟩
 have heq : placeE D blk = 0 := by simpa using heq
 rw [if_neg (by simpa using heq)]
 rw [if_pos heq] at t1
 have hrd : 0 ≤ blk ∧ blk < D.blocks.length := by
   unfold placeE at heq
   split at heq
   · cases heq
   · split at heq
     · cases heq
     · omega
 have hl0 := rdD_len hd.ok hrd.1 hrd.2
 generalize rdD D blk = l0 at t1 hl0
 refine loop_of (fun i W => ∃ (j : Nat) (l : List UInt8), i = j ∧ j ≤ xs.length ∧ l.length = 256 ∧ layR n q l0 (xs.map rv) = layR n (q + j) l ((xs.drop j).map rv) ∧ St noF w W [SlA 1 t (l.map ub)]) (fun i _ => xs.length - i.toNat) ⟨0, l0, rfl, by omega, hl0, by simp, t1⟩ ?_
 rintro _ W ⟨j, l, rfl, hj, hl, hR, t2⟩
 refine br_of (fun hlt => ?_) fun hge => ?_
 · have hlt : j < xs.length := by simpa [hpl] using hlt
   have hx : xs[j]? = some xs[j] := by simp [hlt]
   rw [List.drop_eq_getElem_cons hlt, List.map_cons] at hR
   have hbs := hr.2 _ (List.getElem_mem hlt)
   refine SS.eld Rw.cells_len (hr.1.grow t2.gro) (r := xs[j].1) (by rw [List.getElem?_map, hx]; rfl) (by decide) (p := xs[j].1.p) rfl ?_
   generalize xs[j] = x at hbs hR
   refine St.nvs t2 rfl (fun v hv => by simp at hv; rcases hv with rfl | rfl | rfl | rfl | rfl <;> trivial) fun b W2 t3 => ?_
   refine t3.LA 0 rfl (p := x.1.p) rfl ?_
   rw [show w64 (q + (j : Int)) = q + j from w64_of ⟨by omega, by omega⟩]
   refine callF_of (V204 (q + j) x.1.k x.1.b x.1.o x.1.m x.1.s x.2 W2 (hbs.grow t3.gro)) ?_
   rintro ⟨u, e⟩ W3 ⟨he, hP⟩
   dsimp only at he hP
   change e = recEx (q + j) (rv x) at he
   change (recEx (q + j) (rv x) ≠ 0 ∧ _ ∧ _) ∨ recEx (q + j) (rv x) = 0 ∧ St noF W2 W3 [SlA 1 u ((secX (q + j) (rv x)).map ub)] at hP
   rw [layR] at hR
   rcases hP with ⟨h1, rfl, g4⟩ | ⟨h1, k4⟩
   · rw [if_pos h1] at hR
     refine br_t (by simpa [he] using h1) ?_
     rw [hR, if_pos h1]
     exact ⟨he, s0.grow (t3.grow g4).gro⟩
   · rw [if_neg (by simpa using h1)] at hR
     refine br_f (by simp [he, h1]) ?_
     have hsl := secX_len h1
     have t4 := t3.call0 k4
     refine callF_of (V125 (hB t4.gro) hn hst (by omega)) ?_
     rintro _ _ ⟨rfl, rfl⟩
     have hpo := placeO_le n (q + j)
     obtain ⟨o, ho⟩ : ∃ o : Nat, placeO n (q + j) = o := ⟨(placeO n (q + j)).toNat, by omega⟩
     rw [ho] at hR hpo ⊢
     rw [Int.toNat_natCast] at hR
     have htl := slA_len1 t2.sl
     rw [List.length_map] at htl
     refine slc_sub (t := t) (by omega) ?_
     refine cpy_sub (t4.sel [2, 0, 1] 3) t4.sl.bs (by rw [hsl]; omega) fun W5 t5 => ?_
     rw [w64_succ (by omega)]
     refine ⟨⟨j + 1, _, rfl, hlt, ?_, ?_, t5.sel [0] 3⟩, ?_⟩
     · rw [lay_len (by rw [hsl]; omega), hl]
     · rw [hR]; congr 1; push_cast; omega
     · show xs.length - (((j + 1 : Nat) : Int)).toNat < xs.length - ((j : Int)).toNat
       omega
 · have hge : j = xs.length := by simp [hpl] at hge; omega
   subst hge
   rw [List.drop_length] at hR
   rw [hR]
   refine (hB t2.gro).ld (i := 0) (s := .ptr) (p := some ⟨dp, 0, none⟩) rfl ?_
   have s3 := (s0.call0 t2).sel [2, 0, 1] 3
   obtain ⟨G, H, g2, g3, g4, _, gc⟩ := St.call [DiskA dp D] s3
   refine callF_of (C40' dp D blk t l W G g2 (Rd.own g3 g4) hd.ok (by omega) hd.bd.armed.1 hd.bd.armed.2 ⟨hd.bd.ops.1, by have := hd.bd.ops.2; omega⟩) ?_
   rintro e w2 ⟨he, s6⟩
   exact ⟨he, (gc _ _ s6).sel [2, 0] 3⟩
end Go.Proofs

set_option maxRecDepth 20000
namespace Go.Proofs
open Go.Eng
theorem RL.sub {w : World} {s : Sl} {xs : List Rc} (h : RL w s xs) {o n : Nat} (ho : o + n ≤ xs.length) {a : Option Addr} {c : Nat} (ha : a = s.a.map (·.add (o * 5)) ∨ n = 0) (hz : n = 0 → a = none ∨ a.isSome) : RL w ⟨a, n, c⟩ ((xs.drop o).take n) := by
 refine ⟨⟨by simp; omega, ?_⟩, fun x hx => h.2 x (List.mem_of_mem_drop (List.mem_of_mem_take hx))⟩
 rcases Nat.eq_zero_or_pos n with h0 | h0
 · subst h0
   simp only [List.take_zero, List.map_nil, List.flatMap_nil]
   cases a with
   | none => rfl
   | some _ => trivial
 · have ha := ha.resolve_right (by omega)
   have hrow := h.1.row
   rw [← rcs_map] at hrow ⊢
   have e : rcs ((xs.drop o).take n) = ((rcs xs).drop (o * 5)).take (n * 5) := by
     have h1 : rcs xs = rcs (xs.take o) ++ (rcs ((xs.drop o).take n) ++ rcs ((xs.drop o).drop n)) := by
       rw [← rcs_append, List.take_append_drop, ← rcs_append, List.take_append_drop]
     rw [h1, List.drop_left' (by rw [rcs_len, List.length_take]; congr 1; omega), List.take_left' (by rw [rcs_len, List.length_take, List.length_drop]; congr 1; omega)]
   rw [e]
   cases hs : s.a with
   | none =>
     rw [hs] at hrow
     have h0 : rcs xs = [] := hrow
     have := rcs_len xs
     rw [h0] at this
     simp at this
     omega
   | some ad =>
     rw [hs] at hrow ha
     subst ha
     exact readsAt_row.2 (((readsAt_row.1 hrow).drop _).take _)
abbrev sub5 (s : Sl) (o : Nat) : Sl := ⟨if s.cap = o then s.a else s.a.map (·.add (o * 5)), s.len - o, s.cap - o⟩
theorem RL.from {w : World} {s : Sl} {xs : List Rc} (h : RL w s xs) (hle : s.len ≤ s.cap) {o : Nat} (ho : o ≤ xs.length) : RL w (sub5 s o) (xs.drop o) := by
 have hl := h.len
 have := h.sub (o := o) (n := s.len - o) (c := s.cap - o) (by omega) (a := if s.cap = o then s.a else s.a.map (·.add (o * 5)))
   (by by_cases hc : s.cap = o
       · exact .inr (by omega)
       · exact .inl (by rw [if_neg hc])) (fun _ => opt_ns _)
 rw [List.take_of_length_le (by rw [List.length_drop]; omega)] at this
 exact this
theorem sub5_blk {s : Sl} {o b : Nat} (h : (sub5 s o).blk b) : s.blk b := by
 obtain ⟨ad, ha, rfl⟩ := h
 unfold sub5 at ha
 by_cases hc : s.cap = o
 · rw [if_pos hc] at ha; exact ⟨ad, ha, rfl⟩
 · rw [if_neg hc] at ha
   obtain ⟨a0, h1, h2⟩ := Option.map_eq_some_iff.1 ha
   exact ⟨a0, h1, by rw [← h2]; simp⟩
theorem slc_sub5 {w : World} {s : Sl} {o : Nat} {k : Sl → Pr} (ho : o ≤ s.len) (hk : k (sub5 s o) w) : slc 5 s (some (o : Int)) none none k w := slc_lo (by omega) (by omega) hk
theorem V116 {r dp : Nat} {D : DM} {st n h : Int} {s : Sl} {N : Nat} {w : World} {F : Nat → Prop} (hh : Has [BoxA r (ringC dp st n h s), DiskA dp D] w F) (hd : DB N D) (hN : N ≤ 10000000) :
   Calls Tryz.prog 116 #[RP r] w (RetT [.c (.int .i64)] fun x w' => x = (flushD D).1 ∧ St F w w' [BoxA r (ringC dp st n h s), DiskA dp (flushD D).2]) := by
 refine F116_calls _ _ _ ?_
 unfold F116
 have s0 := St.init hh
 refine callF_of (V107 s0.box) ?_
 rintro _ _ ⟨rfl, rfl⟩
 refine br_f rfl ?_
 simp only [deref_some']
 refine s0.box.ld (i := 0) (s := .ptr) (p := some ⟨dp, 0, none⟩) rfl ?_
 obtain ⟨G, H, g2, _, _, _, gc⟩ := St.call [DiskA dp D] (s0.sel [1, 0] 2)
 refine callF_of (V112 dp D N w G g2 hd hN) ?_
 rintro e w2 ⟨he, s6⟩
 exact ⟨he, (gc _ _ s6).sel [1, 0] 2⟩
theorem bts_drop {F0 : Nat → Prop} {w0 w : World} {L : List HA} {xs : List Rc} (k : Nat) (h : St F0 w0 w (bts xs :: L)) : St F0 w0 w (bts (xs.drop k) :: L) := by
 have e : bts xs = bigA ((xs.take k).map (fun x => bytA (x.1.s, x.2)) ++ (xs.drop k).map (fun x => bytA (x.1.s, x.2))) := by rw [← List.map_append, List.take_append_drop]
 rw [e] at h
 have h := h.big
 rw [List.append_assoc] at h
 exact h.dropL.mkbig
abbrev ringO (r dp : Nat) (st n h : Int) (s : Sl) (xs : List Rc) : List HA := [BoxA r (ringC dp st n h s), SlA 5 s (rcs xs), bts xs]
theorem V114 {r dp : Nat} {st n h q : Int} {s : Sl} {xs : List Rc} {w : World} {F : Nat → Prop} (hh : Has (ringO r dp st n h s xs) w F) (hs : xs.length ≤ 1000000) (hr : 0 ≤ h ∧ h ≤ 2305843009213693952) :
   Calls Tryz.prog 114 #[RP r, iv q] w (RetT [.c (.int .i64)] fun x w' => ∃ t, (h ≤ q ∧ q ≤ h + xs.length ∧ x = 0 ∧ St F w w' (ringO r dp st n q t (xs.drop (q - h).toNat))) ∨ ¬ (h ≤ q ∧ q ≤ h + xs.length) ∧ x = 1 ∧ St F w w' (ringO r dp st n h s xs)) := by
 refine F114_calls _ _ _ _ ?_
 unfold F114
 have s0 : St F w w (ringO r dp st n h s xs) := St.init hh
 refine callF_of (V107 s0.box) ?_
 rintro _ _ ⟨rfl, rfl⟩
 refine br_f rfl ?_
 have rl := (s0.sel [1, 2] 3).rl
 have hl := rl.len
 refine jn_of (fun b W => b = decide (¬ (h ≤ q ∧ q ≤ h + xs.length)) ∧ Grow w W) ?_ ?_
 · simp only [deref_some']
   refine s0.box.ld (i := 3) (s := .int .i64) (p := h) rfl ?_
   refine br_of (fun a => ⟨by simp at a; exact dec_true (by omega), Mod.refl _ w⟩) fun a => ?_
   simp only [decide_eq_false_iff_not] at a
   refine callF_of (V57 s0.box hr (by omega)) ?_
   rintro _ W ⟨rfl, g⟩
   exact ⟨decide_eq_decide.2 (by omega), g⟩
 rintro _ W ⟨rfl, g⟩
 have s1 := s0.grow g
 refine br_of (fun a => ?_) fun a => ?_
 · exact ⟨s, .inr ⟨of_decide_eq_true a, rfl, s1⟩⟩
 have a : h ≤ q ∧ q ≤ h + xs.length := by simpa using a
 have s2 := s1.drew
 rw [drw_def]
 simp only [deref_some']
 refine s2.box.ld (i := 4) (s := .slice) (p := s) rfl ?_
 refine s2.box.ld (i := 3) (s := .int .i64) (p := h) rfl ?_
 obtain ⟨k, hk⟩ : ∃ k : Nat, q - h = k := ⟨(q - h).toNat, by omega⟩
 rw [w64_of (n := q - h) ⟨by omega, by omega⟩, hk, Int.toNat_natCast]
 have hle := (s2.sel [1, 0, 2] 3).sl.le
 refine slc_sub5 (by omega) ?_
 have rl2 := (s2.sel [1, 2] 3).rl.from hle (o := k) (by omega)
 refine callF_of (C56 (sub5 s k) (xs.drop k) _ rl2 (by show s.len - k ≤ 1000000; omega)) ?_
 rintro t W2 ⟨ht, g2⟩
 have s3 := s2.mksl g2 ht
 have s4 := bts_drop k (s3.sel [3, 0, 1] 4)
 have s4 : St F w W2 [bts (xs.drop k), SlA 5 t (rcs (xs.drop k)), BoxA r (ringC dp st n h s)] := s4
 refine s4.S 2 rfl (by simp) (by simp) fun w5 s5 => ?_
 refine s5.S 2 rfl (by simp [setA]) trivial fun w6 s6 => ?_
 have s7 := s6.sel [2, 1, 0] 3
 have e : h + k = q := by omega
 exact ⟨t, .inl ⟨a.1, a.2, trivial, s7⟩⟩
end Go.Proofs

set_option maxRecDepth 20000
namespace Go.Proofs
open Go.Eng
structure RdL (w : World) (F : Nat → Prop) (s : Sl) (xs : List Rc) : Prop where
 rl : RL w s xs
 no : ∀ b, xs ≠ [] → s.blk b → ¬ F b
 no2 : ∀ x ∈ xs, ∀ b, x.2 ≠ [] → x.1.s.blk b → ¬ F b
theorem RdL.at {w0 w : World} {F0 : Nat → Prop} {s : Sl} {xs : List Rc} {L : List HA} (h : RdL w0 F0 s xs) (hs : St F0 w0 w L) : RL w s xs :=
 ⟨⟨h.rl.1.len, h.rl.1.row.mod hs.1 fun ad ha hne hF => h.no _ (fun hx => hne (by simp [hx])) ⟨ad, ha, rfl⟩ hF⟩, fun x hx => (h.rl.2 x hx).mod hs.1 fun ad ha hl hF => h.no2 x hx _ hl ⟨ad, ha, rfl⟩ hF⟩
theorem RdL.from {w : World} {F : Nat → Prop} {s : Sl} {xs : List Rc} (h : RdL w F s xs) (hle : s.len ≤ s.cap) {o : Nat} (ho : o ≤ xs.length) : RdL w F (sub5 s o) (xs.drop o) :=
 ⟨h.rl.from hle ho, fun b hx hb => h.no b (fun h0 => hx (by simp [h0])) (sub5_blk hb), fun x hx => h.no2 x (List.mem_of_mem_drop hx)⟩
theorem RdL.own {w : World} {F H : Nat → Prop} {s : Sl} {xs : List Rc} {L : List HA} (h : Has (SlA 5 s (rcs xs) :: bts xs :: L) w H) (hd : ∀ b, F b → ¬ H b) : RdL w F s xs := by
 have s0 := St.init h
 refine ⟨s0.rl, fun b _ hb hF => ?_, fun x hx b _ hb hF => ?_⟩
 · obtain ⟨G, H', ⟨_, h2⟩, _, _, h5⟩ := h
   exact hd b hF ((h5 b).2 (.inl ((h2 b).2 hb)))
 · obtain ⟨i, hi, rfl⟩ := List.getElem_of_mem hx
   have s1 := s0.drop.pick (i := i) (A := bytA (xs[i].1.s, xs[i].2)) (by simp [hi])
   obtain ⟨G, H', h1, _, _, _, h4, _⟩ := St.call1 s1
   rcases h4 b ((h1.2 b).2 hb) with h6 | h6
   · exact hd b hF h6
   · have := OwnS.blk_lt h1.1 hb
     omega
theorem two_big {F0 : Nat → Prop} {w0 w : World} {L A B : List HA} (h : St F0 w0 w (bigA A :: bigA B :: L)) : St F0 w0 w (bigA (A ++ B) :: L) := by
 have h1 := h.big
 have h2 : St F0 w0 w (bigA B :: (A ++ L)) := h1.perm List.perm_middle
 refine St.mkbig (h2.big.perm ?_)
 rw [List.append_assoc]
 exact List.perm_append_comm_assoc ..
def appD (n st : Int) : Nat → DM → Int → List Rv → Int × DM
 | 0, D, _, _ => (0, D)
 | f + 1, D, q, ys => if ys = [] then (0, D) else
   if (layD D n (placeB st n q) q (ys.take (imin ys.length (4 - placeO n q / 64)).toNat)).1 ≠ 0 then layD D n (placeB st n q) q (ys.take (imin ys.length (4 - placeO n q / 64)).toNat)
   else appD n st f (layD D n (placeB st n q) q (ys.take (imin ys.length (4 - placeO n q / 64)).toNat)).2 (q + (imin ys.length (4 - placeO n q / 64)).toNat) (ys.drop (imin ys.length (4 - placeO n q / 64)).toNat)
def appX (D : DM) (st n h : Int) (R ys : List Rv) : Int × DM :=
 if ys.all okV = false then (60, D) else if (ys.length : Int) > 4 * n - R.length then (70, D) else if (ys.length : Int) > 1152921504606846976 - (h + R.length) then (3, D) else appD n st ys.length D (h + R.length) ys
theorem appD_succ {n st : Int} {f m : Nat} {D : DM} {q : Int} {ys : List Rv} (h : ys ≠ []) (hm : imin ys.length (4 - placeO n q / 64) = (m : Int)) :
   appD n st (f + 1) D q ys = if (layD D n (placeB st n q) q (ys.take m)).1 ≠ 0 then layD D n (placeB st n q) q (ys.take m) else appD n st f (layD D n (placeB st n q) q (ys.take m)).2 (q + m) (ys.drop m) := by
 rw [appD, if_neg h, hm, Int.toNat_natCast]
theorem layD_db {D : DM} {N : Nat} (hd : DB N D) {n blk q : Int} {xs : List Rv} : DB (N + 2) (layD D n blk q xs).2 := by
 unfold layD
 split
 · exact hd.le (by omega)
 · split
   · exact hd.le (by omega)
   · have h := writeD_ok hd.ok hd.bd blk (layR n q (rdD D blk) xs).2
     exact ⟨h.1, h.2.1⟩
theorem V115 {r dp : Nat} {D : DM} {st n h : Int} {s p : Sl} {xs ys : List Rc} {N : Nat} {w : World} {F : Nat → Prop} (hh : Has (ringO r dp st n h s xs ++ [DiskA dp D]) w F)
   (hd : DB N D) (hN : N + 2 * ys.length ≤ 10000000) (hn : 1 ≤ n ∧ n ≤ 256) (hst : 0 ≤ st ∧ st ≤ 2048) (hq : 0 ≤ h ∧ h ≤ 2305843009213693952) (hx : xs.length ≤ 1000000) (hr : RdL w F p ys) (hle : p.len ≤ p.cap) (hp : p.len ≤ 1000000) :
   Calls Tryz.prog 115 #[RP r, slV p] w (RetT [.c (.int .i64)] fun x w' => ∃ t zs, x = (appX D st n h (xs.map rv) (ys.map rv)).1 ∧ zs.map rv = (if x = 0 then xs.map rv ++ ys.map rv else xs.map rv) ∧
     St F w w' (ringO r dp st n h t zs ++ [DiskA dp (appX D st n h (xs.map rv) (ys.map rv)).2])) := by
 refine F115_calls _ _ _ _ ?_
 unfold F115
 have s0 : St F w w [BoxA r (ringC dp st n h s), SlA 5 s (rcs xs), bts xs, DiskA dp D] := St.init hh
 refine callF_of (V107 s0.box) ?_
 rintro _ _ ⟨rfl, rfl⟩
 refine br_f rfl ?_
 have rl := (s0.sel [1, 2] 4).rl
 have hsl := rl.len
 have hpl := hr.rl.len
 have ok1 : ∀ {y : Rc}, y ∈ ys → okV (rv y) = checkB y.1.k y.1.b y.1.o y.1.m y.1.s.len := fun {y} hy => by
   rw [(hr.rl.2 y hy).len]; rfl
 have out : ∀ {W} {e : Int} {D' : DM}, e ≠ 0 → appX D st n h (xs.map rv) (ys.map rv) = (e, D') → St F w W [BoxA r (ringC dp st n h s), SlA 5 s (rcs xs), bts xs, DiskA dp D'] →
     ∃ t zs, e = (appX D st n h (xs.map rv) (ys.map rv)).1 ∧ zs.map rv = (if e = 0 then xs.map rv ++ ys.map rv else xs.map rv) ∧ St F w W (ringO r dp st n h t zs ++ [DiskA dp (appX D st n h (xs.map rv) (ys.map rv)).2]) := fun he h1 h2 => ⟨s, xs, by rw [h1], by rw [if_neg he], by rw [h1]; exact h2⟩
 refine loop_of (fun i W => ∃ j : Nat, i = j ∧ j ≤ ys.length ∧ (∀ y ∈ ys.take j, okV (rv y) = true) ∧ Grow w W) (fun i _ => ys.length - i.toNat) ⟨0, rfl, by omega, by simp, Mod.refl _ w⟩ ?_
 rintro _ W ⟨j, rfl, hj, hok, g⟩
 refine br_of (fun hlt => ?_) fun hge => ?_
 · have hlt : j < ys.length := by simpa [hpl] using hlt
   have hy : ys[j]? = some ys[j] := by simp [hlt]
   refine SS.eld Rw.cells_len (hr.rl.1.grow g) (r := ys[j].1) (by rw [List.getElem?_map, hy]; rfl) (by decide) (p := ys[j].1.p) rfl ?_
   refine St.nvs (St.init0 W) rfl (fun v hv => by simp at hv; rcases hv with rfl | rfl | rfl | rfl | rfl <;> trivial) fun b W2 t3 => ?_
   refine t3.LA 0 rfl (p := ys[j].1.p) rfl ?_
   refine callF_of (C59 ys[j].1.k ys[j].1.b ys[j].1.o ys[j].1.m ys[j].1.s W2) ?_
   rintro e W3 ⟨he, g3⟩
   have g4 := (g.trans t3.gro).trans g3
   rw [← ok1 (List.getElem_mem hlt)] at he
   refine br_of (fun hne => ?_) fun heq => ?_
   · have hb : okV (rv ys[j]) = false := by
       cases hb : okV (rv ys[j])
       · rfl
       · rw [hb] at he; simp [he] at hne
     rw [hb] at he
     refine out (by rw [he]; decide) ?_ (s0.grow g4)
     unfold appX
     rw [if_pos, he]
     · rfl
     · rw [List.all_eq_false]
       exact ⟨_, List.mem_map.2 ⟨_, List.getElem_mem hlt, rfl⟩, by simp [hb]⟩
   · rw [w64_succ (by omega)]
     refine ⟨⟨j + 1, rfl, hlt, ?_, g4⟩, ?_⟩
     · intro y hy'
       rw [List.take_add_one, hy, List.mem_append] at hy'
       rcases hy' with h' | h'
       · exact hok y h'
       · simp at h'
         subst h'
         cases hb : okV (rv ys[j])
         · rw [hb] at he; simp [he] at heq
         · rfl
     · show ys.length - (((j + 1 : Nat) : Int)).toNat < ys.length - ((j : Int)).toNat
       omega
 have hge : j = ys.length := by simp [hpl] at hge; omega
 subst hge
 rw [List.take_length] at hok
 have hall : (ys.map rv).all okV = true := by
   rw [List.all_eq_true]
   intro v hv
   obtain ⟨y, hy, rfl⟩ := List.mem_map.1 hv
   exact hok y hy
 have s1 := s0.grow g
 refine callF_of (V62 s1.box (by omega) (by omega)) ?_
 rintro _ W2 ⟨rfl, g2⟩
 have s2 := s1.grow g2
 have eX : appX D st n h (xs.map rv) (ys.map rv) = if (ys.length : Int) > 4 * n - xs.length then (70, D) else if (ys.length : Int) > 1152921504606846976 - (h + xs.length) then (3, D) else appD n st ys.length D (h + xs.length) (ys.map rv) := by
   unfold appX
   rw [if_neg (by simp [hall]), List.length_map, List.length_map]
 refine br_of (fun a => ?_) fun a => ?_
 · have a : (ys.length : Int) > 4 * n - xs.length := by simp [hpl, hsl] at a; omega
   exact out (by decide) (by rw [eX, if_pos a]) s2
 have a : ¬ (ys.length : Int) > 4 * n - xs.length := by simp [hpl, hsl] at a; omega
 rw [if_neg a] at eX
 refine callF_of (V57 s2.box hq (by omega)) ?_
 rintro _ W3 ⟨rfl, g3⟩
 have s3 := s2.grow g3
 rw [w64_of (n := 1152921504606846976 - (h + (s.len : Int))) ⟨by omega, by omega⟩]
 refine br_of (fun b => ?_) fun b => ?_
 · have b : (ys.length : Int) > 1152921504606846976 - (h + xs.length) := by simp [hpl, hsl] at b; omega
   exact out (by decide) (by rw [eX, if_pos b]) s3
 have b : ¬ (ys.length : Int) > 1152921504606846976 - (h + xs.length) := by simp [hpl, hsl] at b; omega
 rw [if_neg b] at eX
 refine callF_of (V57 s3.box hq (by omega)) ?_
 rintro _ W4 ⟨rfl, g4⟩
 have s4 := s3.grow g4
 refine loop_of (fun c W => ∃ (k f : Nat) (Dk : DM), c.1 = h + xs.length + k ∧ k ≤ ys.length ∧ RdL w F c.2 (ys.drop k) ∧ c.2.len ≤ c.2.cap ∧ DB (N + 2 * k) Dk ∧ ys.length - k ≤ f ∧
   appD n st ys.length D (h + xs.length) (ys.map rv) = appD n st f Dk (h + xs.length + k) ((ys.drop k).map rv) ∧ St F w W [BoxA r (ringC dp st n h s), SlA 5 s (rcs xs), bts xs, DiskA dp Dk]) (fun c _ => c.2.len)
   ⟨0, ys.length, D, by rw [hsl]; simp, by omega, hr, hle, hd, by omega, by simp, s4⟩ ?_
 rintro ⟨q, u⟩ W5 ⟨k, f, Dk, rfl, hk, hu, hul, hdk, hf, hX, s5⟩
 dsimp only at hu hul ⊢
 have hulen := hu.rl.len
 rw [List.length_drop] at hulen
 refine br_of (fun c => ?_) fun c => ?_
 · have c : 0 < u.len := by simp at c; omega
   obtain ⟨f, rfl⟩ : ∃ f', f = f' + 1 := ⟨f - 1, by omega⟩
   simp only [deref_some']
   refine callF_of (V125 s5.box hn hst (by omega)) ?_
   rintro _ _ ⟨rfl, rfl⟩
   dsimp only
   have hpo := placeO_le n (h + xs.length + k)
   have hpb := placeB_le (st := st) (q := h + xs.length + k) hn.1
   have hYne : (ys.drop k).map rv ≠ [] := by
     intro h0
     have := congrArg List.length h0
     simp at this
     omega
   have hYl : (((ys.drop k).map rv).length : Int) = (u.len : Int) := by simp; omega
   have hm1 := appD_succ (n := n) (st := st) (f := f) (D := Dk) (q := h + xs.length + k) hYne (m := (imin u.len (4 - placeO n (h + xs.length + k) / 64)).toNat) (by
     rw [hYl, Int.toNat_of_nonneg]
     unfold imin; split <;> omega)
   generalize placeO n (h + xs.length + k) = o at hpo hm1 ⊢
   generalize placeB st n (h + xs.length + k) = blk at hpb hm1 ⊢
   have e1 : w64 (4 - w64 (o.tdiv 64)) = 4 - o / 64 := by
     rw [Int.tdiv_eq_ediv_of_nonneg hpo.1, w64_of (n := o / 64) ⟨by omega, by omega⟩, w64_of ⟨by omega, by omega⟩]
   rw [e1]
   have hm2 : 1 ≤ imin u.len (4 - o / 64) ∧ imin u.len (4 - o / 64) ≤ u.len := by unfold imin; split <;> omega
   obtain ⟨m, hm⟩ : ∃ m : Nat, imin u.len (4 - o / 64) = m := ⟨_, (Int.toNat_of_nonneg (by omega)).symm⟩
   rw [hm] at hm1 hm2 ⊢
   rw [Int.toNat_natCast] at hm1
   rw [hm1] at hX
   refine ⟨by decide, ?_⟩
   refine slc_rl (hu.at s5) hul (by omega) hm2.2 fun rlm => ?_
   rw [Int.toNat_natCast] at rlm ⊢
   have s6 := s5.sel [0, 3, 1, 2] 4
   obtain ⟨G, H, g2, _, _, _, gc⟩ := St.call [BoxA r (ringC dp st n h s), DiskA dp Dk] s6
   refine callF_of (V168 (N := N + 2 * k) (blk := blk) (q := h + xs.length + k) g2 hdk (by omega) hn hst (by omega) rlm (by show m ≤ 1000000; omega)) ?_
   rw [List.map_take]
   rintro e W6 ⟨he, s7⟩
   have s8 := (gc _ _ s7).sel [0, 2, 3, 1] 4
   refine br_of (fun hne => ?_) fun heq => ?_
   · have hne : e ≠ 0 := by simpa using hne
     rw [he] at hne
     rw [if_pos hne] at hX
     rw [he]
     exact out hne (by rw [eX, hX]) s8
   · have heq : e = 0 := by simpa using heq
     rw [he] at heq
     rw [if_neg (fun hn0 => hn0 heq)] at hX
     refine slc_sub5 (by omega) ?_
     rw [w64_of (n := h + xs.length + k + m) ⟨by omega, by omega⟩]
     refine ⟨⟨k + m, f, _, by push_cast; omega, by omega, ?_, by show u.len - m ≤ u.cap - m; omega, (layD_db hdk).le (by omega), by omega, ?_, s8⟩, by show u.len - m < u.len; omega⟩
     · have := hu.from hul (o := m) (by rw [List.length_drop]; omega)
       rwa [List.drop_drop] at this
     · rw [hX, ← List.map_drop, List.drop_drop]
       congr 1; push_cast; omega
 · have c : u.len = 0 := by simp at c; omega
   have hk : k = ys.length := by omega
   subst hk
   rw [List.drop_length, List.map_nil] at hX
   have hX : appX D st n h (xs.map rv) (ys.map rv) = (0, Dk) := by
     rw [eX, hX]
     cases f <;> simp [appD]
   rw [drw_def]
   have s6 := s5.drew
   have hb : ∀ y ∈ ys, y.1.s.len ≤ 100000000000000 := by
     intro y hy
     have h1 := hok y hy
     rw [ok1 hy] at h1
     have := (checkB_num h1).2.1
     omega
   simp only [deref_some']
   refine jn_of (fun c W => ∃ t zs, c = ((some ⟨r, 0, none⟩ : Option Addr), s, t) ∧ zs.map rv = ys.map rv ∧ St F w W (SlA 5 t (rcs zs) :: bts zs :: [BoxA r (ringC dp st n h s), SlA 5 s (rcs xs), bts xs, DiskA dp Dk])) ⟨?_, ?_⟩ ?_
   · refine s6.box.ld (i := 4) (s := .slice) (p := s) rfl ?_
     refine callF_of (V127 p ys _ (hr.at s6) hp hb) ?_
     rintro t W6 ⟨zs, hz, s7⟩
     exact ⟨t, zs, rfl, hz, s6.call0 s7⟩
   · refine callF_of (V127 p ys _ (hr.at s6) hp hb) ?_
     rintro t W6 ⟨zs, hz, s7⟩
     have s8 := s6.call0 s7
     refine (s8.bring 2).box.ld (i := 4) (s := .slice) (p := s) rfl ?_
     exact ⟨t, zs, rfl, hz, s8⟩
   rintro _ W6 ⟨t, zs, rfl, hz, s7⟩
   have hzl : zs.length = ys.length := by simpa using congrArg List.length hz
   have tl := s7.sl.len
   have tr := s7.sl.reads
   have tn : t.a = none → t.len = 0 := fun ha => by
     have := s7.ss.none_len Rw.cells_len (by decide) ha
     exact this
   rw [rcs_len] at tl
   dsimp only
   refine St.app (s7.sel [3, 0, 1, 2, 4, 5] 6) (new := rcs zs) (fun _ => by rw [rcs_len]; exact tl) tn tr (rcs_na zs) rfl (by decide) (by omega) fun r2 W7 s8 _ => ?_
   rw [← rcs_append] at s8
   have s9 := two_big (s8.sel [4, 2, 0, 3, 5] 6)
   rw [← List.map_append] at s9
   have s9 : St F w W7 [bts (xs ++ zs), SlA 5 r2 (rcs (xs ++ zs)), BoxA r (ringC dp st n h s), DiskA dp Dk] := s9
   rw [deref_some']
   refine s9.S 2 rfl (by simp) (by simp) fun W8 s10 => ?_
   rw [hX]
   exact ⟨r2, xs ++ zs, rfl, by simp [hz], s10.sel [2, 1, 0, 3] 4⟩
end Go.Proofs

set_option maxRecDepth 20000
namespace Go.Proofs
open Go.Eng
theorem slc_bsc {w : World} {s : Sl} {l : List UInt8} {i e : Int} {k : Sl → Pr} (h : BS w s l) (hle : s.len ≤ s.cap) (h0 : 0 ≤ i) (h1 : i ≤ e) (h2 : e ≤ (s.len : Int)) (hk : ∀ r, BS w r ((l.take e.toNat).drop i.toNat) → r.len ≤ r.cap → k r w) : slc 1 s (some i) (some e) none k w := by
 obtain ⟨a1, a2, a3, a4, b⟩ := slc_bs (k := fun r W => BS w r ((l.take e.toNat).drop i.toNat) ∧ r.len = e.toNat - i.toNat) h hle h0 h1 h2 fun r hb hl => ⟨hb, hl⟩
 exact ⟨a1, a2, a3, a4, hk _ b.1 (by simp; omega)⟩
def slotR (D : DM) (st n q : Int) : List UInt8 := ((rdD D (placeB st n q)).take (placeO n q + 64).toNat).drop (placeO n q).toNat
def scanR (D : DM) (st n : Int) : Nat → Int → List Rv
 | 0, _ => []
 | f + 1, q => if (takeR (slotR D st n q) q).2 ≠ 0 then [] else (takeR (slotR D st n q) q).1 :: scanR D st n f (q + 1)
def badO (D : DM) (st n h : Int) : Prop := n < 1 ∨ n > 256 ∨ st < 0 ∨ n > D.blocks.length ∨ st > D.blocks.length - n ∨ h < 0 ∨ h > 1152921504606846976
instance (D : DM) (st n h : Int) : Decidable (badO D st n h) := by unfold badO; exact inferInstance
def openR (D : DM) (st n h : Int) : Int := if badO D st n h then 1 else if D.off then 5 else 0
abbrev scanO (D : DM) (st n h : Int) : List Rv := scanR D st n (4 * n).toNat h
theorem scanR_len {D : DM} {st n : Int} : ∀ (f : Nat) (q : Int), (scanR D st n f q).length ≤ f
 | 0, _ => by simp [scanR]
 | f + 1, q => by
   unfold scanR
   split
   · simp
   · have := scanR_len (D := D) (st := st) (n := n) f (q + 1)
     simp; omega
theorem takeR_dat (B : List UInt8) (q : Int) : (takeR B q).1.2.2.2.2.length ≤ 255 := by
 have hb := byteN_lt B 1
 have h0 : (recF B).2.2.2.2.length ≤ 255 := by
   unfold recF
   split
   · dsimp only; rw [List.length_take]; omega
   · simp
 have h1 : (parseR B).1.2.2.2.2.length ≤ 255 := by
   unfold parseR
   split
   · exact h0
   · simp
 unfold takeR
 split
 · simp
 · split
   · simp
   · exact h1
theorem scanR_dat {D : DM} {st n : Int} : ∀ (f : Nat) (q : Int), ∀ v ∈ scanR D st n f q, v.2.2.2.2.length ≤ 255
 | 0, _ => by simp [scanR]
 | f + 1, q => by
   unfold scanR
   split
   · simp
   · intro v hv
     rcases List.mem_cons.1 hv with h | h
     · subst h; exact takeR_dat _ _
     · exact scanR_dat f (q + 1) v h
def OpenQ (D : DM) (dp : Nat) (st n h : Int) (w : World) (r : Option Addr × Sl × Int) (w' : World) : Prop :=
 (openR D st n h ≠ 0 ∧ r = (none, ⟨none, 0, 0⟩, openR D st n h) ∧ Grow w w') ∨
 (openR D st n h = 0 ∧ ∃ (b : Nat) (s t : Sl) (xs ys : List Rc), r = (some ⟨b, 0, none⟩, t, 0) ∧ xs.map rv = scanO D st n h ∧ ys.map rv = scanO D st n h ∧ St noF w w' (ringO b dp st n h s xs ++ [SlA 5 t (rcs ys), bts ys]))
theorem V72 {dp : Nat} {D : DM} {st n h : Int} {N : Nat} {w : World} {F : Nat → Prop} (hh : Has [DiskA dp D] w F) (hd : DB N D) (hN : N ≤ 10000000) :
   Calls Tryz.prog 72 #[P0 dp, iv st, iv n, iv h] w (RetT [.c .ptr, .c .slice, .c (.int .i64)] (OpenQ D dp st n h w)) := by
 refine F72_calls _ _ _ _ _ _ ?_
 unfold F72
 have hbl := hd.ok.pos
 have hble := hd.ok.le
 have hwl := hd.bd.wait
 have lenC : ∀ {W : World} {k : Int → Pr}, Grow w W → k D.blocks.length W → callF Tryz.prog 83 [P0 dp] [.c (.int .i64)] k W := fun g hk => callF_of (C67 dp D _ F (hh.mod g fun _ _ h => h)) fun _ _ ⟨e, e'⟩ => by subst e e'; exact hk
 refine lenC (Mod.refl _ w) (br_f (beq_eq_false_iff_ne.2 (by omega)) ?_)
 refine jn_of (fun b W => b = decide (badO D st n h) ∧ W = w) ?_ ?_
 · unfold badO
   refine br_of (fun a => ⟨dec_true (.inl (by simpa using a)), rfl⟩) fun a => ?_
   refine br_of (fun b => ⟨dec_true (.inr (.inl (by simpa using b))), rfl⟩) fun b => ?_
   refine br_of (fun c => ⟨dec_true (.inr (.inr (.inl (by simpa using c)))), rfl⟩) fun c => ?_
   refine lenC (Mod.refl _ w) (br_of (fun d => ⟨dec_true (.inr (.inr (.inr (.inl (by simpa using d))))), rfl⟩) fun d => ?_)
   simp only [decide_eq_false_iff_not] at a b c d
   refine lenC (Mod.refl _ w) ?_
   rw [w64_of (n := (D.blocks.length : Int) - n) ⟨by omega, by omega⟩]
   refine (br_of (fun e => ⟨dec_true (.inr (.inr (.inr (.inr (.inl (of_decide_eq_true e)))))), rfl⟩) fun e => ?_)
   refine br_of (fun f => ⟨dec_true (.inr (.inr (.inr (.inr (.inr (.inl (of_decide_eq_true f))))))), rfl⟩) fun f => ⟨?_, rfl⟩
   simp only [decide_eq_false_iff_not] at e f
   exact decide_eq_decide.2 (by omega)
 rintro _ w ⟨rfl, rfl⟩
 unfold OpenQ openR
 refine br_of (fun a => ?_) fun a => ?_
 · rw [if_pos (of_decide_eq_true a)]
   exact .inl ⟨by decide, rfl, Mod.refl _ w⟩
 have a := of_decide_eq_false a
 rw [if_neg a]
 unfold badO at a
 have hn : 1 ≤ n ∧ n ≤ 256 := by omega
 have hst : 0 ≤ st ∧ st + n ≤ D.blocks.length := by omega
 have hq : 0 ≤ h ∧ h ≤ 1152921504606846976 := by omega
 refine St.nw (St.init0 w) fun r w1 s1 _ _ => ?_
 have s1 : St noF w w1 [BoxA r (ringC dp st n h ⟨none, 0, 0⟩)] := s1
 have s2 := ((s1.nosl 5).nobig).sel [2, 1, 0] 3
 have s2 : St noF w w1 (ringO r dp st n h ⟨none, 0, 0⟩ []) := s2
 refine jn_of (fun _ W => D.off = false ∧ ∃ s xs, xs.map rv = scanO D st n h ∧ St noF w W (ringO r dp st n h s xs)) ?_ ?_
 · refine callF_of (V111 s1.box ⟨by omega, by omega⟩) ?_
   rintro _ _ ⟨rfl, rfl⟩
   refine loop_of (fun c W => ∃ (j : Nat) (s : Sl) (xs : List Rc) (l : List UInt8), c.2.2 = j ∧ xs.length = j ∧ (j : Int) ≤ 4 * n ∧ (c.2.1 = -1 ∨ D.off = false ∧ 0 ≤ c.2.1 ∧ c.2.1 < D.blocks.length ∧ l = rdD D c.2.1) ∧
     xs.map rv ++ scanR D st n ((4 * n).toNat - j) (h + j) = scanO D st n h ∧ ((4 * n).toNat = j → D.off = false) ∧ St noF w W (SlA 1 c.1 (l.map ub) :: ringO r dp st n h s xs)) (fun c _ => (4 * n).toNat - c.2.2.toNat)
     ⟨0, ⟨none, 0, 0⟩, [], [], rfl, rfl, by omega, .inl rfl, by simp [scanO], by omega, s2.nosl 1⟩ ?_
   rintro ⟨u, cur, i⟩ W ⟨j, s, xs, l, rfl, hxl, hj, hcur, hX, hoff, s3⟩
   dsimp only at hcur s3 ⊢
   refine br_of (fun hlt => ?_) fun hge => ?_
   · have hlt : (j : Int) < 4 * n := by simpa using hlt
     have hf : (4 * n).toNat - j = ((4 * n).toNat - (j + 1)) + 1 := by omega
     rw [hf, scanR] at hX
     have s4 := (s3.drew).bring 1
     rw [drw_def]
     have hs := (s4.bring 2).sl.len
     rw [rcs_len] at hs
     have hsj : s.len = j := by omega
     refine callF_of (V57 s4.box (by omega) (by omega)) ?_
     rintro _ W2 ⟨rfl, g2⟩
     have s5 := s4.grow g2
     rw [show h + (s.len : Int) = h + j by omega]
     refine callF_of (V125 s5.box hn (by omega) (by omega)) ?_
     rintro _ _ ⟨rfl, rfl⟩
     have hpo := placeO_le n (h + j)
     have hpb := placeB_le (st := st) (q := h + j) hn.1
     have hslot : slotR D st n (h + j) = ((rdD D (placeB st n (h + j))).take (placeO n (h + j) + 64).toNat).drop (placeO n (h + j)).toNat := rfl
     dsimp only
     generalize placeO n (h + j) = o at hpo hslot ⊢
     generalize placeB st n (h + j) = blk at hpb hslot ⊢
     have s5 : St noF w W2 [BoxA r (ringC dp st n h s), SlA 1 u (l.map ub), SlA 5 s (rcs xs), bts xs] := s5
     refine jn_of (fun c W => ∃ v, c = (v, blk) ∧ D.off = false ∧ St noF w W [BoxA r (ringC dp st n h s), SlA 1 v ((rdD D blk).map ub), SlA 5 s (rcs xs), bts xs]) ?_ ?_
     · refine br_of (fun hne => ?_) fun heq => ?_
       · refine callF_of (C35 dp D blk W2 F (hh.mod s5.gro fun _ _ h => h) hd.ok (by omega)) ?_
         rintro ⟨v, e⟩ W3 ⟨he, t1⟩
         dsimp only at he t1
         subst he
         have hpe : placeE D blk = if D.off then 5 else 0 := by
           unfold placeE
           rw [if_neg (show ¬ (blk < 0 ∨ blk ≥ D.blocks.length) by omega)]
         cases ho : D.off
         · rw [ho] at hpe
           have hpe : placeE D blk = 0 := hpe
           rw [if_pos hpe] at t1
           refine br_f (by simp [hpe]) ⟨v, rfl, rfl, ?_⟩
           exact (s5.call0 t1).sel [1, 0, 3, 4] 5
         · rw [ho] at hpe
           have hpe : placeE D blk = 5 := hpe
           refine br_t (by simp [hpe]) ?_
           refine .inl ⟨by simp, ?_, (s5.call0 t1).gro⟩
           rw [hpe]; rfl
       · have heq : blk = cur := by simpa using heq
         rcases hcur with h1 | ⟨h1, _, _, h2⟩
         · omega
         · subst heq
           subst h2
           exact ⟨u, rfl, h1, s5⟩
     rintro _ W3 ⟨v, rfl, ho, s6⟩
     have hrl := rdD_len hd.ok (i := blk) (by omega) (by omega)
     generalize hB : slotR D st n (h + j) = B at hslot hX
     have hBl : B.length ≤ 1000000 := by rw [hslot, List.length_drop, List.length_take]; omega
     generalize hP : takeR B (h + j) = P at hX
     rw [w64_of (n := o + 64) ⟨by omega, by omega⟩]
     refine jn_of (fun c W => ∃ b sd, c = ((some ⟨b, 0, none⟩ : Option Addr), P.2) ∧ St noF w W [BoxA b (rcl (recT P.1 sd)), SlA 1 sd (P.1.2.2.2.2.map ub), BoxA r (ringC dp st n h s), SlA 1 v ((rdD D blk).map ub), SlA 5 s (rcs xs), bts xs]) ?_ ?_
     · rw [drw_def]
       have s7 := s6.drew
       have hvl := slA_len1 (s7.bring 1).sl
       rw [List.length_map] at hvl
       refine slc_bsc (s := v) (s7.bring 1).sl.bs (s7.bring 1).sl.le (by omega) (by omega) (by omega) fun p hp hpc => ?_
       rw [← hslot] at hp
       have hb5 := s7.box
       have hsl5 : s.len ≤ 1000000 := by omega
       generalize W3.drew = W5 at s7 hp hb5
       refine jn_of (fun c W => ∃ b sd, c = ((some ⟨b, 0, none⟩ : Option Addr), recT P.1 sd, P.2) ∧ St noF W5 W [BoxA b (rcl rT0), SlA 1 sd (P.1.2.2.2.2.map ub)]) ?_ ?_
       · generalize hRR : (fun (c : Option Addr × (Int × Int × Int × Sl × Int) × Int) W => ∃ b sd, c = ((some ⟨b, 0, none⟩ : Option Addr), recT P.1 sd, P.2) ∧ St noF W5 W [BoxA b (rcl rT0), SlA 1 sd (P.1.2.2.2.2.map ub)]) = RR
         have fin1 : ∀ {b sd W}, St noF W5 W [BoxA b (rcl rT0), SlA 1 sd (P.1.2.2.2.2.map ub)] → RR ((some ⟨b, 0, none⟩ : Option Addr), recT P.1 sd, P.2) W := fun {b sd W} t => by rw [← hRR]; exact ⟨b, sd, rfl, t⟩
         have fin2 : ∀ {b sd W}, St noF W5 W [SlA 1 sd (P.1.2.2.2.2.map ub), BoxA b (rcl rT0)] → RR ((some ⟨b, 0, none⟩ : Option Addr), recT P.1 sd, P.2) W := fun t => fin1 (t.sel [1, 0] 2)
         clear hRR
         have t0 := St.init0 W5
         have c57 : ∀ {W L} {k : Int → Pr}, St noF W5 W L → (∀ W', St noF W5 W' L → k (h + j) W') → callF Tryz.prog 57 [RP r] [.c (.int .i64)] k W := fun {W L k} t hk => by
           refine callF_of (V57 (hb5.grow t.gro) (by omega) hsl5) ?_
           rintro x W' ⟨hx, g⟩
           have : x = h + j := by rw [hx, hsj]
           subst this
           exact hk W' (t.grow g)
         have c126 : ∀ {W L} {k : (Int × Int × Int × Sl × Int) × Int → Pr}, St noF W5 W L → (∀ sd W', St noF W5 W' (SlA 1 sd (P.1.2.2.2.2.map ub) :: L) → k (recT P.1 sd, P.2) W') → callF Tryz.prog 126 [slV p, iv (h + j)] [.agg [.int .i64, .int .i64, .int .i64, .slice, .int .i64], .c (.int .i64)] k W := fun {W L k} t hk => by
           refine callF_of (V126 p (h + j) B W (hp.grow t.gro) hpc hBl) ?_
           rw [hP]
           rintro x W' ⟨sd, hx, t2⟩
           subst hx
           exact hk sd W' (t.call0 t2)
         have cnw : ∀ {W L} {k : Nat → Pr}, St noF W5 W L → (∀ b W', St noF W5 W' (BoxA b (rcl rT0) :: L) → k b W') → nw (.cells #[iv 0, iv 0, iv 0, .slice none 0 0, iv 0] 109) k W := fun t hk => St.nw t fun b W' t' _ _ => hk b W' t'
         repeat' first
           | with_reducible refine both_of ?_ ?_
           | with_reducible refine c57 (by assumption) fun _ _ => ?_
           | with_reducible refine c126 (by assumption) fun _ _ _ => ?_
           | with_reducible refine cnw (by assumption) fun _ _ _ => ?_
           | exact fin1 (by assumption)
           | exact fin2 (by assumption)
       rintro _ W6 ⟨b, sd, rfl, t1⟩
       have s8 := s7.call0 t1
       have s8 : St noF w W6 [BoxA b (rcl rT0), SlA 1 sd (P.1.2.2.2.2.map ub), BoxA r (ringC dp st n h s), SlA 1 v ((rdD D blk).map ub), SlA 5 s (rcs xs), bts xs] := s8
       rw [deref_some']
       refine s8.S 0 rfl (by simp) trivial fun _ s9 => ?_
       refine s9.S 0 rfl (by simp [setA]) trivial fun _ s10 => ?_
       refine s10.S 0 rfl (by simp [setA]) trivial fun _ s11 => ?_
       refine s11.S 0 rfl (by simp [setA]) (by simp) fun _ s12 => ?_
       refine s12.S 0 rfl (by simp [setA]) trivial fun _ s13 => ?_
       exact ⟨b, sd, rfl, s13⟩
     rintro _ W4 ⟨b, sd, rfl, s7⟩
     refine br_of (fun hne => ?_) fun heq => ?_
     · rw [if_pos (by simpa using hne), List.append_nil] at hX
       exact ⟨ho, s, xs, hX, s7.sel [2, 4, 5] 6⟩
     · have heq : P.2 = 0 := by simpa using heq
       rw [if_neg (fun h => h heq)] at hX
       rw [drw_def]
       have s8 := s7.drew
       refine (s8.bring 2).box.ld (i := 4) (s := .slice) (p := s) rfl ?_
       rw [deref_some']
       refine s8.LA 0 rfl (p := recT P.1 sd) rfl ?_
       refine St.nw s8 fun r4 W5 s9 _ _ => ?_
       have s9 : St noF w W5 [BoxA r4 (rcl (recT P.1 sd)), BoxA b (rcl (recT P.1 sd)), SlA 1 sd (P.1.2.2.2.2.map ub), BoxA r (ringC dp st n h s), SlA 1 v ((rdD D blk).map ub), SlA 5 s (rcs xs), bts xs] := s9
       refine (s9.sel [5, 0, 2, 3, 4, 6] 7).app (new := rcl (recT P.1 sd)) (fun _ => rfl) (fun h => by cases h) (readsAt_row.2 s9.box.row) (na_r _) rfl (by decide) (by dsimp only; omega) fun r2 W6 s10 _ => ?_
       refine s10.S 3 rfl (by simp) (by simp) fun W7 s11 => ?_
       have e1 : rcs xs ++ rcl (recT P.1 sd) = rcs (xs ++ [(⟨P.1.1, P.1.2.1, P.1.2.2.1, sd, P.1.2.2.2.1⟩, P.1.2.2.2.2)]) := by rw [rcs_append, rcs_one]; rfl
       have e2 : ∀ y : Rc, bts (xs ++ [y]) = bigA (xs.map (fun x => bytA (x.1.s, x.2)) ++ [bytA (y.1.s, y.2)]) := fun y => by simp [bts]
       have s12 := (s11.sel [2, 5, 0, 3, 4] 6).push
       rw [w64_succ (by omega)]
       refine ⟨⟨j + 1, r2, xs ++ [(⟨P.1.1, P.1.2.1, P.1.2.2.1, sd, P.1.2.2.2.1⟩, P.1.2.2.2.2)], rdD D blk, rfl, by simp [hxl], by omega, .inr ⟨ho, by omega, by omega, rfl⟩, ?_, fun _ => ho, ?_⟩, ?_⟩
       · rw [List.map_append, List.append_assoc]
         rw [show h + ((j + 1 : Nat) : Int) = h + j + 1 by push_cast; omega]
         exact hX
       · have s13 : St noF w W7 [SlA 1 v ((rdD D blk).map ub), BoxA r (ringC dp st n h r2), SlA 5 r2 (rcs xs ++ rcl (recT P.1 sd)), bigA (xs.map (fun x => bytA (x.1.s, x.2)) ++ [bytA (sd, P.1.2.2.2.2)])] := s12.sel [3, 2, 1, 0] 4
         rw [e1, ← e2 (⟨P.1.1, P.1.2.1, P.1.2.2.1, sd, P.1.2.2.2.1⟩, P.1.2.2.2.2)] at s13
         exact s13
       · show (4 * n).toNat - (((j + 1 : Nat) : Int)).toNat < (4 * n).toNat - ((j : Int)).toNat
         omega
   · have hge : (j : Int) = 4 * n := by simp at hge; omega
     rw [show (4 * n).toNat - j = 0 by omega, scanR, List.append_nil] at hX
     exact ⟨hoff (by omega), s, xs, hX, s3.drop⟩
 rintro ⟨⟩ W ⟨hoff, s, xs, hx, s3⟩
 rw [hoff]
 have hxl := congrArg List.length hx
 rw [List.length_map] at hxl
 have hsc : (scanO D st n h).length ≤ (4 * n).toNat := scanR_len _ _
 refine s3.box.ld (i := 4) (s := .slice) (p := s) rfl ?_
 have rl := (s3.sel [1, 2] 3).rl
 have hsl := rl.len
 refine callF_of (V127 s xs W rl (by omega) ?_) ?_
 · intro x hx'
   have h1 := (rl.2 x hx').len
   have h2 := scanR_dat (4 * n).toNat h (rv x) (hx ▸ List.mem_map.2 ⟨x, hx', rfl⟩)
   have h2 : x.2.length ≤ 255 := h2
   omega
 rintro t W2 ⟨ys, hy, s4⟩
 refine .inr ⟨rfl, r, s, t, xs, ys, rfl, hx, hy.trans hx, ?_⟩
 exact (s3.call0 s4).sel [2, 3, 4, 0, 1] 5
end Go.Proofs

set_option maxRecDepth 20000
namespace Go.Proofs
open Go.Eng
def fldS (l : List UInt8) (i : Nat) : Int := (leN ((l.drop (8 + 4 * i)).take 4) : Nat)
def fieldS (l : List UInt8) : Sup := (w64 (leN (l.take 8) : Nat), fldS l 0, fldS l 1, fldS l 2, fldS l 3, w64 (leN ((l.drop 24).take 8) : Nat))
def parseS (b : List UInt8) : Sup × Int := if b.length = 256 ∧ supE (fieldS (b.drop 8)) = 0 ∧ bytesS (fieldS (b.drop 8)) = b then (fieldS (b.drop 8), 0) else (Sup0, 50)
theorem fldS_lt (l : List UInt8) (i : Nat) : 0 ≤ fldS l i ∧ fldS l i < 4294967296 := by
 unfold fldS
 have h := leN_lt ((l.drop (8 + 4 * i)).take 4)
 have h2 : ((l.drop (8 + 4 * i)).take 4).length ≤ 4 := by rw [List.length_take]; omega
 have h3 : 2 ^ (8 * ((l.drop (8 + 4 * i)).take 4).length) ≤ 2 ^ 32 := Nat.pow_le_pow_right (by decide) (by omega)
 omega
def fjS (E : Int) (f : Nat → Int) (j : Nat) : List Value := [iv E, iv (if 0 < j then f 0 else 0), iv (if 1 < j then f 1 else 0), iv (if 2 < j then f 2 else 0), iv (if 3 < j then f 3 else 0), iv 0]
theorem V208 (s : Sl) (l : List UInt8) (w : World) (h : BS w s l) (hl : s.len ≤ 1000000) : Calls Tryz.prog 208 #[slV s] w (RetT [.c .ptr] fun r w' => ∃ rd t, r = some ⟨rd, 0, none⟩ ∧ St noF w w' (rdA rd t l 0)) := by
 refine F208_calls _ _ _ ?_
 unfold F208
 refine callF_of (C15 s l w h (by omega)) ?_
 rintro t w1 ⟨h1, _, h3⟩
 exact St.nw ((St.init0 w).mksl h3 h1) fun r w2 s2 _ _ => ⟨r, t, rfl, s2⟩
theorem V175 (b : Sl) (B : List UInt8) (w : World) (hs : BS w b B) (hc : b.len ≤ b.cap) (hB : B.length ≤ 1000000) :
   Calls Tryz.prog 175 #[slV b] w (RetT [.agg [.int .i64, .int .i64, .int .i64, .int .i64, .int .i64, .int .i64], .c (.int .i64)] fun r w' => r = parseS B ∧ Grow w w') := by
 refine F175_calls _ _ _ ?_
 unfold F175 parseS
 have hbl := hs.len
 refine St.nw (St.init0 w) fun r w1 s1 _ _ => ?_
 refine br_of (fun h => ?_) fun h => ?_
 · have h : B.length ≠ 256 := by simp at h; omega
   refine s1.SB 0 rfl rfl (na_p Sup0) fun w2 s2 => St.LA 0 s2 rfl (p := Sup0) rfl ⟨?_, s2.gro⟩
   rw [if_neg fun h' => h h'.1]
 have hl256 : B.length = 256 := by simp at h; omega
 refine slc_from (o := 8) (hs.grow s1.gro) hc (by omega) fun u hu hul _ _ _ => ?_
 generalize hl : B.drop 8 = l at hu ⊢
 have hll : l.length = 248 := by rw [← hl, List.length_drop]; omega
 refine callF_of (V208 u l w1 hu (by omega)) ?_
 rintro _ w2 ⟨rd, t, rfl, k2⟩
 have s2 : St noF w w2 [BoxA rd (rdC t 0), SlA 1 t (l.map ub), BoxA r (pcells Sup0)] := s1.call0 k2
 refine St.nw s2 fun r1 w3 s3 _ _ => ?_
 have s3 : St noF w w3 [BoxA r1 (pcells Sup0), BoxA rd (rdC t 0), SlA 1 t (l.map ub), BoxA r (pcells Sup0)] := s3

 have num : ∀ {W L} (p n : Nat) (k : Int → Pr), 1 ≤ n → n ≤ 8 → p + n ≤ 248 → St noF w W ([BoxA rd (rdC t p), SlA 1 t (l.map ub)] ++ L) →
     (∀ W', St noF w W' ([BoxA rd (rdC t (p + n)), SlA 1 t (l.map ub)] ++ L) → k ((leN ((l.drop p).take n) : Nat) : Int) W') →
     callV Tryz.prog (.func (.func 209) #[.pointer (some ⟨rd, 0, none⟩)] #[]) [iv n] [.c (.int .u64)] k W := by
   intro W L p n k h1 h8 hp st hk
   obtain ⟨F, H, h2, _, _, _, h5⟩ := St.call (rdA rd t l p) st
   refine callV_m rfl (by kernel_rfl) (V209 rd t l p n W F h2 h1 h8 (by omega) (by omega)) ?_
   rintro _ W' ⟨rfl, k3⟩
   exact hk W' (h5 _ _ k3)
 refine num 0 8 _ (by decide) (by decide) (by decide) (s3.sel [1, 2, 0, 3] 4) fun w4 s4 => ?_
 have s4 : St noF w w4 [BoxA rd (rdC t 8), SlA 1 t (l.map ub), BoxA r1 (pcells Sup0), BoxA r (pcells Sup0)] := s4
 rw [List.drop_zero]
 refine s4.S 2 rfl (by simp) trivial fun w5 s5 => ?_
 generalize hE : w64 (leN (l.take 8) : Nat) = E at s5
 refine St.nw s5 fun r2 w6 s6 _ _ => ?_
 have s6 : St noF w w6 [BoxA r2 ((List.range 4).map fun i => .pointer (some (bA r1 (i + 1)))), BoxA rd (rdC t 8), SlA 1 t (l.map ub), BoxA r1 (fjS E (fldS l) 0), BoxA r (pcells Sup0)] := s6
 refine loop_of (fun z W => ∃ j : Nat, z = (j : Int) ∧ j ≤ 4 ∧ St noF w W [BoxA r2 ((List.range 4).map fun i => .pointer (some (bA r1 (i + 1)))), BoxA rd (rdC t (8 + 4 * j)), SlA 1 t (l.map ub), BoxA r1 (fjS E (fldS l) j), BoxA r (pcells Sup0)])
   (fun z _ => 4 - z.toNat) ⟨0, rfl, by omega, s6⟩ ?_
 rintro _ W ⟨j, rfl, hj, sW⟩
 refine br_of (fun hlt => ?_) fun hge => ?_
 · simp only [decide_eq_true_eq] at hlt
   refine ⟨⟨by omega, by omega⟩, ?_⟩
   rw [Int.toNat_natCast, Nat.mul_one]
   obtain ⟨_, hb, _⟩ := sW.isAt 0 rfl
   have hj4 : j < 4 := by omega
   rw [bA, add_zero']
   refine hb.ld (i := j) (s := .ptr) (p := some (bA r1 (j + 1))) (by rw [List.getElem?_map, List.getElem?_range hj4]; rfl) ?_
   refine num (8 + 4 * j) 4 _ (by decide) (by decide) (by omega) (sW.sel [1, 2, 0, 3, 4] 5) fun W2 k2 => ?_
   have k2 : St noF w W2 [BoxA rd (rdC t (8 + 4 * j + 4)), SlA 1 t (l.map ub), BoxA r2 ((List.range 4).map fun i => .pointer (some (bA r1 (i + 1)))), BoxA r1 (fjS E (fldS l) j), BoxA r (pcells Sup0)] := k2
   rw [deref_some']
   have hf : ((leN ((l.drop (8 + 4 * j)).take 4) : Nat) : Int) = fldS l j := rfl
   have hlt4 := fldS_lt l j
   rw [hf, w64_of ⟨by omega, by omega⟩, w64_succ (by omega)]
   refine k2.S 3 rfl (by simp [fjS]; omega) trivial fun W3 k3 => ⟨⟨j + 1, rfl, by omega, ?_⟩, by omega⟩
   have e : (fjS E (fldS l) j).set (j + 1) (iv (fldS l j)) = fjS E (fldS l) (j + 1) := by
     obtain rfl | rfl | rfl | rfl : j = 0 ∨ j = 1 ∨ j = 2 ∨ j = 3 := by omega
     all_goals rfl
   rw [e] at k3
   exact k3.sel [2, 0, 1, 3, 4] 5
 · simp only [decide_eq_false_iff_not] at hge
   have : j = 4 := by omega
   subst this
   refine num 24 8 _ (by decide) (by decide) (by decide) (sW.sel [1, 2, 0, 3, 4] 5) fun W2 k2 => ?_
   have k2 : St noF w W2 [BoxA rd (rdC t 32), SlA 1 t (l.map ub), BoxA r2 ((List.range 4).map fun i => .pointer (some (bA r1 (i + 1)))), BoxA r1 (fjS E (fldS l) 4), BoxA r (pcells Sup0)] := k2
   refine k2.S 3 rfl (by simp [fjS]) trivial fun W3 k3 => ?_
   have hfs : ((fjS E (fldS l) 4).set 5 (iv (w64 (leN ((l.drop 24).take 8) : Nat)))) = pcells (fieldS l) := by
     rw [← hE]; rfl
   rw [hfs] at k3
   have k3 : St noF w W3 [BoxA rd (rdC t 32), SlA 1 t (l.map ub), BoxA r2 ((List.range 4).map fun i => .pointer (some (bA r1 (i + 1)))), BoxA r1 (pcells (fieldS l)), BoxA r (pcells Sup0)] := k3
   generalize fieldS l = S at k3 ⊢
   refine k3.LA 3 rfl (p := S) rfl ?_
   refine callF_of (V133 S W3) ?_
   rintro ⟨x, e⟩ W4 ⟨he, hP⟩
   dsimp only at he
   subst he
   refine jn_of (fun b W => b = decide (¬ (supE S = 0 ∧ bytesS S = B)) ∧ St noF w W [BoxA r1 (pcells S), BoxA r (pcells Sup0)]) ?_ ?_
   · rcases hP with ⟨h1, rfl, g4⟩ | ⟨h1, k4⟩
     · exact br_t (by simpa using h1) ⟨dec_true fun h' => h1 h'.1, (k3.grow g4).sel [3, 4] 5⟩
     · have k5 := k3.call0 k4
       refine br_f (by simp [h1]) ?_
       refine callF_of (C18 x b (bytesS S) B W4 k5.sl.bs (hs.grow k5.gro)) ?_
       rintro _ _ ⟨rfl, rfl⟩
       refine ⟨?_, k5.sel [4, 5] 6⟩
       by_cases hbb : bytesS S = B <;> simp [hbb, h1]
   rintro _ W5 ⟨rfl, s5⟩
   refine br_of (fun h => ?_) fun h => ?_
   · simp only [decide_eq_true_eq] at h
     refine s5.SB 1 rfl rfl (na_p Sup0) fun w6 s6 => St.LA 1 s6 rfl (p := Sup0) rfl ⟨?_, s6.gro⟩
     rw [if_neg fun h' => h ⟨h'.2.1, h'.2.2⟩]
   · simp only [decide_eq_false_iff_not, Classical.not_not] at h
     refine s5.LA 0 rfl (p := S) rfl ?_
     refine s5.SB 1 rfl rfl (na_p S) fun w6 s6 => St.LA 1 s6 rfl (p := S) rfl ⟨?_, s6.gro⟩
     rw [if_pos ⟨hl256, h.1, h.2⟩]
end Go.Proofs

set_option maxRecDepth 20000
namespace Go.Proofs
open Go.Eng
abbrev enumL {α : Type} (xs : List α) : List (Int × α) := xs.zipIdx.map fun x => ((x.2 : Int), x.1)
theorem enumL_at {α : Type} {xs : List α} {j : Nat} {x : α} (h : xs[j]? = some x) : (enumL xs)[j]? = some ((j : Int), x) := by
 simp [enumL, List.getElem?_map, List.getElem?_zipIdx, h]
theorem iter_all (b : Nat) (s : Sl) (xs : List Sl) (hl : xs.length ≤ 1000000) : IterL Tryz.prog (.func (.func 207) #[] #[P0 b]) [.c (.int .i64), .c .slice] (enumL xs) (fun w => Box w b [slV s] ∧ MS slV w s xs) := by
 refine ⟨207, _, rfl, by kernel_rfl, ?_⟩
 intro y w I D hM hG h0 hr
 refine F207_calls y _ _ _ ?_
 unfold F207
 rw [deref_some']
 refine ldC_of (s := .slice) (p := s) (hM _ _ h0).1.cell0 ?_
 have hsl := (hM _ _ h0).2.len
 refine loop_of (fun z W => ∃ j : Nat, z = (j : Int) ∧ j ≤ xs.length ∧ I j W) (fun z _ => xs.length - z.toNat) ⟨0, rfl, by omega, h0⟩ ?_
 rintro _ W ⟨j, rfl, hj, hI⟩
 refine br_of (fun hlt => ?_) fun hge => ?_
 · simp only [decide_eq_true_eq] at hlt
   have hjl : j < xs.length := by omega
   refine (hM _ _ hI).2.eld (x := xs[j]) (c := .slice) (p := xs[j]) (by simp [hjl]) rfl ?_
   refine callV_mono (fun c W' hc => ?_) (hr j ((j : Int), xs[j]) W (enumL_at (by simp [hjl])) hI)
   refine br_of (fun hf => ?_) fun hf => ?_
   · simp only [Bool.not_eq_true'] at hf
     subst hf
     rw [if_neg (by simp)] at hc
     exact .inr hc
   · simp only [Bool.not_eq_false'] at hf
     subst hf
     rw [if_pos rfl] at hc
     rw [w64_succ (by omega)]
     exact ⟨⟨j + 1, rfl, hjl, hc⟩, by omega⟩
 · simp only [decide_eq_false_iff_not] at hge
   have : j = xs.length := by omega
   subst this
   exact .inl (by simpa [enumL] using hI)
def oneS (A : List UInt8) (i : Int) : Prop := (parseS A).2 = 0 ∧ slotS (parseS A).1 = i
instance (A : List UInt8) (i : Int) : Decidable (oneS A i) := by unfold oneS; exact inferInstance
def chooseS (A B : List UInt8) : Sup × Int :=
 if oneS A 0 ∧ (¬ oneS B 1 ∨ (parseS A).1.1 > (parseS B).1.1) then ((parseS A).1, 0) else if oneS B 1 then ((parseS B).1, 0) else (Sup0, 50)
def bestS (C : List UInt8) (i : Int) (s : Sup) : Sup := if oneS C i ∧ (parseS C).1.1 > s.1 then (parseS C).1 else s
theorem parseS_ok {A : List UInt8} (h : (parseS A).2 = 0) : supE (parseS A).1 = 0 ∧ A.length = 256 ∧ bytesS (parseS A).1 = A := by
 unfold parseS at h ⊢
 split at h
 · rename_i h'; rw [if_pos h']; exact ⟨h'.2.1, h'.1, h'.2.2⟩
 · cases h
theorem parseS_pos {A : List UInt8} (h : (parseS A).2 = 0) : 1 ≤ (parseS A).1.1 := (supE_ok (parseS_ok h).1).2.1
theorem choose_best (A B : List UInt8) : chooseS A B = (if (bestS B 1 (bestS A 0 Sup0)).1 = 0 then (Sup0, 50) else (bestS B 1 (bestS A 0 Sup0), 0)) := by
 unfold chooseS bestS
 by_cases ha : oneS A 0 <;> by_cases hb : oneS B 1
 · have pa := parseS_pos ha.1
   have pb := parseS_pos hb.1
   have hne : (parseS A).1.1 ≠ (parseS B).1.1 := by
     intro he
     have h1 := ha.2
     have h2 := hb.2
     unfold slotS at h1 h2
     rw [if_neg (by omega)] at h1 h2
     rw [he] at h1
     omega
   rw [if_pos (⟨ha, by show _ > 0; omega⟩ : oneS A 0 ∧ (parseS A).1.1 > Sup0.1)]
   by_cases hgt : (parseS A).1.1 > (parseS B).1.1
   · rw [if_pos ⟨ha, .inr hgt⟩, if_neg (c := oneS B 1 ∧ _) (by omega), if_neg (by omega)]
   · rw [if_neg (by rintro ⟨_, h | h⟩; exact h hb; exact hgt h), if_pos hb, if_pos (c := oneS B 1 ∧ _) ⟨hb, by omega⟩, if_neg (by omega)]
 · have pa := parseS_pos ha.1
   rw [if_pos (⟨ha, by show _ > 0; omega⟩ : oneS A 0 ∧ (parseS A).1.1 > Sup0.1), if_pos ⟨ha, .inl hb⟩, if_neg (c := oneS B 1 ∧ _) (fun h => hb h.1), if_neg (by omega)]
 · have pb := parseS_pos hb.1
   rw [if_neg (c := oneS A 0 ∧ (¬ _ ∨ _)) (fun h => ha h.1), if_pos hb, if_neg (c := oneS A 0 ∧ _) (fun h => ha h.1), if_pos (⟨hb, by show _ > 0; omega⟩ : oneS B 1 ∧ (parseS B).1.1 > Sup0.1), if_neg (by omega)]
 · rw [if_neg (c := oneS A 0 ∧ (¬ _ ∨ _)) (fun h => ha h.1), if_neg hb, if_neg (c := oneS A 0 ∧ _) (fun h => ha h.1), if_neg (c := oneS B 1 ∧ _) (fun h => hb h.1), if_pos rfl]
theorem V174 (s : Sl) (w : World) : Calls Tryz.prog 174 #[slV s] w (RetT [.c .any] fun r w' => ∃ b, r = .func (.func 207) #[] #[P0 b] ∧ St noF w w' [BoxA b [slV s]]) := by
 refine F174_calls _ _ _ ?_
 unfold F174
 exact ⟨trivial, St.nw (St.init0 w) fun r w1 s1 _ _ => ⟨r, rfl, s1⟩⟩
theorem bestS_zero {C : List UInt8} {i : Int} {s : Sup} (hs : s.1 = 0 → s = Sup0) (h : (bestS C i s).1 = 0) : bestS C i s = Sup0 := by
 unfold bestS at h ⊢
 split at h
 · rename_i h'
   have := parseS_pos h'.1.1
   omega
 · rename_i h'
   rw [if_neg h']
   exact hs h
theorem bestS_eq (C : List UInt8) (i : Int) (s : Sup) : bestS C i s = if ((parseS C).2 = 0 ∧ slotS (parseS C).1 = i) ∧ (parseS C).1.1 > s.1 then (parseS C).1 else s := by
 unfold bestS oneS
 by_cases h : ((parseS C).2 = 0 ∧ slotS (parseS C).1 = i) ∧ (parseS C).1.1 > s.1
 · rw [if_pos h]
 · rw [if_neg h]
def bestJ (A B : List UInt8) : Nat → Sup
 | 0 => Sup0
 | 1 => bestS A 0 Sup0
 | _ + 2 => bestS B 1 (bestS A 0 Sup0)
theorem bestJ_0 (A B : List UInt8) : bestJ A B 0 = Sup0 := rfl
theorem bestJ_1 (A B : List UInt8) : bestJ A B 1 = bestS A 0 Sup0 := rfl
theorem bestJ_2 (A B : List UInt8) : bestJ A B 2 = bestS B 1 (bestS A 0 Sup0) := rfl
theorem V122 (p q : Sl) (A B : List UInt8) (w : World) (hp : BS w p A) (hq : BS w q B) (hpc : p.len ≤ p.cap) (hqc : q.len ≤ q.cap) (hA : A.length ≤ 1000000) (hB : B.length ≤ 1000000) :
   Calls Tryz.prog 122 #[slV p, slV q] w (RetT [.agg [.int .i64, .int .i64, .int .i64, .int .i64, .int .i64, .int .i64], .c (.int .i64)] fun r w' => r = chooseS A B ∧ Grow w w') := by
 refine F122_calls _ _ _ _ ?_
 unfold F122
 refine St.nw (St.init0 w) fun r w1 s1 _ _ => St.nw s1 fun r1 w2 s2 _ _ => St.nw s2 fun r2 w3 s3 _ _ => ?_
 refine callF_of (V174 ⟨some ⟨r2, 0, none⟩, 2, 2⟩ w3) ?_
 rintro _ w4 ⟨b, rfl, k4⟩
 have s4 : St noF w w4 [BoxA b [slV ⟨some ⟨r2, 0, none⟩, 2, 2⟩], BoxA r2 [slV p, slV q], BoxA r1 (pcells Sup0), BoxA r (pcells Sup0)] := s3.call0 k4
 refine rng_st (iter_all b ⟨some ⟨r2, 0, none⟩, 2, 2⟩ [p, q] (by show 2 ≤ 1000000; omega)) (F0 := noF) (w0 := w)
   (fun s : Sup => [BoxA b [slV ⟨some ⟨r2, 0, none⟩, 2, 2⟩], BoxA r2 [slV p, slV q], BoxA r1 (pcells s), BoxA r (pcells Sup0)]) (fun j s => s = bestJ A B j) (fun _ : Unit => []) (fun _ _ => False) Sup0 rfl s4 ?_ ?_ ?_ ?_
 · intro j s W T _ hs
   have hs : St noF w W (BoxA b [slV ⟨some ⟨r2, 0, none⟩, 2, 2⟩] :: BoxA r2 [slV p, slV q] :: BoxA r1 (pcells s) :: BoxA r (pcells Sup0) :: T) := hs
   exact ⟨hs.box, rfl, readsAt_row.2 (hs.bring 1).box.row⟩
 · intro l m Ro j x s W bg nx lv hx hj hs hbg hnx _
   refine hbg _ _ _ hs fun W2 _ s5 => ?_
   have s5 : St noF w W2 [BoxA b [slV ⟨some ⟨r2, 0, none⟩, 2, 2⟩], BoxA r2 [slV p, slV q], BoxA r1 (pcells s), BoxA r (pcells Sup0), ObjA l (Ro .busy), ObjA m ddO] := s5
   obtain ⟨C, u, hxu, hu, huc, hC, hb⟩ : ∃ C u, x = ((j : Int), u) ∧ BS W2 u C ∧ u.len ≤ u.cap ∧ C.length ≤ 1000000 ∧ bestJ A B (j + 1) = bestS C j s := by
     rcases j with _ | _ | j
     · exact ⟨A, p, by simpa [enumL] using hx.symm, hp.grow s5.gro, hpc, hA, by rw [hj, Nat.zero_add, bestJ_1, bestJ_0]; exact congrArg (bestS A · Sup0) (Int.natCast_zero).symm⟩
     · exact ⟨B, q, by simpa [enumL] using hx.symm, hq.grow s5.gro, hqc, hB, by rw [hj, Nat.zero_add, bestJ_1, bestJ_2]; exact congrArg (bestS B · _) (Int.natCast_one).symm⟩
     · simp [enumL] at hx
   subst hxu
   clear hx hj
   refine callF_of (V175 u C W2 hu huc hC) ?_
   rintro e W3 ⟨he, g3⟩
   have hsl := bestS_eq C j s
   rw [← he] at hsl
   rw [hsl] at hb
   clear he hsl
   refine (s5.grow g3).nvs rfl (na_p e.1) fun r3 W4 s6 => ?_
   refine jn_of (fun d W => d = decide ((e.2 = 0 ∧ slotS e.1 = (j : Int)) ∧ e.1.1 > s.1) ∧
     St noF w W [BoxA r3 (pcells e.1), BoxA b [slV ⟨some ⟨r2, 0, none⟩, 2, 2⟩], BoxA r2 [slV p, slV q], BoxA r1 (pcells s), BoxA r (pcells Sup0), ObjA l (Ro .busy), ObjA m ddO]) ?_ ?_
   · refine br_of (fun h => ?_) fun h => ⟨?_, s6⟩
     rotate_left
     · symm; rw [decide_eq_false_iff_not]; intro h'; simp [h'.1.1] at h
     have h : e.2 = 0 := by simpa using h
     refine s6.LA 0 rfl (p := e.1) rfl ?_
     refine callF_of (V134 e.1 W4) ?_
     rintro i W5 ⟨hi, g5⟩
     have s7 := s6.grow g5
     refine br_of (fun h2 => ?_) fun h2 => ⟨?_, s7⟩
     rotate_left
     · symm; rw [decide_eq_false_iff_not]; intro h'; rw [← hi] at h'; simp [h'.1.2] at h2
     have h2 : i = (j : Int) := by simpa using h2
     refine s7.L 0 rfl (p := e.1.1) rfl ?_
     refine s7.L 3 rfl (p := s.1) rfl ⟨?_, s7⟩
     exact decide_eq_decide.2 ⟨fun h' => ⟨⟨h, by rw [← hi, h2]⟩, h'⟩, fun h' => h'.2⟩
   rintro d W5 ⟨hd, s7⟩
   refine br_of (fun h => ?_) fun h => ?_
   · rw [hd, decide_eq_true_eq] at h
     refine s7.LA 0 rfl (p := e.1) rfl ?_
     refine s7.SB 3 rfl rfl (na_p e.1) fun W6 s8 => hnx e.1 W6 ?_ (St.drop s8)
     rw [hb, if_pos h]
   · rw [hd, decide_eq_false_iff_not] at h
     refine hnx s W5 ?_ (St.drop s7)
     rw [hb, if_neg h]
 · intro m s W hj hs
   have hs : St noF w W [BoxA b [slV ⟨some ⟨r2, 0, none⟩, 2, 2⟩], BoxA r2 [slV p, slV q], BoxA r1 (pcells s), BoxA r (pcells Sup0), ObjA m ddO] := hs
   have hj : s = bestS B 1 (bestS A 0 Sup0) := hj
   have hc : chooseS A B = if s.1 = 0 then (Sup0, 50) else (s, 0) := by rw [choose_best, hj]
   have hz : s.1 = 0 → s = Sup0 := fun h => by
     rw [hj] at h ⊢
     exact bestS_zero (bestS_zero fun _ => rfl) h
   clear hj
   rw [hc]
   have fin : ∀ W2 (L : PlanT) , St noF w W2 [BoxA b [slV ⟨some ⟨r2, 0, none⟩, 2, 2⟩], BoxA r2 [slV p, slV q], BoxA r1 (pcells s), BoxA r (pcells L), ObjA m ddO] → ∀ (k : PlanT → Pr), (∀ W3, Grow w W3 → k L W3) →
       takes [m] (ldA [.int .i64, .int .i64, .int .i64, .int .i64, .int .i64, .int .i64] (bA r 0) k) W2 := by
     intro W2 L st k hk
     refine takesAt (V := [BoxA b [slV ⟨some ⟨r2, 0, none⟩, 2, 2⟩], BoxA r2 [slV p, slV q], BoxA r1 (pcells s), BoxA r (pcells L)]) (T := []) st fun W3 s3 => ?_
     exact s3.LA 3 rfl (p := L) rfl (hk W3 s3.gro)
   refine hs.LA 2 rfl (p := s) rfl ?_
   refine br_of (fun h => ?_) fun h => ?_
   · have h0 : s.1 = 0 := by simp only [Bool.and_eq_true, beq_iff_eq] at h; exact h.1
     rw [if_pos h0]
     have := hz h0
     subst this
     refine hs.LA 2 rfl (p := Sup0) rfl ?_
     refine hs.SB 3 rfl rfl (na_p Sup0) fun W2 s2 => fin W2 Sup0 s2 _ fun W3 g => ⟨rfl, g⟩
   · have h0 : s.1 ≠ 0 := fun h0 => by rw [hz h0] at h; cases h
     rw [if_neg h0]
     refine hs.LA 2 rfl (p := s) rfl ?_
     refine hs.SB 3 rfl rfl (na_p s) fun W2 s2 => fin W2 s s2 _ fun W3 g => ⟨rfl, g⟩
 · intro m q t W h; exact h.elim
end Go.Proofs

set_option maxRecDepth 100000
namespace Go.Proofs
open Go.Eng
def an77 : An := (.sq .z (.sq .z (.sq (.sq .z (.br (.sq .z .z) .z)) (.sq (.sq .z (.sq .z (.br (.sq .z .z) .z))) (.sq .z .z)))))
def F77 (p0 : Option Addr) (p1_0 : Int) (p1_1 : Int) (p1_2 : Int) (p1_3 : Int) (p1_4 : Int) (p1_5 : Int) (Q : Int → Pr) : Pr :=
 nw (.cells #[(iv p1_0), (iv p1_1), (iv p1_2), (iv p1_3), (iv p1_4), (iv p1_5)] 61) fun r =>
 ldA [I64, I64, I64, I64, I64, I64] (bA r 0) fun (t9 : Int × Int × Int × Int × Int × Int) =>
 callF Tryz.prog 133 [(.agg #[(iv t9.1), (iv t9.2.1), (iv t9.2.2.1), (iv t9.2.2.2.1), (iv t9.2.2.2.2.1), (iv t9.2.2.2.2.2)])] [.c .slice, .c I64] fun (t10 : Sl × Int) =>
 br (t10.2 != 0) (
 Q t10.2) (
 ldA [I64, I64, I64, I64, I64, I64] (bA r 0) fun (t17 : Int × Int × Int × Int × Int × Int) =>
 callF Tryz.prog 134 [(.agg #[(iv t17.1), (iv t17.2.1), (iv t17.2.2.1), (iv t17.2.2.2.1), (iv t17.2.2.2.2.1), (iv t17.2.2.2.2.2)])] [.c I64] fun (t18 : Int) =>
 callF Tryz.prog 132 [(.pointer p0), (iv t18), (slV t10.1)] [.c I64] fun (t20 : Int) =>
 br (t20 != 0) (
 Q t20) (
 callF Tryz.prog 112 [(.pointer p0)] [.c I64] fun (t25 : Int) =>
 Q t25))
theorem F77_calls (p0 : Option Addr) (p1_0 : Int) (p1_1 : Int) (p1_2 : Int) (p1_3 : Int) (p1_4 : Int) (p1_5 : Int) (Q : Int → Pr) (w : World) (h : F77 p0 p1_0 p1_1 p1_2 p1_3 p1_4 p1_5 Q w) : Calls Tryz.prog 77 #[(.pointer p0), (.agg #[(iv p1_0), (iv p1_1), (iv p1_2), (iv p1_3), (iv p1_4), (iv p1_5)])] w (RetT [.c I64] Q) := cF (an := an77) Tryz.func77 (by kernel_rfl) h
def an84 : An := (.sq .z (.sq (.sq .z (.bl (.lp [(7, .c (.int .i64))] (.sq (.sq .z (.br .z .z)) (.sq (.bl (.sq .z (.sq .z (.br (.sq .z .z) .z)))) .z))))) (.sq .z .z)))
def F84 (p0 : Option Addr) (p1 : Int) (p2 : Int) (Q : Int → Pr) : Pr :=
 loopE (S:=Int) (fun X s =>
 br (decide (s < p2)) (
 mkS 5 1 [(uv 0)] 256 256 fun t17 =>
 callF Tryz.prog 132 [(.pointer p0), (iv s), (slV t17)] [.c I64] fun (t18 : Int) =>
 br (t18 != 0) (
 Q t18) (
 X ((w64 (s + 1))))) (
 callF Tryz.prog 112 [(.pointer p0)] [.c I64] fun (t23 : Int) =>
 Q t23)) p1
theorem F84_calls (p0 : Option Addr) (p1 : Int) (p2 : Int) (Q : Int → Pr) (w : World) (h : F84 p0 p1 p2 Q w) : Calls Tryz.prog 84 #[(.pointer p0), (iv p1), (iv p2)] w (RetT [.c I64] Q) := cF (an := an84) Tryz.func84 (by kernel_rfl) h
def an69 : An := (.sq .z (.sq (.bl (.sq .z (.br (.sq .z .z) (.sq .z (.br (.sq .z .z) .z))))) (.sq .z .z)))
def F69 (p0 : Option Addr) (Q : Int → Pr) : Pr :=
 callF Tryz.prog 83 [(.pointer p0)] [.c I64] fun (t5 : Int) =>
 br (t5 == 0) (
 Q 2) (
 callF Tryz.prog 53 [(.pointer p0)] [.c .bool] fun (t9 : Bool) =>
 br (!t9) (
 Q 5) (
 Q 0))
theorem F69_calls (p0 : Option Addr) (Q : Int → Pr) (w : World) (h : F69 p0 Q w) : Calls Tryz.prog 69 #[(.pointer p0)] w (RetT [.c I64] Q) := cF (an := an69) Tryz.func69 (by kernel_rfl) h
def an37 : An := (.sq .z (.sq (.sq .z (.sq .z (.br (.sq .z .z) .z))) (.sq .z (.sq (.bl (.sq .z (.br (.sq .z .z) (.sq (.jn [(25, .c .bool)] .z) (.br (.sq .z .z) .z))))) (.sq (.sq .z (.sq .z (.br (.sq .z .z) .z))) (.sq (.sq .z (.sq .z (.br (.sq .z .z) .z))) (.sq .z (.sq (.sq .z (.br (.sq .z .z) .z)) (.sq .z .z)))))))))
def F37 (p0 : Option Addr) (p1_0 : Int) (p1_1 : Int) (p1_2 : Int) (p1_3 : Int) (Q : Int → Pr) : Pr :=
 nw (.cells #[(iv p1_0), (iv p1_1), (iv p1_2), (iv p1_3)] 23) fun r =>
 callF Tryz.prog 69 [(.pointer p0)] [.c I64] fun (t12 : Int) =>
 br (t12 != 0) (
 Q t12) (
 ldA [I64, I64, I64, I64] (bA r 0) fun (t17 : Int × Int × Int × Int) =>
 callF Tryz.prog 71 [(.agg #[(iv t17.1), (iv t17.2.1), (iv t17.2.2.1), (iv t17.2.2.2)])] [.agg [I64, I64, I64, I64, I64, I64], .c I64] fun (t18 : (Int × Int × Int × Int × Int × Int) × Int) =>
 nvs 38 [(iv 0), (iv 0), (iv 0), (iv 0), (iv 0), (iv 0)] [(iv t18.1.1), (iv t18.1.2.1), (iv t18.1.2.2.1), (iv t18.1.2.2.2.1), (iv t18.1.2.2.2.2.1), (iv t18.1.2.2.2.2.2)] fun r_1 =>
 br (t18.2 != 0) (
 Q t18.2) (
 jn (S:=Bool) (fun R =>
 drw <|
 both (
 callF Tryz.prog 83 [(.pointer p0)] [.c I64] fun (t27 : Int) =>
 ldI (bA r 0) fun t29 =>
 R ((t27 != t29))) (
 ldI (bA r 0) fun t29_1 =>
 callF Tryz.prog 83 [(.pointer p0)] [.c I64] fun (t27_1 : Int) =>
 R ((t27_1 != t29_1)))) fun s =>
 br s (
 Q 1) (
 callF Tryz.prog 84 [(.pointer p0), (iv 0), (iv 2)] [.c I64] fun (t32 : Int) =>
 br (t32 != 0) (
 Q t32) (
 ldI (bA r_1 4) fun t38 =>
 callF Tryz.prog 84 [(.pointer p0), (iv 2), (iv t38)] [.c I64] fun (t39 : Int) =>
 br (t39 != 0) (
 Q t39) (
 ldA [I64, I64, I64, I64] (bA r 0) fun (t44 : Int × Int × Int × Int) =>
 callF Tryz.prog 85 [(.agg #[(iv t44.1), (iv t44.2.1), (iv t44.2.2.1), (iv t44.2.2.2)])] [.agg [I64, I64, I64, I64, I64, I64], .c I64] fun (t45 : (Int × Int × Int × Int × Int × Int) × Int) =>
 nvs 61 [(iv 0), (iv 0), (iv 0), (iv 0), (iv 0), (iv 0)] [(iv t45.1.1), (iv t45.1.2.1), (iv t45.1.2.2.1), (iv t45.1.2.2.2.1), (iv t45.1.2.2.2.2.1), (iv t45.1.2.2.2.2.2)] fun r_2 =>
 br (t45.2 != 0) (
 Q t45.2) (
 ldA [I64, I64, I64, I64, I64, I64] (bA r_2 0) fun (t52 : Int × Int × Int × Int × Int × Int) =>
 callF Tryz.prog 77 [(.pointer p0), (.agg #[(iv t52.1), (iv t52.2.1), (iv t52.2.2.1), (iv t52.2.2.2.1), (iv t52.2.2.2.2.1), (iv t52.2.2.2.2.2)])] [.c I64] fun (t53 : Int) =>
 Q t53))))))
theorem F37_calls (p0 : Option Addr) (p1_0 : Int) (p1_1 : Int) (p1_2 : Int) (p1_3 : Int) (Q : Int → Pr) (w : World) (h : F37 p0 p1_0 p1_1 p1_2 p1_3 Q w) : Calls Tryz.prog 37 #[(.pointer p0), (.agg #[(iv p1_0), (iv p1_1), (iv p1_2), (iv p1_3)])] w (RetT [.c I64] Q) := cF (an := an37) Tryz.func37 (by kernel_rfl) h
def an70 : An := (.sq .z (.sq (.sq .z (.br (.sq .z .z) .z)) (.sq .z (.sq .z (.sq (.sq (.jn [(28, .c .bool)] .z) (.br (.sq .z .z) .z)) (.sq .z (.sq (.jn [(5, .c (.int .i64))] (.sq (.jn [(45, .c .bool)] .z) (.br .z .z))) (.sq .z .z))))))))
def F70 (p0 : Option Addr) (Q : (Int × Int × Int × Int × Int × Int) × Int → Pr) : Pr :=
 nw (.cells #[(iv 0), (iv 0), (iv 0), (iv 0), (iv 0), (iv 0)] 61) fun r =>
 callF Tryz.prog 83 [(.pointer p0)] [.c I64] fun (t10 : Int) =>
 br (decide (t10 < 2)) (
 stB r 0 [(iv 0), (iv 0), (iv 0), (iv 0), (iv 0), (iv 0)] <|
 ldA [I64, I64, I64, I64, I64, I64] (bA r 0) fun (res : Int × Int × Int × Int × Int × Int) =>
 Q (res, 50)) (
 callF Tryz.prog 121 [(.pointer p0), (iv 0)] [.c .slice, .c I64] fun (t15 : Sl × Int) =>
 callF Tryz.prog 121 [(.pointer p0), (iv 1)] [.c .slice, .c I64] fun (t20 : Sl × Int) =>
 jn (S:=Bool) (fun R =>
 br (t15.2 != 0) (
 R true) (
 R ((t20.2 != 0)))) fun s =>
 br s (
 stB r 0 [(iv 0), (iv 0), (iv 0), (iv 0), (iv 0), (iv 0)] <|
 ldA [I64, I64, I64, I64, I64, I64] (bA r 0) fun (res_1 : Int × Int × Int × Int × Int × Int) =>
 Q (res_1, 5)) (
 callF Tryz.prog 122 [(slV t15.1), (slV t20.1)] [.agg [I64, I64, I64, I64, I64, I64], .c I64] fun (t33 : (Int × Int × Int × Int × Int × Int) × Int) =>
 nvs 61 [(iv 0), (iv 0), (iv 0), (iv 0), (iv 0), (iv 0)] [(iv t33.1.1), (iv t33.1.2.1), (iv t33.1.2.2.1), (iv t33.1.2.2.2.1), (iv t33.1.2.2.2.2.1), (iv t33.1.2.2.2.2.2)] fun r_1 =>
 jn (S:=Int) (fun R_1 =>
 jn (S:=Bool) (fun R_2 =>
 drw <|
 br (t33.2 == 0) (
 both (
 callF Tryz.prog 83 [(.pointer p0)] [.c I64] fun (t40 : Int) =>
 ldI (bA r_1 1) fun t43 =>
 R_2 ((t40 != t43))) (
 ldI (bA r_1 1) fun t43_1 =>
 callF Tryz.prog 83 [(.pointer p0)] [.c I64] fun (t40_1 : Int) =>
 R_2 ((t40_1 != t43_1)))) (
 both (
 R_2 false) (
 R_2 false))) fun s_2 =>
 br s_2 (
 R_1 50) (
 R_1 t33.2)) fun s_1 =>
 ldA [I64, I64, I64, I64, I64, I64] (bA r_1 0) fun (t46 : Int × Int × Int × Int × Int × Int) =>
 stB r 0 [(iv t46.1), (iv t46.2.1), (iv t46.2.2.1), (iv t46.2.2.2.1), (iv t46.2.2.2.2.1), (iv t46.2.2.2.2.2)] <|
 ldA [I64, I64, I64, I64, I64, I64] (bA r 0) fun (res_2 : Int × Int × Int × Int × Int × Int) =>
 Q (res_2, s_1)))
theorem F70_calls (p0 : Option Addr) (Q : (Int × Int × Int × Int × Int × Int) × Int → Pr) (w : World) (h : F70 p0 Q w) : Calls Tryz.prog 70 #[(.pointer p0)] w (RetT [.agg [I64, I64, I64, I64, I64, I64], .c I64] Q) := cF (an := an70) Tryz.func70 (by kernel_rfl) h
def an74 : An := (.sq .z (.sq .z .z))
def F74 (p0_0 : Int) (p0_1 : Int) (p0_2 : Int) (p0_3 : Int) (p0_4 : Int) (p0_5 : Int) (p1 : Int) (Q : Bool → Pr) : Pr :=
 nw (.cells #[(iv p0_0), (iv p0_1), (iv p0_2), (iv p0_3), (iv p0_4), (iv p0_5)] 38) fun r =>
 br (p1 == 2) (
 Q true) (
 ldI (bA r 1) fun t10 =>
 br (decide (p1 ≥ t10)) (
 ldI (bA r 5) fun t15 =>
 Q ((decide (p1 < t15)))) (
 Q false))
theorem F74_calls (p0_0 : Int) (p0_1 : Int) (p0_2 : Int) (p0_3 : Int) (p0_4 : Int) (p0_5 : Int) (p1 : Int) (Q : Bool → Pr) (w : World) (h : F74 p0_0 p0_1 p0_2 p0_3 p0_4 p0_5 p1 Q w) : Calls Tryz.prog 74 #[(.agg #[(iv p0_0), (iv p0_1), (iv p0_2), (iv p0_3), (iv p0_4), (iv p0_5)]), (iv p1)] w (RetT [.c .bool] Q) := cF (an := an74) Tryz.func74 (by kernel_rfl) h
def an76 : An := (.sq .z (.sq (.sq .z (.bl (.rf [.c (.int .i64)] .z (.bl (.sq .z (.sq (.sq .z (.br (.sq .z .z) .z)) (.sq .z (.sq (.sq .z (.br (.sq .z .z) .z)) (.sq (.sq .z (.br .z .z)) (.sq .z (.sq .z (.br (.sq .z .z) .z)))))))))))) (.sq .z .z)))
def F76 (p0 : Option Addr) (p1 : Sl) (Q : Int → Pr) : Pr :=
 owe (NotAgg (.pointer p0)) <| nw (.cells #[(.pointer p0)] 39) fun r =>
 owe (NotAgg (slV p1)) <| nw (.cells #[(slV p1)] 103) fun r_1 =>
 owe (NotAgg (iv 0)) <| nw (.cells #[(iv 0)] 29) fun r_2 =>
 ldS (bA r_1 0) fun t10 =>
 callF Tryz.prog 117 [(slV t10)] [.c .any] fun (t11 : Value) =>
 rngE Tryz.prog t11 [.c I64] (fun l (z : Int) bg nx lv =>
 bg (
 ldP (bA r 0) fun t14 =>
 callF Tryz.prog 121 [(.pointer t14), (iv z)] [.c .slice, .c I64] fun (t16 : Sl × Int) =>
 br (t16.2 != 0) (
 st (bA r_2 0) (iv t16.2) <|
 lv none) (
 ldS (bA r_1 0) fun t25 =>
 callF Tryz.prog 131 [(slV t16.1), (iv z), (slV t25)] [.c .slice, .c I64] fun (t26 : Sl × Int) =>
 br (t26.2 != 0) (
 st (bA r_2 0) (iv t26.2) <|
 lv none) (
 callF Tryz.prog 26 [(slV t16.1), (slV t26.1)] [.c .bool] fun (t34 : Bool) =>
 br t34 (
 nx) (
 ldP (bA r 0) fun t35 =>
 callF Tryz.prog 132 [(.pointer t35), (iv z), (slV t26.1)] [.c I64] fun (t38 : Int) =>
 br (t38 != 0) (
 st (bA r_2 0) (iv t38) <|
 lv none) (
 nx)))))) (fun D =>
 ldP (bA r 0) fun t42 =>
 callF Tryz.prog 112 [(.pointer t42)] [.c I64] fun (t43 : Int) =>
 st (bA r_2 0) (iv t43) <|
 takes [D] <|
 ldI (bA r_2 0) fun res =>
 Q res) (fun D =>
 takes [D] <|
 ldI (bA r_2 0) fun res_1 =>
 Q res_1) (fun D => [])
theorem F76_calls (p0 : Option Addr) (p1 : Sl) (Q : Int → Pr) (w : World) (h : F76 p0 p1 Q w) : Calls Tryz.prog 76 #[(.pointer p0), (slV p1)] w (RetT [.c I64] Q) := cF (an := an76) Tryz.func76 (by kernel_rfl) h
def an75 : An := (.sq .z (.sq (.jn [(9, .c .ptr), (10, .c (.int .i64))] (.rj [⟨false, [0, 5, 10], [0, 5, 6, 7, 8, 9, 10], [(9, .c .ptr), (21, .agg [(.int .i64), (.int .i64), (.int .i64), (.int .i64), (.int .i64), (.int .i64)]), (22, .c (.int .i64))]⟩])) (.sq (.sq .z (.br (.sq .z .z) .z)) (.sq .z (.sq (.jn [(10, .c (.int .i64))] (.sq (.jn [(43, .c .bool)] .z) (.br .z .z))) (.sq .z .z))))))
def F75 (p0 : Option Addr) (p1_0 : Int) (p1_1 : Int) (p1_2 : Int) (p1_3 : Int) (p1_4 : Int) (p1_5 : Int) (p2 : Int) (Q : (Int × Int × Int × Int × Int × Int) × (Option Addr) × Int → Pr) : Pr :=
 nw (.cells #[(iv p1_0), (iv p1_1), (iv p1_2), (iv p1_3), (iv p1_4), (iv p1_5)] 61) fun r =>
 nw (.cells #[(iv 0), (iv 0), (iv 0), (iv 0), (iv 0), (iv 0)] 61) fun r_1 =>
 jn (S:=(Option Addr) × Int) (fun R =>
 drw <|
 ldI (bA r 2) fun t18 =>
 jn (S:=(Option Addr) × (Int × Int × Int × Int × Int × Int) × Int) (fun R_1 =>
 both (
 ldA [I64, I64, I64, I64, I64, I64] (bA r 0) fun (t14 : Int × Int × Int × Int × Int × Int) =>
 both (
 callF Tryz.prog 130 [(iv p2), (iv t18)] [.c I64] fun (t19 : Int) =>
 both (
 callF Tryz.prog 113 [(.agg #[(iv t14.1), (iv t14.2.1), (iv t14.2.2.1), (iv t14.2.2.2.1), (iv t14.2.2.2.2.1), (iv t14.2.2.2.2.2)]), (iv t19)] [.agg [I64, I64, I64, I64, I64, I64], .c I64] fun (t20 : (Int × Int × Int × Int × Int × Int) × Int) =>
 nw (.cells #[(iv 0), (iv 0), (iv 0), (iv 0), (iv 0), (iv 0)] 61) fun r_2 =>
 R_1 ((some ⟨r_2, 0, none⟩), (t20.1.1, t20.1.2.1, t20.1.2.2.1, t20.1.2.2.2.1, t20.1.2.2.2.2.1, t20.1.2.2.2.2.2), t20.2)) (
 nw (.cells #[(iv 0), (iv 0), (iv 0), (iv 0), (iv 0), (iv 0)] 61) fun r_3 =>
 callF Tryz.prog 113 [(.agg #[(iv t14.1), (iv t14.2.1), (iv t14.2.2.1), (iv t14.2.2.2.1), (iv t14.2.2.2.2.1), (iv t14.2.2.2.2.2)]), (iv t19)] [.agg [I64, I64, I64, I64, I64, I64], .c I64] fun (t20_1 : (Int × Int × Int × Int × Int × Int) × Int) =>
 R_1 ((some ⟨r_3, 0, none⟩), (t20_1.1.1, t20_1.1.2.1, t20_1.1.2.2.1, t20_1.1.2.2.2.1, t20_1.1.2.2.2.2.1, t20_1.1.2.2.2.2.2), t20_1.2))) (
 nw (.cells #[(iv 0), (iv 0), (iv 0), (iv 0), (iv 0), (iv 0)] 61) fun r_4 =>
 callF Tryz.prog 130 [(iv p2), (iv t18)] [.c I64] fun (t19_1 : Int) =>
 callF Tryz.prog 113 [(.agg #[(iv t14.1), (iv t14.2.1), (iv t14.2.2.1), (iv t14.2.2.2.1), (iv t14.2.2.2.2.1), (iv t14.2.2.2.2.2)]), (iv t19_1)] [.agg [I64, I64, I64, I64, I64, I64], .c I64] fun (t20_2 : (Int × Int × Int × Int × Int × Int) × Int) =>
 R_1 ((some ⟨r_4, 0, none⟩), (t20_2.1.1, t20_2.1.2.1, t20_2.1.2.2.1, t20_2.1.2.2.2.1, t20_2.1.2.2.2.2.1, t20_2.1.2.2.2.2.2), t20_2.2))) (
 both (
 callF Tryz.prog 130 [(iv p2), (iv t18)] [.c I64] fun (t19_2 : Int) =>
 ldA [I64, I64, I64, I64, I64, I64] (bA r 0) fun (t14_1 : Int × Int × Int × Int × Int × Int) =>
 both (
 callF Tryz.prog 113 [(.agg #[(iv t14_1.1), (iv t14_1.2.1), (iv t14_1.2.2.1), (iv t14_1.2.2.2.1), (iv t14_1.2.2.2.2.1), (iv t14_1.2.2.2.2.2)]), (iv t19_2)] [.agg [I64, I64, I64, I64, I64, I64], .c I64] fun (t20_3 : (Int × Int × Int × Int × Int × Int) × Int) =>
 nw (.cells #[(iv 0), (iv 0), (iv 0), (iv 0), (iv 0), (iv 0)] 61) fun r_5 =>
 R_1 ((some ⟨r_5, 0, none⟩), (t20_3.1.1, t20_3.1.2.1, t20_3.1.2.2.1, t20_3.1.2.2.2.1, t20_3.1.2.2.2.2.1, t20_3.1.2.2.2.2.2), t20_3.2)) (
 nw (.cells #[(iv 0), (iv 0), (iv 0), (iv 0), (iv 0), (iv 0)] 61) fun r_6 =>
 callF Tryz.prog 113 [(.agg #[(iv t14_1.1), (iv t14_1.2.1), (iv t14_1.2.2.1), (iv t14_1.2.2.2.1), (iv t14_1.2.2.2.2.1), (iv t14_1.2.2.2.2.2)]), (iv t19_2)] [.agg [I64, I64, I64, I64, I64, I64], .c I64] fun (t20_4 : (Int × Int × Int × Int × Int × Int) × Int) =>
 R_1 ((some ⟨r_6, 0, none⟩), (t20_4.1.1, t20_4.1.2.1, t20_4.1.2.2.1, t20_4.1.2.2.2.1, t20_4.1.2.2.2.2.1, t20_4.1.2.2.2.2.2), t20_4.2))) (
 nw (.cells #[(iv 0), (iv 0), (iv 0), (iv 0), (iv 0), (iv 0)] 61) fun r_7 =>
 both (
 ldA [I64, I64, I64, I64, I64, I64] (bA r 0) fun (t14_2 : Int × Int × Int × Int × Int × Int) =>
 callF Tryz.prog 130 [(iv p2), (iv t18)] [.c I64] fun (t19_3 : Int) =>
 callF Tryz.prog 113 [(.agg #[(iv t14_2.1), (iv t14_2.2.1), (iv t14_2.2.2.1), (iv t14_2.2.2.2.1), (iv t14_2.2.2.2.2.1), (iv t14_2.2.2.2.2.2)]), (iv t19_3)] [.agg [I64, I64, I64, I64, I64, I64], .c I64] fun (t20_5 : (Int × Int × Int × Int × Int × Int) × Int) =>
 R_1 ((some ⟨r_7, 0, none⟩), (t20_5.1.1, t20_5.1.2.1, t20_5.1.2.2.1, t20_5.1.2.2.2.1, t20_5.1.2.2.2.2.1, t20_5.1.2.2.2.2.2), t20_5.2)) (
 callF Tryz.prog 130 [(iv p2), (iv t18)] [.c I64] fun (t19_4 : Int) =>
 ldA [I64, I64, I64, I64, I64, I64] (bA r 0) fun (t14_3 : Int × Int × Int × Int × Int × Int) =>
 callF Tryz.prog 113 [(.agg #[(iv t14_3.1), (iv t14_3.2.1), (iv t14_3.2.2.1), (iv t14_3.2.2.2.1), (iv t14_3.2.2.2.2.1), (iv t14_3.2.2.2.2.2)]), (iv t19_4)] [.agg [I64, I64, I64, I64, I64, I64], .c I64] fun (t20_6 : (Int × Int × Int × Int × Int × Int) × Int) =>
 R_1 ((some ⟨r_7, 0, none⟩), (t20_6.1.1, t20_6.1.2.1, t20_6.1.2.2.1, t20_6.1.2.2.2.1, t20_6.1.2.2.2.2.1, t20_6.1.2.2.2.2.2), t20_6.2))))) fun s_1 =>
 deref s_1.1 fun a_7 =>
 st (a_7.add 0) (iv s_1.2.1.1) <|
 st (a_7.add 1) (iv s_1.2.1.2.1) <|
 st (a_7.add 2) (iv s_1.2.1.2.2.1) <|
 st (a_7.add 3) (iv s_1.2.1.2.2.2.1) <|
 st (a_7.add 4) (iv s_1.2.1.2.2.2.2.1) <|
 st (a_7.add 5) (iv s_1.2.1.2.2.2.2.2) <|
 R (s_1.1, s_1.2.2)) fun s =>
 br (s.2 != 0) (
 deref s.1 fun a_8 =>
 ldA [I64, I64, I64, I64, I64, I64] a_8 fun (t25 : Int × Int × Int × Int × Int × Int) =>
 stB r_1 0 [(iv t25.1), (iv t25.2.1), (iv t25.2.2.1), (iv t25.2.2.2.1), (iv t25.2.2.2.2.1), (iv t25.2.2.2.2.2)] <|
 ldA [I64, I64, I64, I64, I64, I64] (bA r_1 0) fun (res : Int × Int × Int × Int × Int × Int) =>
 Q (res, none, 6)) (
 ldI (bA r 2) fun t30 =>
 deref s.1 fun a_14 =>
 ldI (a_14.add 5) fun t32 =>
 callF Tryz.prog 72 [(.pointer p0), (iv 3), (iv t30), (iv t32)] [.c .ptr, .c .slice, .c I64] fun (t33 : (Option Addr) × Sl × Int) =>
 jn (S:=Int) (fun R_2 =>
 jn (S:=Bool) (fun R_3 =>
 br (t33.2.2 == 0) (
 R_3 ((decide ((t33.2.1.len : Int) > 0)))) (
 R_3 false)) fun s_3 =>
 br s_3 (
 R_2 50) (
 R_2 t33.2.2)) fun s_2 =>
 deref s.1 fun a_16 =>
 ldA [I64, I64, I64, I64, I64, I64] a_16 fun (t44 : Int × Int × Int × Int × Int × Int) =>
 stB r_1 0 [(iv t44.1), (iv t44.2.1), (iv t44.2.2.1), (iv t44.2.2.2.1), (iv t44.2.2.2.2.1), (iv t44.2.2.2.2.2)] <|
 ldA [I64, I64, I64, I64, I64, I64] (bA r_1 0) fun (res_1 : Int × Int × Int × Int × Int × Int) =>
 Q (res_1, t33.1, s_2))
theorem F75_calls (p0 : Option Addr) (p1_0 : Int) (p1_1 : Int) (p1_2 : Int) (p1_3 : Int) (p1_4 : Int) (p1_5 : Int) (p2 : Int) (Q : (Int × Int × Int × Int × Int × Int) × (Option Addr) × Int → Pr) (w : World) (h : F75 p0 p1_0 p1_1 p1_2 p1_3 p1_4 p1_5 p2 Q w) : Calls Tryz.prog 75 #[(.pointer p0), (.agg #[(iv p1_0), (iv p1_1), (iv p1_2), (iv p1_3), (iv p1_4), (iv p1_5)]), (iv p2)] w (RetT [.agg [I64, I64, I64, I64, I64, I64], .c .ptr, .c I64] Q) := cF (an := an75) Tryz.func75 (by kernel_rfl) h
def an24 : An := (.sq .z (.sq (.sq .z (.sq .z (.br (.sq .z .z) .z))) (.sq .z (.sq (.sq .z (.br (.sq .z .z) .z)) (.sq .z (.sq (.sq .z (.br (.sq .z .z) .z)) (.sq .z (.sq (.sq .z (.br (.sq .z .z) .z)) (.sq .z (.sq (.sq .z (.bl (.lp [(58, .c (.int .i64))] (.sq .z (.sq (.br .z .z) (.sq (.bl (.sq .z (.sq .z (.br (.sq .z .z) .z)))) .z)))))) (.sq (.jn [(6, .c (.int .i64)), (8, .c .ptr), (12, .c .ptr)] (.rj [⟨false, [1, 3, 9], [1, 3, 4, 5, 6, 7, 8, 9], [(12, .c .ptr), (74, .agg [(.int .i64), (.int .i64), (.int .i64), (.int .i64), (.int .i64), (.int .i64)]), (75, .c .ptr), (76, .c (.int .i64))]⟩])) (.sq (.sq .z (.br (.sq .z .z) .z)) (.sq (.sq .z (.sq .z (.br (.sq .z .z) .z))) (.sq (.sq .z (.sq .z (.br (.sq .z .z) .z))) (.sq .z (.sq (.sq .z (.br (.sq .z .z) .z)) (.sq .z .z)))))))))))))))))
def F24 (p0 : Option Addr) (Q : (Option Addr) × Int → Pr) : Pr :=
 callF Tryz.prog 69 [(.pointer p0)] [.c I64] fun (t17 : Int) =>
 br (t17 != 0) (
 Q (none, t17)) (
 callF Tryz.prog 70 [(.pointer p0)] [.agg [I64, I64, I64, I64, I64, I64], .c I64] fun (t23 : (Int × Int × Int × Int × Int × Int) × Int) =>
 nvs 61 [(iv 0), (iv 0), (iv 0), (iv 0), (iv 0), (iv 0)] [(iv t23.1.1), (iv t23.1.2.1), (iv t23.1.2.2.1), (iv t23.1.2.2.2.1), (iv t23.1.2.2.2.2.1), (iv t23.1.2.2.2.2.2)] fun r =>
 br (t23.2 != 0) (
 Q (none, t23.2)) (
 ldA [I64, I64, I64, I64] (bA r 1) fun (t31 : Int × Int × Int × Int) =>
 callF Tryz.prog 71 [(.agg #[(iv t31.1), (iv t31.2.1), (iv t31.2.2.1), (iv t31.2.2.2)])] [.agg [I64, I64, I64, I64, I64, I64], .c I64] fun (t32 : (Int × Int × Int × Int × Int × Int) × Int) =>
 nvs 38 [(iv 0), (iv 0), (iv 0), (iv 0), (iv 0), (iv 0)] [(iv t32.1.1), (iv t32.1.2.1), (iv t32.1.2.2.1), (iv t32.1.2.2.2.1), (iv t32.1.2.2.2.2.1), (iv t32.1.2.2.2.2.2)] fun r_1 =>
 br (t32.2 != 0) (
 Q (none, 50)) (
 ldI (bA r 2) fun t41 =>
 ldI (bA r 5) fun t43 =>
 callF Tryz.prog 72 [(.pointer p0), (iv 3), (iv t41), (iv t43)] [.c .ptr, .c .slice, .c I64] fun (t44 : (Option Addr) × Sl × Int) =>
 br (t44.2.2 != 0) (
 Q (none, t44.2.2)) (
 callF Tryz.prog 73 [(slV t44.2.1)] [.c .slice, .c I64] fun (t53 : Sl × Int) =>
 loopE (S:=Int) (fun X s =>
 br (decide (s < (t53.1.len : Int))) (
 el t53.1 s 5 fun a_9 =>
 ldA [I64, I64, I64, .slice, I64] a_9 fun (t61 : Int × Int × Int × Sl × Int) =>
 nvs 109 [(iv 0), (iv 0), (iv 0), (.slice none 0 0), (iv 0)] [(iv t61.1), (iv t61.2.1), (iv t61.2.2.1), (slV t61.2.2.2.1), (iv t61.2.2.2.2)] fun r_2 =>
 ldA [I64, I64, I64, I64, I64, I64] (bA r_1 0) fun (t62 : Int × Int × Int × Int × Int × Int) =>
 ldI (bA r_2 1) fun t64 =>
 callF Tryz.prog 74 [(.agg #[(iv t62.1), (iv t62.2.1), (iv t62.2.2.1), (iv t62.2.2.2.1), (iv t62.2.2.2.2.1), (iv t62.2.2.2.2.2)]), (iv t64)] [.c .bool] fun (t65 : Bool) =>
 br (!t65) (
 Q (none, 50)) (
 X ((w64 (s + 1))))) (
 jn (S:=Int × (Option Addr) × Option Addr) (fun R =>
 drw <|
 jn (S:=(Option Addr) × (Int × Int × Int × Int × Int × Int) × (Option Addr) × Int) (fun R_1 =>
 both (
 ldA [I64, I64, I64, I64, I64, I64] (bA r 0) fun (t70 : Int × Int × Int × Int × Int × Int) =>
 both (
 callF Tryz.prog 57 [(.pointer t44.1)] [.c I64] fun (t72 : Int) =>
 both (
 callF Tryz.prog 75 [(.pointer p0), (.agg #[(iv t70.1), (iv t70.2.1), (iv t70.2.2.1), (iv t70.2.2.2.1), (iv t70.2.2.2.2.1), (iv t70.2.2.2.2.2)]), (iv t72)] [.agg [I64, I64, I64, I64, I64, I64], .c .ptr, .c I64] fun (t73 : (Int × Int × Int × Int × Int × Int) × (Option Addr) × Int) =>
 nw (.cells #[(iv 0), (iv 0), (iv 0), (iv 0), (iv 0), (iv 0)] 61) fun r_3 =>
 R_1 ((some ⟨r_3, 0, none⟩), (t73.1.1, t73.1.2.1, t73.1.2.2.1, t73.1.2.2.2.1, t73.1.2.2.2.2.1, t73.1.2.2.2.2.2), t73.2.1, t73.2.2)) (
 nw (.cells #[(iv 0), (iv 0), (iv 0), (iv 0), (iv 0), (iv 0)] 61) fun r_4 =>
 callF Tryz.prog 75 [(.pointer p0), (.agg #[(iv t70.1), (iv t70.2.1), (iv t70.2.2.1), (iv t70.2.2.2.1), (iv t70.2.2.2.2.1), (iv t70.2.2.2.2.2)]), (iv t72)] [.agg [I64, I64, I64, I64, I64, I64], .c .ptr, .c I64] fun (t73_1 : (Int × Int × Int × Int × Int × Int) × (Option Addr) × Int) =>
 R_1 ((some ⟨r_4, 0, none⟩), (t73_1.1.1, t73_1.1.2.1, t73_1.1.2.2.1, t73_1.1.2.2.2.1, t73_1.1.2.2.2.2.1, t73_1.1.2.2.2.2.2), t73_1.2.1, t73_1.2.2))) (
 nw (.cells #[(iv 0), (iv 0), (iv 0), (iv 0), (iv 0), (iv 0)] 61) fun r_5 =>
 callF Tryz.prog 57 [(.pointer t44.1)] [.c I64] fun (t72_1 : Int) =>
 callF Tryz.prog 75 [(.pointer p0), (.agg #[(iv t70.1), (iv t70.2.1), (iv t70.2.2.1), (iv t70.2.2.2.1), (iv t70.2.2.2.2.1), (iv t70.2.2.2.2.2)]), (iv t72_1)] [.agg [I64, I64, I64, I64, I64, I64], .c .ptr, .c I64] fun (t73_2 : (Int × Int × Int × Int × Int × Int) × (Option Addr) × Int) =>
 R_1 ((some ⟨r_5, 0, none⟩), (t73_2.1.1, t73_2.1.2.1, t73_2.1.2.2.1, t73_2.1.2.2.2.1, t73_2.1.2.2.2.2.1, t73_2.1.2.2.2.2.2), t73_2.2.1, t73_2.2.2))) (
 both (
 callF Tryz.prog 57 [(.pointer t44.1)] [.c I64] fun (t72_2 : Int) =>
 ldA [I64, I64, I64, I64, I64, I64] (bA r 0) fun (t70_1 : Int × Int × Int × Int × Int × Int) =>
 both (
 callF Tryz.prog 75 [(.pointer p0), (.agg #[(iv t70_1.1), (iv t70_1.2.1), (iv t70_1.2.2.1), (iv t70_1.2.2.2.1), (iv t70_1.2.2.2.2.1), (iv t70_1.2.2.2.2.2)]), (iv t72_2)] [.agg [I64, I64, I64, I64, I64, I64], .c .ptr, .c I64] fun (t73_3 : (Int × Int × Int × Int × Int × Int) × (Option Addr) × Int) =>
 nw (.cells #[(iv 0), (iv 0), (iv 0), (iv 0), (iv 0), (iv 0)] 61) fun r_6 =>
 R_1 ((some ⟨r_6, 0, none⟩), (t73_3.1.1, t73_3.1.2.1, t73_3.1.2.2.1, t73_3.1.2.2.2.1, t73_3.1.2.2.2.2.1, t73_3.1.2.2.2.2.2), t73_3.2.1, t73_3.2.2)) (
 nw (.cells #[(iv 0), (iv 0), (iv 0), (iv 0), (iv 0), (iv 0)] 61) fun r_7 =>
 callF Tryz.prog 75 [(.pointer p0), (.agg #[(iv t70_1.1), (iv t70_1.2.1), (iv t70_1.2.2.1), (iv t70_1.2.2.2.1), (iv t70_1.2.2.2.2.1), (iv t70_1.2.2.2.2.2)]), (iv t72_2)] [.agg [I64, I64, I64, I64, I64, I64], .c .ptr, .c I64] fun (t73_4 : (Int × Int × Int × Int × Int × Int) × (Option Addr) × Int) =>
 R_1 ((some ⟨r_7, 0, none⟩), (t73_4.1.1, t73_4.1.2.1, t73_4.1.2.2.1, t73_4.1.2.2.2.1, t73_4.1.2.2.2.2.1, t73_4.1.2.2.2.2.2), t73_4.2.1, t73_4.2.2))) (
 nw (.cells #[(iv 0), (iv 0), (iv 0), (iv 0), (iv 0), (iv 0)] 61) fun r_8 =>
 both (
 ldA [I64, I64, I64, I64, I64, I64] (bA r 0) fun (t70_2 : Int × Int × Int × Int × Int × Int) =>
 callF Tryz.prog 57 [(.pointer t44.1)] [.c I64] fun (t72_3 : Int) =>
 callF Tryz.prog 75 [(.pointer p0), (.agg #[(iv t70_2.1), (iv t70_2.2.1), (iv t70_2.2.2.1), (iv t70_2.2.2.2.1), (iv t70_2.2.2.2.2.1), (iv t70_2.2.2.2.2.2)]), (iv t72_3)] [.agg [I64, I64, I64, I64, I64, I64], .c .ptr, .c I64] fun (t73_5 : (Int × Int × Int × Int × Int × Int) × (Option Addr) × Int) =>
 R_1 ((some ⟨r_8, 0, none⟩), (t73_5.1.1, t73_5.1.2.1, t73_5.1.2.2.1, t73_5.1.2.2.2.1, t73_5.1.2.2.2.2.1, t73_5.1.2.2.2.2.2), t73_5.2.1, t73_5.2.2)) (
 callF Tryz.prog 57 [(.pointer t44.1)] [.c I64] fun (t72_4 : Int) =>
 ldA [I64, I64, I64, I64, I64, I64] (bA r 0) fun (t70_3 : Int × Int × Int × Int × Int × Int) =>
 callF Tryz.prog 75 [(.pointer p0), (.agg #[(iv t70_3.1), (iv t70_3.2.1), (iv t70_3.2.2.1), (iv t70_3.2.2.2.1), (iv t70_3.2.2.2.2.1), (iv t70_3.2.2.2.2.2)]), (iv t72_4)] [.agg [I64, I64, I64, I64, I64, I64], .c .ptr, .c I64] fun (t73_6 : (Int × Int × Int × Int × Int × Int) × (Option Addr) × Int) =>
 R_1 ((some ⟨r_8, 0, none⟩), (t73_6.1.1, t73_6.1.2.1, t73_6.1.2.2.1, t73_6.1.2.2.2.1, t73_6.1.2.2.2.2.1, t73_6.1.2.2.2.2.2), t73_6.2.1, t73_6.2.2))))) fun s_2 =>
 deref s_2.1 fun a_19 =>
 st (a_19.add 0) (iv s_2.2.1.1) <|
 st (a_19.add 1) (iv s_2.2.1.2.1) <|
 st (a_19.add 2) (iv s_2.2.1.2.2.1) <|
 st (a_19.add 3) (iv s_2.2.1.2.2.2.1) <|
 st (a_19.add 4) (iv s_2.2.1.2.2.2.2.1) <|
 st (a_19.add 5) (iv s_2.2.1.2.2.2.2.2) <|
 R (s_2.2.2.2, s_2.2.2.1, s_2.1)) fun s_1 =>
 br (s_1.1 != 0) (
 Q (none, s_1.1)) (
 callF Tryz.prog 76 [(.pointer p0), (slV t53.1)] [.c I64] fun (t82 : Int) =>
 br (t82 != 0) (
 Q (none, t82)) (
 deref s_1.2.2 fun a_20 =>
 ldA [I64, I64, I64, I64, I64, I64] a_20 fun (t87 : Int × Int × Int × Int × Int × Int) =>
 callF Tryz.prog 77 [(.pointer p0), (.agg #[(iv t87.1), (iv t87.2.1), (iv t87.2.2.1), (iv t87.2.2.2.1), (iv t87.2.2.2.2.1), (iv t87.2.2.2.2.2)])] [.c I64] fun (t88 : Int) =>
 br (t88 != 0) (
 Q (none, t88)) (
 callF Tryz.prog 78 [(.pointer p0), (iv 256)] [.c .ptr, .c I64] fun (t94 : (Option Addr) × Int) =>
 br (t94.2 != 0) (
 Q (none, t94.2)) (
 nw (.cells #[(.pointer s_1.2.1), (.pointer t94.1)] 102) fun r_9 =>
 deref s_1.2.2 fun a_21 =>
 ldA [I64, I64, I64, I64, I64, I64] a_21 fun (t105 : Int × Int × Int × Int × Int × Int) =>
 ldA [I64, I64, I64, I64, I64, I64] (bA r_1 0) fun (t106 : Int × Int × Int × Int × Int × Int) =>
 nw (.map #[] 0) fun r_10 =>
 nw (.cells #[(.pointer (some ⟨r_9, 0, none⟩)), (.pointer p0), (iv t105.1), (iv t105.2.1), (iv t105.2.2.1), (iv t105.2.2.2.1), (iv t105.2.2.2.2.1), (iv t105.2.2.2.2.2), (iv t106.1), (iv t106.2.1), (iv t106.2.2.1), (iv t106.2.2.2.1), (iv t106.2.2.2.2.1), (iv t106.2.2.2.2.2), (.bool false), (.bool false), (.map (some r_10))] 64) fun r_11 =>
 Q ((some ⟨r_11, 0, none⟩), 0))))))) 0))))
theorem F24_calls (p0 : Option Addr) (Q : (Option Addr) × Int → Pr) (w : World) (h : F24 p0 Q w) : Calls Tryz.prog 24 #[(.pointer p0)] w (RetT [.c .ptr, .c I64] Q) := cF (an := an24) Tryz.func24 (by kernel_rfl) h
def an56 : An := (.sq .z (.sq .z .z))
def F56 (p0 : Option Addr) (Q : Bool → Pr) : Pr :=
 owe True <|
 br (Option.isNone p0) (
 Q true) (
 deref p0 fun a =>
 ldP (a.add 0) fun t9 =>
 owe True <|
 Q ((Option.isNone t9)))
theorem F56_calls (p0 : Option Addr) (Q : Bool → Pr) (w : World) (h : F56 p0 Q w) : Calls Tryz.prog 56 #[(.pointer p0)] w (RetT [.c .bool] Q) := cF (an := an56) Tryz.func56 (by kernel_rfl) h
def an59 : An := (.sq .z (.sq (.bl (.sq .z (.br (.sq .z .z) (.sq (.jn [(6, .c .bool)] .z) (.br (.sq .z (.sq .z .z)) .z))))) (.sq .z .z)))
def F59 (p0 : Option Addr) (Q : Int → Pr) : Pr :=
 callF Tryz.prog 56 [(.pointer p0)] [.c .bool] fun (t5 : Bool) =>
 br t5 (
 Q 2) (
 jn (S:=Bool) (fun R =>
 deref p0 fun a =>
 ldB (a.add 15) fun t10 =>
 br t10 (
 R true) (
 deref p0 fun a_3 =>
 ldP (a_3.add 1) fun t15 =>
 callF Tryz.prog 53 [(.pointer t15)] [.c .bool] fun (t16 : Bool) =>
 R (!t16))) fun s =>
 br s (
 deref p0 fun a_6 =>
 st (a_6.add 15) (.bool true) <|
 Q 5) (
 Q 0))
theorem F59_calls (p0 : Option Addr) (Q : Int → Pr) (w : World) (h : F59 p0 Q w) : Calls Tryz.prog 59 #[(.pointer p0)] w (RetT [.c I64] Q) := cF (an := an59) Tryz.func59 (by kernel_rfl) h
def an109 : An := (.sq .z (.sq (.sq .z (.br .z .z)) (.sq .z .z)))
def F109 (p0 : Option Addr) (p1 : Int) (Q : Int → Pr) : Pr :=
 br (p1 == 5) (
 deref p0 fun a =>
 st (a.add 15) (.bool true) <|
 Q p1) (
 Q p1)
theorem F109_calls (p0 : Option Addr) (p1 : Int) (Q : Int → Pr) (w : World) (h : F109 p0 p1 Q w) : Calls Tryz.prog 109 #[(.pointer p0), (iv p1)] w (RetT [.c I64] Q) := cF (an := an109) Tryz.func109 (by kernel_rfl) h
def an28 : An := (.sq .z (.sq (.sq .z (.sq .z (.br (.sq .z .z) .z))) (.sq (.sq .z (.br (.sq .z .z) .z)) (.sq .z (.sq .z .z)))))
def F28 (p0 : Option Addr) (Q : Int → Pr) : Pr :=
 callF Tryz.prog 59 [(.pointer p0)] [.c I64] fun (t5 : Int) =>
 br (t5 != 0) (
 Q t5) (
 deref p0 fun a =>
 ldB (a.add 14) fun t12 =>
 br t12 (
 Q 7) (
 deref p0 fun a_3 =>
 st (a_3.add 14) (.bool true) <|
 Q 0))
theorem F28_calls (p0 : Option Addr) (Q : Int → Pr) (w : World) (h : F28 p0 Q w) : Calls Tryz.prog 28 #[(.pointer p0)] w (RetT [.c I64] Q) := cF (an := an28) Tryz.func28 (by kernel_rfl) h
def an60 : An := (.sq .z (.sq .z (.bl (.lp [] (.sq .z (.sq (.br .z .z) (.bl (.sq .z .z))))))))
def F60 (p0 : Option Addr) (Q : Unit → Pr) : Pr :=
 deref p0 fun a =>
 st (a.add 14) (.bool false) <|
 deref p0 fun a_3 =>
 ldM (a_3.add 16) fun t9 =>
 mrange t9 fun it =>
 loopE (S:=Unit) (fun X s =>
 mnext (bA it 0) (
 Q ()) fun en =>
 mentry (bA it 0) fun en_1 =>
 sayC I64 en_1.key fun (key : Int) =>
 deref p0 fun a_8 =>
 ldM (a_8.add 16) fun t18 =>
 mapDel (.int .i64) t18 (iv key) <|
 X ()) ()
theorem F60_deferred (p0 : Option Addr) (u : FrameMode) (Q : Unit → Pr) (w : World) (h : F60 p0 Q w) : CallsDIn (wf none) 0 Tryz.prog 60 #[(.pointer p0)] u w (fun e u' w' => u' = u ∧ RetT [] Q e w') :=
 deferred_of_compile (an := an60) (args := [(.pointer p0)]) (shs := []) Tryz.func60 (by
   have e : compileS Tryz.prog Tryz.f60 an60 [(.pointer p0)] [] Q = F60 p0 Q := by kernel_rfl
   rw [e]; exact h)
def an80 : An := (.sq .z (.sq .z .z))
def F80 (p0 : Option Addr) (p1 : Int) (p2 : Int) (p3 : Int) (Q : Bool → Pr) : Pr :=
 deref p0 fun a =>
 ldA [I64, I64, I64, I64, I64, I64] (a.add 8) fun (t12 : Int × Int × Int × Int × Int × Int) =>
 callF Tryz.prog 74 [(.agg #[(iv t12.1), (iv t12.2.1), (iv t12.2.2.1), (iv t12.2.2.2.1), (iv t12.2.2.2.2.1), (iv t12.2.2.2.2.2)]), (iv p1)] [.c .bool] fun (t14 : Bool) =>
 br t14 (
 br (decide (p2 ≥ 0)) (
 br (decide (p2 ≤ 256)) (
 br (decide (p3 ≥ 0)) (
 Q ((decide (p3 ≤ (w64 (256 - p2)))))) (
 Q false)) (
 Q false)) (
 Q false)) (
 Q false)
theorem F80_calls (p0 : Option Addr) (p1 : Int) (p2 : Int) (p3 : Int) (Q : Bool → Pr) (w : World) (h : F80 p0 p1 p2 p3 Q w) : Calls Tryz.prog 80 #[(.pointer p0), (iv p1), (iv p2), (iv p3)] w (RetT [.c .bool] Q) := cF (an := an80) Tryz.func80 (by kernel_rfl) h
def an81 : An := (.sq .z (.sq (.sq .z (.sq .z (.br (.sq .z .z) .z))) (.sq .z (.sq .z .z))))
def F81 (p0 : Option Addr) (p1 : Int) (Q : Sl × Int → Pr) : Pr :=
 deref p0 fun a =>
 ldM (a.add 16) fun t14 =>
 mapAt (.int .i64) t14 (iv p1) .slice (.slice none 0 0) fun (t16 : Sl) (t16ok : Bool) =>
 br t16ok (
 Q (t16, 0)) (
 deref p0 fun a_3 =>
 ldP (a_3.add 0) fun t25 =>
 deref t25 fun a_6 =>
 ldP (a_6.add 1) fun t28 =>
 callF Tryz.prog 108 [(.pointer t28), (iv p1)] [.c .slice, .c I64] fun (t30 : Sl × Int) =>
 callF Tryz.prog 109 [(.pointer p0), (iv t30.2)] [.c I64] fun (t36 : Int) =>
 Q (t30.1, t36))
theorem F81_calls (p0 : Option Addr) (p1 : Int) (Q : Sl × Int → Pr) (w : World) (h : F81 p0 p1 Q w) : Calls Tryz.prog 81 #[(.pointer p0), (iv p1)] w (RetT [.c .slice, .c I64] Q) := cF (an := an81) Tryz.func81 (by kernel_rfl) h
def an27 : An := (.sq .z (.sq (.sq .z (.sq .z (.br (.sq .z .z) .z))) (.sq (.sq .z (.br (.sq .z .z) .z)) (.sq .z (.sq (.sq .z (.br (.sq .z .z) .z)) (.sq .z .z))))))
def F27 (p0 : Option Addr) (p1 : Int) (p2 : Int) (p3 : Int) (Q : Sl × Int → Pr) : Pr :=
 callF Tryz.prog 59 [(.pointer p0)] [.c I64] fun (t14 : Int) =>
 br (t14 != 0) (
 Q (⟨none, 0, 0⟩, t14)) (
 callF Tryz.prog 80 [(.pointer p0), (iv p1), (iv p2), (iv p3)] [.c .bool] fun (t22 : Bool) =>
 br (!t22) (
 Q (⟨none, 0, 0⟩, 1)) (
 callF Tryz.prog 81 [(.pointer p0), (iv p1)] [.c .slice, .c I64] fun (t27 : Sl × Int) =>
 br (t27.2 != 0) (
 Q (⟨none, 0, 0⟩, t27.2)) (
 slc 1 t27.1 (some p2) (some (w64 (p2 + p3))) none fun t38 =>
 callF Tryz.prog 82 [(slV t38)] [.c .slice] fun (t39 : Sl) =>
 Q (t39, 0))))
theorem F27_calls (p0 : Option Addr) (p1 : Int) (p2 : Int) (p3 : Int) (Q : Sl × Int → Pr) (w : World) (h : F27 p0 p1 p2 p3 Q w) : Calls Tryz.prog 27 #[(.pointer p0), (iv p1), (iv p2), (iv p3)] w (RetT [.c .slice, .c I64] Q) := cF (an := an27) Tryz.func27 (by kernel_rfl) h
def an31 : An := (.sq .z (.sq (.sq .z (.sq .z (.br (.sq .z .z) .z))) (.sq (.bl (.sq .z (.br (.sq .z .z) (.sq .z (.br (.sq .z .z) (.sq .z (.br (.sq .z .z) .z))))))) (.sq .z (.sq (.sq .z (.br (.sq .z .z) .z)) (.sq .z (.sq .z (.sq .z (.sq .z .z)))))))))
def F31 (p0 : Option Addr) (p1 : Int) (p2 : Int) (p3 : Sl) (Q : Int → Pr) : Pr :=
 callF Tryz.prog 59 [(.pointer p0)] [.c I64] fun (t14 : Int) =>
 br (t14 != 0) (
 Q t14) (
 deref p0 fun a =>
 ldB (a.add 14) fun t22 =>
 br (!t22) (
 Q 100) (
 callF Tryz.prog 80 [(.pointer p0), (iv p1), (iv p2), (iv (p3.len : Int))] [.c .bool] fun (t30 : Bool) =>
 br (!t30) (
 Q 1) (
 br ((p3.len : Int) == 0) (
 Q 0) (
 callF Tryz.prog 81 [(.pointer p0), (iv p1)] [.c .slice, .c I64] fun (t39 : Sl × Int) =>
 br (t39.2 != 0) (
 Q t39.2) (
 callF Tryz.prog 82 [(slV t39.1)] [.c .slice] fun (t46 : Sl) =>
 slc 1 t46 (some p2) none none fun t49 =>
 cpy 1 t49 p3 <|
 deref p0 fun a_3 =>
 ldM (a_3.add 16) fun t55 =>
 mapPut (.int .i64) t55 (iv p1) (slV t46) <|
 Q 0)))))
theorem F31_calls (p0 : Option Addr) (p1 : Int) (p2 : Int) (p3 : Sl) (Q : Int → Pr) (w : World) (h : F31 p0 p1 p2 p3 Q w) : Calls Tryz.prog 31 #[(.pointer p0), (iv p1), (iv p2), (slV p3)] w (RetT [.c I64] Q) := cF (an := an31) Tryz.func31 (by kernel_rfl) h
def an55 : An := (.sq .z (.sq (.sq (.jn [(11, .c .bool)] .z) (.br (.sq .z .z) .z)) (.sq .z .z)))
def F55 (p0 : Option Addr) (Q : Sl → Pr) : Pr :=
 jn (S:=Bool) (fun R =>
 callF Tryz.prog 56 [(.pointer p0)] [.c .bool] fun (t4 : Bool) =>
 br t4 (
 R true) (
 deref p0 fun a =>
 ldB (a.add 14) fun t9 =>
 R (!t9))) fun s =>
 br s (
 Q (⟨none, 0, 0⟩)) (
 deref p0 fun a_3 =>
 ldM (a_3.add 16) fun t15 =>
 callF Tryz.prog 106 [(.map t15)] [.c .any] fun (t16 : Value) =>
 callF Tryz.prog 105 [t16] [.c .slice] fun (t17 : Sl) =>
 Q t17)
theorem F55_calls (p0 : Option Addr) (Q : Sl → Pr) (w : World) (h : F55 p0 Q w) : Calls Tryz.prog 55 #[(.pointer p0)] w (RetT [.c .slice] Q) := cF (an := an55) Tryz.func55 (by kernel_rfl) h
def an61 : An := (.sq .z (.sq .z (.sq (.sq .z (.bl (.lp [(4, .c .slice), (13, .c (.int .i64))] (.sq .z (.sq (.br .z .z) (.sq (.bl (.sq .z (.sq .z (.sq (.sq .z (.br (.sq .z .z) .z)) (.sq .z (.sq (.sq .z (.br (.sq .z .z) .z)) .z)))))) .z)))))) (.sq .z .z))))
def F61 (p0 : Option Addr) (Q : Sl × Int → Pr) : Pr :=
 callF Tryz.prog 55 [(.pointer p0)] [.c .slice] fun (t11 : Sl) =>
 loopE (S:=Sl × Int) (fun X s =>
 br (decide (s.2 < (t11.len : Int))) (
 el t11 s.2 1 fun a =>
 ldI a fun t16 =>
 deref p0 fun a_2 =>
 ldP (a_2.add 0) fun t21 =>
 deref t21 fun a_5 =>
 ldP (a_5.add 1) fun t24 =>
 callF Tryz.prog 108 [(.pointer t24), (iv t16)] [.c .slice, .c I64] fun (t26 : Sl × Int) =>
 br (t26.2 != 0) (
 callF Tryz.prog 109 [(.pointer p0), (iv t26.2)] [.c I64] fun (t33 : Int) =>
 Q (⟨none, 0, 0⟩, t33)) (
 deref p0 fun a_8 =>
 ldM (a_8.add 16) fun t40 =>
 mapAt (.int .i64) t40 (iv t16) .slice (.slice none 0 0) fun (t42 : Sl) (t42ok : Bool) =>
 callF Tryz.prog 110 [(iv t16), (slV t26.1), (slV t42)] [.c .slice, .c I64] fun (t43 : Sl × Int) =>
 br (t43.2 != 0) (
 Q (⟨none, 0, 0⟩, t43.2)) (
 app 109 5 56 [(iv 0), (iv 0), (iv 0), (.slice none 0 0), (iv 0)] s.1 t43.1 fun t51 =>
 X (t51, (w64 (s.2 + 1)))))) (
 Q (s.1, 0))) (⟨none, 0, 0⟩, 0)
theorem F61_calls (p0 : Option Addr) (Q : Sl × Int → Pr) (w : World) (h : F61 p0 Q w) : Calls Tryz.prog 61 #[(.pointer p0)] w (RetT [.c .slice, .c I64] Q) := cF (an := an61) Tryz.func61 (by kernel_rfl) h
def an64 : An := (.sq .z (.sq .z (.sq .z (.bl (.sq .z (.br (.sq .z .z) (.sq .z (.br (.sq .z .z) (.sq .z .z)))))))))
def F64 (p0 : Option Addr) (p1 : Sl) (Q : Int → Pr) : Pr :=
 deref p0 fun a =>
 ldP (a.add 0) fun t9 =>
 deref t9 fun a_3 =>
 ldP (a_3.add 0) fun t12 =>
 callF Tryz.prog 115 [(.pointer t12), (slV p1)] [.c I64] fun (t14 : Int) =>
 br (t14 == 0) (
 deref p0 fun a_6 =>
 ldP (a_6.add 0) fun t25 =>
 deref t25 fun a_9 =>
 ldP (a_9.add 0) fun t28 =>
 callF Tryz.prog 116 [(.pointer t28)] [.c I64] fun (t29 : Int) =>
 callF Tryz.prog 109 [(.pointer p0), (iv t29)] [.c I64] fun (t30 : Int) =>
 Q t30) (
 br (t14 == 3) (
 Q 6) (
 callF Tryz.prog 109 [(.pointer p0), (iv t14)] [.c I64] fun (t18 : Int) =>
 Q t18))
theorem F64_calls (p0 : Option Addr) (p1 : Sl) (Q : Int → Pr) (w : World) (h : F64 p0 p1 Q w) : Calls Tryz.prog 64 #[(.pointer p0), (slV p1)] w (RetT [.c I64] Q) := cF (an := an64) Tryz.func64 (by kernel_rfl) h
def an66 : An := (.sq .z (.sq (.sq .z (.bl (.rf [.c (.int .i64)] .z (.bl (.sq (.sq .z (.sq .z (.br (.sq .z .z) .z))) (.sq .z (.sq .z (.br (.sq .z .z) .z)))))))) (.sq .z .z)))
def F66 (p0 : Option Addr) (p1 : Sl) (Q : Int → Pr) : Pr :=
 owe (NotAgg (.pointer p0)) <| nw (.cells #[(.pointer p0)] 40) fun r =>
 owe (NotAgg (iv 0)) <| nw (.cells #[(iv 0)] 29) fun r_1 =>
 callF Tryz.prog 117 [(slV p1)] [.c .any] fun (t9 : Value) =>
 rngE Tryz.prog t9 [.c I64] (fun l (z : Int) bg nx lv =>
 bg (
 drw <|
 ldP (bA r 0) fun t11 =>
 deref t11 fun a_1 =>
 ldP (a_1.add 0) fun t14 =>
 deref t14 fun a_4 =>
 ldP (a_4.add 1) fun t17 =>
 ldP (bA r 0) fun t19 =>
 deref t19 fun a_8 =>
 ldM (a_8.add 16) fun t22 =>
 mapAt (.int .i64) t22 (iv z) .slice (.slice none 0 0) fun (t24 : Sl) (t24ok : Bool) =>
 callF Tryz.prog 118 [(.pointer t17), (iv z), (iv 0), (slV t24)] [.c I64] fun (t25 : Int) =>
 br (t25 != 0) (
 ldP (bA r 0) fun t28 =>
 callF Tryz.prog 109 [(.pointer t28), (iv t25)] [.c I64] fun (t30 : Int) =>
 st (bA r_1 0) (iv t30) <|
 lv none) (
 ldP (bA r 0) fun t31 =>
 deref t31 fun a_14 =>
 ldP (a_14.add 0) fun t34 =>
 deref t34 fun a_17 =>
 ldP (a_17.add 1) fun t37 =>
 callF Tryz.prog 119 [(.pointer t37)] [.c I64] fun (t38 : Int) =>
 br (t38 != 0) (
 ldP (bA r 0) fun t41 =>
 callF Tryz.prog 109 [(.pointer t41), (iv t38)] [.c I64] fun (t43 : Int) =>
 st (bA r_1 0) (iv t43) <|
 lv none) (
 nx)))) (fun D =>
 st (bA r_1 0) (iv 0) <|
 takes [D] <|
 ldI (bA r_1 0) fun res =>
 Q res) (fun D =>
 takes [D] <|
 ldI (bA r_1 0) fun res_1 =>
 Q res_1) (fun D => [])
theorem F66_calls (p0 : Option Addr) (p1 : Sl) (Q : Int → Pr) (w : World) (h : F66 p0 p1 Q w) : Calls Tryz.prog 66 #[(.pointer p0), (slV p1)] w (RetT [.c I64] Q) := cF (an := an66) Tryz.func66 (by kernel_rfl) h
def an20 : An := (.sq .z (.sq (.sq .z (.sq .z (.br (.sq .z .z) .z))) (.sq (.sq .z (.br (.sq .z .z) .z)) (.sq .z (.sq .z (.sq (.bl (.sq .z (.br (.sq .z .z) (.sq .z (.br (.sq .z .z) (.sq .z (.br (.sq .z .z) .z))))))) (.sq (.jn [] (.sq .z (.br (.sq .z (.sq .z (.br (.sq .z .z) .z))) .z))) (.sq (.sq .z (.sq .z (.br (.sq .z .z) .z))) (.sq .z .z)))))))))
def F20 (p0 : Option Addr) (Q : Int → Pr) : Pr :=
 callF Tryz.prog 59 [(.pointer p0)] [.c I64] fun (t9 : Int) =>
 br (t9 != 0) (
 Q t9) (
 deref p0 fun a =>
 ldB (a.add 14) fun t16 =>
 br (!t16) (
 Q 100) (
 callF Tryz.prog 61 [(.pointer p0)] [.c .slice, .c I64] fun (t21 : Sl × Int) =>
 br (t21.2 != 0) (
 callD Tryz.prog .returning 60 [(.pointer p0)] <|
 Q t21.2) (
 br ((t21.1.len : Int) == 0) (
 callD Tryz.prog .returning 60 [(.pointer p0)] <|
 Q 0) (
 deref p0 fun a_3 =>
 ldI (a_3.add 4) fun t40 =>
 br (decide ((t21.1.len : Int) ≥ (w64 (4 * t40)))) (
 callD Tryz.prog .returning 60 [(.pointer p0)] <|
 Q 101) (
 jn (S:=Unit) (fun R =>
 deref p0 fun a_8 =>
 ldP (a_8.add 0) fun t49 =>
 deref t49 fun a_11 =>
 ldP (a_11.add 0) fun t52 =>
 callF Tryz.prog 62 [(.pointer t52)] [.c I64] fun (t53 : Int) =>
 br (decide ((w64 ((t21.1.len : Int) + 1)) > t53)) (
 callF Tryz.prog 63 [(.pointer p0)] [.c I64] fun (t56 : Int) =>
 br (t56 != 0) (
 callD Tryz.prog .returning 60 [(.pointer p0)] <|
 Q t56) (
 R ())) (
 R ())) fun s =>
 callF Tryz.prog 65 [(slV t21.1)] [.c .slice] fun (t62 : Sl) =>
 nw (.cells #[(iv 2), (iv 0), (iv 0), (.slice none 0 0), (iv (t21.1.len : Int))] 109) fun r =>
 app 109 5 56 [(iv 0), (iv 0), (iv 0), (.slice none 0 0), (iv 0)] t62 ⟨(some ⟨r, 0, none⟩), 1, 1⟩ fun t67 =>
 callF Tryz.prog 64 [(.pointer p0), (slV t67)] [.c I64] fun (t68 : Int) =>
 br (t68 != 0) (
 callD Tryz.prog .returning 60 [(.pointer p0)] <|
 Q t68) (
 callF Tryz.prog 66 [(.pointer p0), (slV t21.1)] [.c I64] fun (t74 : Int) =>
 callD Tryz.prog .returning 60 [(.pointer p0)] <|
 Q t74))))))
theorem F20_calls (p0 : Option Addr) (Q : Int → Pr) (w : World) (h : F20 p0 Q w) : Calls Tryz.prog 20 #[(.pointer p0)] w (RetT [.c I64] Q) := cF (an := an20) Tryz.func20 (by kernel_rfl) h
def an63 : An := (.sq .z (.sq (.sq .z (.br (.sq .z .z) .z)) (.sq (.sq .z (.sq .z (.br (.sq .z .z) .z))) (.sq .z (.sq .z (.sq (.sq .z (.br (.sq .z .z) .z)) (.sq (.sq .z (.sq .z (.br (.sq .z .z) .z))) (.sq .z (.sq .z .z)))))))))
def F63 (p0 : Option Addr) (Q : Int → Pr) : Pr :=
 callF Tryz.prog 19 [(.pointer p0)] [.c I64] fun (t9 : Int) =>
 br (t9 == 0) (
 Q 0) (
 deref p0 fun a =>
 ldP (a.add 1) fun t14 =>
 callF Tryz.prog 112 [(.pointer t14)] [.c I64] fun (t15 : Int) =>
 br (t15 != 0) (
 callF Tryz.prog 109 [(.pointer p0), (iv t15)] [.c I64] fun (t20 : Int) =>
 Q t20) (
 deref p0 fun a_3 =>
 ldP (a_3.add 0) fun t24 =>
 deref t24 fun a_6 =>
 ldP (a_6.add 0) fun t27 =>
 callF Tryz.prog 57 [(.pointer t27)] [.c I64] fun (t28 : Int) =>
 deref p0 fun a_9 =>
 ldA [I64, I64, I64, I64, I64, I64] (a_9.add 2) fun (t33 : Int × Int × Int × Int × Int × Int) =>
 callF Tryz.prog 113 [(.agg #[(iv t33.1), (iv t33.2.1), (iv t33.2.2.1), (iv t33.2.2.2.1), (iv t33.2.2.2.2.1), (iv t33.2.2.2.2.2)]), (iv t28)] [.agg [I64, I64, I64, I64, I64, I64], .c I64] fun (t35 : (Int × Int × Int × Int × Int × Int) × Int) =>
 nvs 61 [(iv 0), (iv 0), (iv 0), (iv 0), (iv 0), (iv 0)] [(iv t35.1.1), (iv t35.1.2.1), (iv t35.1.2.2.1), (iv t35.1.2.2.2.1), (iv t35.1.2.2.2.2.1), (iv t35.1.2.2.2.2.2)] fun r =>
 br (t35.2 != 0) (
 Q 6) (
 drw <|
 deref p0 fun a_13 =>
 ldP (a_13.add 1) fun t43 =>
 ldA [I64, I64, I64, I64, I64, I64] (bA r 0) fun (t44 : Int × Int × Int × Int × Int × Int) =>
 callF Tryz.prog 77 [(.pointer t43), (.agg #[(iv t44.1), (iv t44.2.1), (iv t44.2.2.1), (iv t44.2.2.2.1), (iv t44.2.2.2.2.1), (iv t44.2.2.2.2.2)])] [.c I64] fun (t45 : Int) =>
 br (t45 != 0) (
 callF Tryz.prog 109 [(.pointer p0), (iv t45)] [.c I64] fun (t50 : Int) =>
 Q t50) (
 ldA [I64, I64, I64, I64, I64, I64] (bA r 0) fun (t52 : Int × Int × Int × Int × Int × Int) =>
 deref p0 fun a_18 =>
 st (a_18.add 2) (iv t52.1) <|
 st (a_18.add 3) (iv t52.2.1) <|
 st (a_18.add 4) (iv t52.2.2.1) <|
 st (a_18.add 5) (iv t52.2.2.2.1) <|
 st (a_18.add 6) (iv t52.2.2.2.2.1) <|
 st (a_18.add 7) (iv t52.2.2.2.2.2) <|
 deref p0 fun a_21 =>
 ldP (a_21.add 0) fun t58 =>
 deref t58 fun a_24 =>
 ldP (a_24.add 0) fun t61 =>
 callF Tryz.prog 114 [(.pointer t61), (iv t28)] [.c I64] fun (t63 : Int) =>
 Q t63))))
theorem F63_calls (p0 : Option Addr) (Q : Int → Pr) (w : World) (h : F63 p0 Q w) : Calls Tryz.prog 63 #[(.pointer p0)] w (RetT [.c I64] Q) := cF (an := an63) Tryz.func63 (by kernel_rfl) h
def an19 : An := (.sq .z (.sq (.sq .z (.br (.sq .z .z) .z)) (.sq (.rj [⟨false, [7, 11], [7, 11, 12, 13, 14], [(12, .c (.int .i64)), (19, .c .ptr)]⟩]) .z)))
def F19 (p0 : Option Addr) (Q : Int → Pr) : Pr :=
 callF Tryz.prog 56 [(.pointer p0)] [.c .bool] fun (t4 : Bool) =>
 br t4 (
 Q 0) (
 drw <|
 deref p0 fun a =>
 ldP (a.add 0) fun t8 =>
 deref t8 fun a_3 =>
 ldP (a_3.add 0) fun t11 =>
 deref p0 fun a_6 =>
 jn (S:=Int × Option Addr) (fun R =>
 both (
 callF Tryz.prog 57 [(.pointer t11)] [.c I64] fun (t12 : Int) =>
 ldP (a_6.add 0) fun t16 =>
 deref t16 fun a_9 =>
 ldP (a_9.add 0) fun t19 =>
 R (t12, t19)) (
 ldP (a_6.add 0) fun t16_1 =>
 deref t16_1 fun a_13 =>
 both (
 callF Tryz.prog 57 [(.pointer t11)] [.c I64] fun (t12_1 : Int) =>
 ldP (a_13.add 0) fun t19_1 =>
 R (t12_1, t19_1)) (
 ldP (a_13.add 0) fun t19_2 =>
 callF Tryz.prog 57 [(.pointer t11)] [.c I64] fun (t12_2 : Int) =>
 R (t12_2, t19_2)))) fun s =>
 callF Tryz.prog 58 [(.pointer s.2)] [.c I64] fun (t20 : Int) =>
 Q ((w64 (s.1 - t20))))
theorem F19_calls (p0 : Option Addr) (Q : Int → Pr) (w : World) (h : F19 p0 Q w) : Calls Tryz.prog 19 #[(.pointer p0)] w (RetT [.c I64] Q) := cF (an := an19) Tryz.func19 (by kernel_rfl) h
def an106 : An := (.sq .z (.sq .z .z))
def F106 (p0 : Option Nat) (Q : Value → Pr) : Pr :=
 owe (NotAgg (.map p0)) <| nw (.cells #[(.map p0)] 62) fun r =>
 Q ((.func (.func 163) #[] #[(.pointer (some ⟨r, 0, none⟩))]))
theorem F106_calls (p0 : Option Nat) (Q : Value → Pr) (w : World) (h : F106 p0 Q w) : Calls Tryz.prog 106 #[(.map p0)] w (RetT [.c .any] Q) := cF (an := an106) Tryz.func106 (by kernel_rfl) h
def an163 : An := (.sq .z (.bl (.lp [] (.sq .z (.sq (.br .z .z) (.bl (.sq .z (.sq .z (.br .z .z)))))))))
def F163 (p0 : Value) (p1 : Option Addr) (Q : Unit → Pr) : Pr :=
 deref p1 fun a =>
 ldM a fun t4 =>
 mrange t4 fun it =>
 loopE (S:=Unit) (fun X s =>
 mnext (bA it 0) (
 Q ()) fun en =>
 mentry (bA it 0) fun en_1 =>
 sayC I64 en_1.key fun (key : Int) =>
 callV Tryz.prog p0 [(iv key)] [.c .bool] fun (t12 : Bool) =>
 br (!t12) (
 Q ()) (
 X ())) ()
theorem F163_calls (p0 : Value) (p1 : Option Addr) (Q : Unit → Pr) (w : World) (h : F163 p0 p1 Q w) : Calls Tryz.prog 163 #[p0, (.pointer p1)] w (RetT [] Q) := cF (an := an163) Tryz.func163 (by kernel_rfl) h
end Go.Proofs

set_option maxRecDepth 20000
namespace Go.Proofs
open Go.Eng
structure DG (D D' : DM) (N M : Nat) : Prop where
 db : DB (N + M) D'
 len : D'.blocks.length = D.blocks.length
theorem DG.refl {D : DM} {N : Nat} (h : DB N D) (M : Nat) : DG D D N M := ⟨h.le (by omega), rfl⟩
theorem DG.trans {D E F : DM} {N M K : Nat} (h : DG D E N M) (k : DG E F (N + M) K) : DG D F N (M + K) := ⟨k.db.le (by omega), k.len.trans h.len⟩
theorem DG.mono {D E : DM} {N M K : Nat} (h : DG D E N M) (hm : M ≤ K) : DG D E N K := ⟨h.db.le (by omega), h.len⟩
theorem writeD_dg {D : DM} {N : Nat} (h : DB N D) (i : Int) (l : List UInt8) : DG D (writeD D i l).2 N 2 :=
 let ⟨a, b, c⟩ := writeD_ok h.ok h.bd i l
 ⟨⟨a, b⟩, c⟩
theorem flushB_len : ∀ (ws : List (Int × List UInt8)) (bs : List (List UInt8)), (flushB bs ws).length = bs.length
 | [], _ => rfl
 | x :: ws, bs => by
   show (flushB (bs.set x.1.toNat x.2) ws).length = _
   rw [flushB_len ws, List.length_set]
theorem flushB_256 : ∀ (ws : List (Int × List UInt8)) (bs : List (List UInt8)), (∀ b ∈ bs, b.length = 256) → (∀ x ∈ ws, x.2.length = 256) → ∀ b ∈ flushB bs ws, b.length = 256
 | [], _, h, _ => h
 | x :: ws, bs, h, hw => by
   refine flushB_256 ws (bs.set x.1.toNat x.2) (fun b hb => ?_) fun y hy => hw y (List.mem_cons_of_mem _ hy)
   rcases List.mem_or_eq_of_mem_set hb with h1 | h1
   · exact h b h1
   · rw [h1]; exact hw x (List.mem_cons_self ..)
theorem flushD_dg {D : DM} {N : Nat} (h : DB N D) : DG D (flushD D).2 N 1 := by
 obtain ⟨g1, g2, g3⟩ := goesD_ok h.ok h.bd
 unfold flushD
 split
 · exact .refl h 1
 · split
   · exact ⟨⟨g1, g2⟩, g3⟩
   · refine ⟨⟨⟨flushB_256 _ _ h.ok.len fun x hx => (h.ok.wlen x hx).2.2, fun x hx => by simp at hx, ?_, ?_⟩, ⟨g2.armed, g2.ops, by simp⟩⟩, flushB_len ..⟩
     · show 1 ≤ (flushB _ _).length
       rw [flushB_len]; exact h.ok.pos
     · show (flushB _ _).length ≤ 2048
       rw [flushB_len]; exact h.ok.le
theorem wrC' {dp : Nat} {D : DM} {i : Int} {b : Sl} {l : List UInt8} {N : Nat} {w0 w : World} {F0 : Nat → Prop} {L : List HA} {k : Int → Pr} (h : St F0 w0 w (DiskA dp D :: SlA 1 b (l.map ub) :: L)) (hd : DB N D) (hN : N ≤ 10000000)
   (hk : ∀ w', St F0 w0 w' (DiskA dp (writeD D i l).2 :: SlA 1 b (l.map ub) :: L) → k (writeD D i l).1 w') : callF Tryz.prog 132 [P0 dp, iv i, slV b] [.c (.int .i64)] k w := by
 obtain ⟨G, H, g2, g3, g4, _, gc⟩ := St.call [DiskA dp D] h
 refine callF_of (C40' dp D i b l w G g2 (Rd.own g3 g4) hd.ok (by have := hd.bd.wait; omega) hd.bd.armed.1 hd.bd.armed.2 ⟨hd.bd.ops.1, by have := hd.bd.ops.2; omega⟩) ?_
 rintro e w2 ⟨he, s6⟩
 subst he
 exact hk w2 (gc _ _ s6)
theorem flC' {dp : Nat} {D : DM} {N : Nat} {w0 w : World} {F0 : Nat → Prop} {L : List HA} {k : Int → Pr} (h : St F0 w0 w (DiskA dp D :: L)) (hd : DB N D) (hN : N ≤ 10000000)
   (hk : ∀ w', St F0 w0 w' (DiskA dp (flushD D).2 :: L) → k (flushD D).1 w') : callF Tryz.prog 112 [P0 dp] [.c (.int .i64)] k w := by
 obtain ⟨G, H, g2, g3, g4, _, gc⟩ := St.call [DiskA dp D] h
 refine callF_of (V112 dp D N w G g2 hd hN) ?_
 rintro e w2 ⟨he, s6⟩
 subst he
 exact hk w2 (gc _ _ s6)
theorem rdC' {dp : Nat} {D : DM} {i : Int} {N : Nat} {w0 w : World} {F0 : Nat → Prop} {L : List HA} {k : Sl × Int → Pr} (h : St F0 w0 w (DiskA dp D :: L)) (hd : DB N D) (hN : N ≤ 10000000)
   (hk : ∀ b w', St F0 w0 w' (SlA 1 b ((if placeE D i = 0 then rdD D i else []).map ub) :: DiskA dp D :: L) → k (b, placeE D i) w') : callF Tryz.prog 121 [P0 dp, iv i] [.c .slice, .c (.int .i64)] k w := by
 obtain ⟨G, H, g2, g3, g4, _, gc⟩ := St.call [DiskA dp D] h
 refine callF_of (C35 dp D i w G g2 hd.ok (by have := hd.bd.wait; omega)) ?_
 rintro ⟨b, e⟩ w2 ⟨he, s6⟩
 dsimp only at he s6
 subst he
 exact hk b w2 (h.call0 s6)
theorem lnC' {dp : Nat} {D : DM} {w0 w : World} {F0 : Nat → Prop} {L : List HA} {k : Int → Pr} (h : St F0 w0 w (DiskA dp D :: L)) (hk : k D.blocks.length w) : callF Tryz.prog 83 [P0 dp] [.c (.int .i64)] k w := by
 obtain ⟨G, H, g2, _⟩ := St.call [DiskA dp D] h
 exact callF_of (C67 dp D w G g2) fun _ _ ⟨e, e'⟩ => by subst e e'; exact hk
def noteD (D : DM) (s : Sup) : Int × DM := if supE s ≠ 0 then (supE s, D) else if (writeD D (slotS s) (bytesS s)).1 ≠ 0 then writeD D (slotS s) (bytesS s) else flushD (writeD D (slotS s) (bytesS s)).2
theorem noteD_dg {D : DM} {N : Nat} (h : DB N D) (s : Sup) : DG D (noteD D s).2 N 3 := by
 have h1 := writeD_dg h (slotS s) (bytesS s)
 unfold noteD
 split
 · exact .refl h 3
 · split
   · exact h1.mono (by omega)
   · exact h1.trans (flushD_dg h1.db)
theorem V77 {dp : Nat} {D : DM} {s : Sup} {N : Nat} {w : World} {F : Nat → Prop} (hh : Has [DiskA dp D] w F) (hd : DB N D) (hN : N ≤ 1000000) :
   Calls Tryz.prog 77 #[P0 dp, s.v] w (RetT [.c (.int .i64)] fun x w' => x = (noteD D s).1 ∧ St F w w' [DiskA dp (noteD D s).2]) := by
 refine F77_calls _ s.1 s.2.1 s.2.2.1 s.2.2.2.1 s.2.2.2.2.1 s.2.2.2.2.2 _ _ ?_
 unfold F77 noteD
 refine St.nw (St.init hh) fun r w1 s1 _ _ => ?_
 have s1 : St F w w1 [BoxA r (pcells s), DiskA dp D] := s1
 refine s1.LA 0 rfl (p := s) rfl ?_
 refine callF_of (V133 s w1) ?_
 rintro ⟨t, e⟩ w2 ⟨he, hP⟩
 dsimp only at he hP
 subst he
 rcases hP with ⟨h1, rfl, g⟩ | ⟨h1, k⟩
 · rw [if_pos h1]
   exact br_t (by simpa using h1) ⟨rfl, (s1.grow g).drop⟩
 · rw [if_neg (fun h => h h1)]
   refine br_f (by simp [h1]) ?_
   have s2 := s1.call0 k
   have s2 : St F w w2 [SlA 1 t ((bytesS s).map ub), BoxA r (pcells s), DiskA dp D] := s2
   refine s2.LA 1 rfl (p := s) rfl ?_
   refine callF_of (V134 s w2) ?_
   rintro _ w3 ⟨rfl, g3⟩
   have s3 := (s2.grow g3).sel [2, 0] 3
   refine wrC' s3 hd (by omega) fun w4 s4 => ?_
   have h1 := writeD_dg hd (slotS s) (bytesS s)
   refine br_of (fun hne => ?_) fun heq => ?_
   · rw [if_pos (by simpa using hne)]
     exact ⟨rfl, s4.sel [0] 2⟩
   · rw [if_neg (by simpa using heq)]
     refine flC' s4 h1.db (by omega) fun w5 s5 => ⟨rfl, s5.sel [0] 2⟩
def noughtD : Nat → DM → Int → Int × DM
 | 0, D, _ => flushD D
 | f + 1, D, i => if (writeD D i zero256).1 ≠ 0 then writeD D i zero256 else noughtD f (writeD D i zero256).2 (i + 1)
theorem noughtD_dg : ∀ (f : Nat) {D : DM} {N : Nat} (_ : DB N D) (i : Int), DG D (noughtD f D i).2 N (2 * f + 1)
 | 0, _, _, h, _ => flushD_dg h
 | f + 1, D, N, h, i => by
   have h1 := writeD_dg h i zero256
   unfold noughtD
   split
   · exact h1.mono (by omega)
   · exact (h1.trans (noughtD_dg f h1.db (i + 1))).mono (by omega)
theorem V84 {dp : Nat} {D : DM} {i j : Int} {N : Nat} {w : World} {F : Nat → Prop} (hh : Has [DiskA dp D] w F) (hd : DB N D) (hN : N ≤ 1000000) (hi : 0 ≤ i) (hij : j ≤ 100000) :
   Calls Tryz.prog 84 #[P0 dp, iv i, iv j] w (RetT [.c (.int .i64)] fun x w' => x = (noughtD (j - i).toNat D i).1 ∧ St F w w' [DiskA dp (noughtD (j - i).toNat D i).2]) := by
 refine F84_calls _ _ _ _ _ ?_
 unfold F84
 refine loop_of (fun c W => ∃ (D' : DM) (N' : Nat), i ≤ c ∧ (c ≤ j ∨ c = i) ∧ DB N' D' ∧ N' + 2 * (j - c).toNat ≤ N + 2 * (j - i).toNat ∧ noughtD (j - i).toNat D i = noughtD (j - c).toNat D' c ∧ St F w W [DiskA dp D']) (fun c _ => (j - c).toNat)
   ⟨D, N, by omega, .inr rfl, hd, by omega, rfl, St.init hh⟩ ?_
 rintro c W ⟨D', N', h1, h2, hd', hb, hX, s1⟩
 refine br_of (fun hlt => ?_) fun hge => ?_
 · have hlt : c < j := by simpa using hlt
   have hf : (j - c).toNat = (j - (c + 1)).toNat + 1 := by omega
   rw [hf, noughtD] at hX
   refine s1.mkSi 256 rfl rfl (by decide) (by decide) fun t w2 s2 _ => ?_
   rw [show zc [uv 0] 256 = zero256.map ub from zc_u8 256] at s2
   refine wrC' (s2.sel [1, 0] 2) hd' (by omega) fun w3 s3 => ?_
   refine br_of (fun hne => ?_) fun heq => ?_
   · rw [if_pos (by simpa using hne)] at hX
     rw [hX]
     exact ⟨rfl, s3.sel [0] 2⟩
   · rw [if_neg (by simpa using heq)] at hX
     rw [w64_of (n := c + 1) ⟨by omega, by omega⟩]
     exact ⟨⟨_, N' + 2, by omega, by omega, (writeD_dg hd' _ _).db, by omega, hX, s3.sel [0] 2⟩, by omega⟩
 · have hge : j ≤ c := by simpa using hge
   rw [show (j - c).toNat = 0 by omega, noughtD] at hX
   rw [hX]
   exact flC' s1 hd' (by omega) fun w5 s5 => ⟨rfl, s5⟩
def readyE (D : DM) : Int := if D.off then 5 else 0
theorem V69 {dp : Nat} {D : DM} {w : World} {F : Nat → Prop} (hh : Has [DiskA dp D] w F) (hd : D.ok) :
   Calls Tryz.prog 69 #[P0 dp] w (RetT [.c (.int .i64)] fun x w' => x = readyE D ∧ w = w') := by
 refine F69_calls _ _ _ ?_
 unfold F69
 have := hd.pos
 refine lnC' (St.init hh) (br_f (beq_eq_false_iff_ne.2 (by omega)) ?_)
 refine callF_of (V53 dp D w F hh hd) ?_
 rintro _ _ ⟨rfl, rfl⟩
 unfold readyE
 cases D.off
 · exact br_f rfl ⟨rfl, rfl⟩
 · exact br_t rfl ⟨rfl, rfl⟩
end Go.Proofs

set_option maxRecDepth 20000
namespace Go.Proofs
open Go.Eng
def chosenS (D : DM) : Sup × Int :=
 if D.blocks.length < 2 then (Sup0, 50) else if D.off then (Sup0, 5) else
   ((chooseS (rdD D 0) (rdD D 1)).1, if (chooseS (rdD D 0) (rdD D 1)).2 = 0 ∧ (D.blocks.length : Int) ≠ (chooseS (rdD D 0) (rdD D 1)).1.2.1 then 50 else (chooseS (rdD D 0) (rdD D 1)).2)
theorem V70 {dp : Nat} {D : DM} {N : Nat} {w : World} {F : Nat → Prop} (hh : Has [DiskA dp D] w F) (hd : DB N D) (hN : N ≤ 1000000) :
   Calls Tryz.prog 70 #[P0 dp] w (RetT [.agg [.int .i64, .int .i64, .int .i64, .int .i64, .int .i64, .int .i64], .c (.int .i64)] fun x w' => x = chosenS D ∧ Grow w w') := by
 refine F70_calls _ _ _ ?_
 unfold F70 chosenS
 refine St.nw (St.init0 w) fun r w1 s1 _ _ => ?_
 have s1 : St noF w w1 [BoxA r (pcells Sup0)] := s1
 have hwl := hd.bd.wait
 have lenC : ∀ {W : World} {k : Int → Pr}, Grow w W → k D.blocks.length W → callF Tryz.prog 83 [P0 dp] [.c (.int .i64)] k W := fun g hk => callF_of (C67 dp D _ F (hh.mod g fun _ _ h => h)) fun _ _ ⟨e, e'⟩ => by subst e e'; exact hk
 refine lenC s1.gro (br_of (fun h => ?_) fun h => ?_)
 · rw [if_pos (by have := of_decide_eq_true h; omega)]
   exact s1.SB 0 rfl rfl (na_p Sup0) fun w2 s2 => St.LA 0 s2 rfl (p := Sup0) rfl ⟨rfl, s2.gro⟩
 have h2 : ¬ D.blocks.length < 2 := by have := of_decide_eq_false h; omega
 rw [if_neg h2]
 have hpe : ∀ i : Int, 0 ≤ i → i < 2 → placeE D i = if D.off then 5 else 0 := fun i h0 h1 => by
   unfold placeE
   rw [if_neg (show ¬ (i < 0 ∨ i ≥ D.blocks.length) by omega)]
 refine callF_of (C35 dp D 0 w1 F (hh.mod s1.gro fun _ _ h => h) hd.ok (by omega)) ?_
 rintro ⟨t0, e0⟩ w2 ⟨he0, k2⟩
 dsimp only at he0 k2
 rw [hpe 0 (by omega) (by omega)] at he0 k2
 have s2 := s1.call0 k2
 refine callF_of (C35 dp D 1 w2 F (hh.mod s2.gro fun _ _ h => h) hd.ok (by omega)) ?_
 rintro ⟨t1, e1⟩ w3 ⟨he1, k3⟩
 dsimp only at he1 k3
 rw [hpe 1 (by omega) (by omega)] at he1 k3
 have s3 := s2.call0 k3
 cases ho : D.off
 · rw [ho] at he0 he1 k2 k3 s3
   have he0 : e0 = 0 := he0
   have he1 : e1 = 0 := he1
   subst he0 he1
   have s3 : St noF w w3 [SlA 1 t1 ((rdD D 1).map ub), SlA 1 t0 ((rdD D 0).map ub), BoxA r (pcells Sup0)] := s3
   refine jn_of (fun b W => b = false ∧ W = w3) ⟨rfl, rfl⟩ ?_
   rintro _ _ ⟨rfl, rfl⟩
   refine br_f rfl ?_
   have l0 := rdD_len hd.ok (i := 0) (by omega) (by omega)
   have l1 := rdD_len hd.ok (i := 1) (by omega) (by omega)
   rw [if_neg (by decide)]
   refine callF_of (V122 t0 t1 _ _ _ (s3.bring 1).sl.bs s3.sl.bs (s3.bring 1).sl.le s3.sl.le (by omega) (by omega)) ?_
   rintro C w4 ⟨hC, g4⟩
   rw [← hC]
   refine ((s3.grow g4).sel [2] 3).nvs rfl (na_p C.1) fun r1 w5 s5 => ?_
   have s5 : St noF w w5 [BoxA r1 (pcells C.1), BoxA r (pcells Sup0)] := s5
   refine jn_of (fun e W => e = (if C.2 = 0 ∧ (D.blocks.length : Int) ≠ C.1.2.1 then 50 else C.2) ∧ St noF w W [BoxA r1 (pcells C.1), BoxA r (pcells Sup0)]) ?_ ?_
   · refine jn_of (fun b W => b = decide (C.2 = 0 ∧ (D.blocks.length : Int) ≠ C.1.2.1) ∧ St noF w W [BoxA r1 (pcells C.1), BoxA r (pcells Sup0)]) ?_ ?_
     · rw [drw_def]
       have s6 := s5.drew
       refine br_of (fun h => ?_) fun h => ?_
       · have h : C.2 = 0 := by simpa using h
         have fin : ((D.blocks.length : Int) != C.1.2.1) = decide (C.2 = 0 ∧ (D.blocks.length : Int) ≠ C.1.2.1) := by
           by_cases hl : (D.blocks.length : Int) = C.1.2.1 <;> simp [h, hl]
         refine ⟨lenC s6.gro (s6.L 0 rfl (p := C.1.2.1) rfl ⟨fin, s6⟩), s6.L 0 rfl (p := C.1.2.1) rfl (lenC s6.gro ⟨fin, s6⟩)⟩
       · have h : C.2 ≠ 0 := by simpa using h
         exact ⟨⟨by simp [h], s6⟩, ⟨by simp [h], s6⟩⟩
     rintro _ w6 ⟨rfl, s6⟩
     refine br_of (fun h => ?_) fun h => ?_
     · rw [if_pos (of_decide_eq_true h)]; exact ⟨rfl, s6⟩
     · rw [if_neg (of_decide_eq_false h)]; exact ⟨rfl, s6⟩
   rintro e w6 ⟨rfl, s6⟩
   refine s6.LA 0 rfl (p := C.1) rfl ?_
   exact s6.SB 1 rfl rfl (na_p C.1) fun w7 s7 => St.LA 1 s7 rfl (p := C.1) rfl ⟨rfl, s7.gro⟩
 · rw [ho] at he0 he1
   have he0 : e0 = 5 := he0
   subst he0
   refine jn_of (fun b W => b = true ∧ W = w3) ⟨rfl, rfl⟩ ?_
   rintro _ _ ⟨rfl, rfl⟩
   refine br_t rfl ?_
   rw [if_pos rfl]
   exact (s3.sel [2] 3).SB 0 rfl rfl (na_p Sup0) fun w4 s4 => St.LA 0 s4 rfl (p := Sup0) rfl ⟨rfl, s4.gro⟩
def usableS (p : PlanT) (b : Int) : Prop := b = 2 ∨ p.2.1 ≤ b ∧ b < p.2.2.2.2.2
instance (p : PlanT) (b : Int) : Decidable (usableS p b) := by unfold usableS; exact inferInstance
theorem V74 (p : PlanT) (b : Int) (w : World) : Calls Tryz.prog 74 #[.agg #[iv p.1, iv p.2.1, iv p.2.2.1, iv p.2.2.2.1, iv p.2.2.2.2.1, iv p.2.2.2.2.2], iv b] w (RetT [.c .bool] fun x w' => x = decide (usableS p b) ∧ Grow w w') := by
 refine F74_calls p.1 p.2.1 p.2.2.1 p.2.2.2.1 p.2.2.2.2.1 p.2.2.2.2.2 b _ _ ?_
 unfold F74
 refine St.nw (St.init0 w) fun r w1 s1 _ _ => ?_
 have s1 : St noF w w1 [BoxA r (pcells p)] := s1
 unfold usableS
 refine br_of (fun h => ?_) fun h => ?_
 · have h : b = 2 := by simpa using h
   exact ⟨(dec_true (.inl h)), s1.gro⟩
 · have h : b ≠ 2 := by simpa using h
   refine s1.L 0 rfl (p := p.2.1) rfl ?_
   refine br_of (fun k => ?_) fun k => ?_
   · have k := of_decide_eq_true k
     exact s1.L 0 rfl (p := p.2.2.2.2.2) rfl ⟨decide_eq_decide.2 (by omega), s1.gro⟩
   · have k := of_decide_eq_false k
     exact ⟨(decide_eq_false (by omega : ¬ (b = 2 ∨ p.2.1 ≤ b ∧ b < p.2.2.2.2.2))).symm, s1.gro⟩
theorem planT_le {g : Geo} (h : geoE g = 0) : (planT g).2.2.2.2.1 ≤ 2048 := by
 have hR := geoE_R h
 unfold geoE at h
 split at h
 · rename_i h'
   have h1 := h'.2.1
   have h2 := h'.2.2
   unfold geoR at hR
   simp only [planT] at h1 ⊢
   omega
 · cases h
def formatD (D : DM) (g : Geo) : Int × DM :=
 if D.off then (5, D) else if geoE g ≠ 0 then (40, D) else if (D.blocks.length : Int) ≠ g.1 then (1, D) else
 let a := noughtD 2 D 0
 if a.1 ≠ 0 then a else
 let b := noughtD ((planT g).2.2.2.2.1 - 2).toNat a.2 2
 if b.1 ≠ 0 then b else noteD b.2 (firstS g).1
theorem V37 {dp : Nat} {D : DM} {g : Geo} {N : Nat} {w : World} {F : Nat → Prop} (hh : Has [DiskA dp D] w F) (hd : DB N D) (hN : N ≤ 500000) :
   Calls Tryz.prog 37 #[P0 dp, g.v] w (RetT [.c (.int .i64)] fun x w' => x = (formatD D g).1 ∧ St F w w' [DiskA dp (formatD D g).2]) := by
 refine F37_calls _ g.1 g.2.1 g.2.2.1 g.2.2.2 _ _ ?_
 unfold F37 formatD
 refine St.nw (St.init hh) fun r w1 s1 _ _ => ?_
 have s1 : St F w w1 [BoxA r (gcells g), DiskA dp D] := s1
 obtain ⟨G, H, g2, _⟩ := St.call [DiskA dp D] (s1.sel [1, 0] 2)
 refine callF_of (V69 g2 hd.ok) ?_
 rintro _ _ ⟨rfl, rfl⟩
 unfold readyE
 refine br_of (fun h => ?_) fun h => ?_
 · have ho : D.off = true := by cases hx : D.off <;> simp_all
   rw [ho]
   exact ⟨rfl, s1.sel [1] 2⟩
 have ho : D.off = false := by cases hx : D.off <;> simp_all
 rw [ho, if_neg (by decide)]
 refine s1.LA 0 rfl (p := g) rfl ?_
 refine callF_of (V71 g w1) ?_
 rintro P w2 ⟨hP, k2⟩
 have hP2 : P.2 = if geoE g = 0 then 0 else 40 := by rw [hP]; unfold ofG; split <;> rfl
 refine (s1.grow k2).nvs rfl (na_p P.1) fun r1 w3 s3 => ?_
 have s3 : St F w w3 [BoxA r1 (pcells P.1), BoxA r (gcells g), DiskA dp D] := s3
 refine br_of (fun h => ?_) fun h => ?_
 · have h : P.2 ≠ 0 := by simpa using h
   have hg : geoE g ≠ 0 := fun h0 => h (by rw [hP2, if_pos h0])
   rw [if_pos hg, hP2, if_neg hg]
   exact ⟨rfl, s3.sel [2] 3⟩
 have hg : geoE g = 0 := by
   by_cases hg : geoE g = 0
   · exact hg
   · rw [hP2, if_neg hg] at h; simp at h
 rw [if_neg (fun h0 => h0 hg)]
 have hp := planT_le hg
 have hP1 : P.1 = planT g := by rw [hP]; unfold ofG; rw [if_pos hg]
 clear hP hP2
 refine jn_of (fun b W => b = decide ((D.blocks.length : Int) ≠ g.1) ∧ St F w W [BoxA r1 (pcells P.1), BoxA r (gcells g), DiskA dp D]) ?_ ?_
 · rw [drw_def]
   have s4 := s3.drew
   have fin : ((D.blocks.length : Int) != g.1) = decide ((D.blocks.length : Int) ≠ g.1) := by
     by_cases hl : (D.blocks.length : Int) = g.1 <;> simp [hl]
   exact ⟨lnC' (s4.sel [2, 0, 1] 3) (s4.L 1 rfl (p := g.1) rfl ⟨fin, s4⟩), s4.L 1 rfl (p := g.1) rfl (lnC' (s4.sel [2, 0, 1] 3) ⟨fin, s4⟩)⟩
 rintro _ w4 ⟨rfl, s4⟩
 refine br_of (fun h => ?_) fun h => ?_
 · rw [if_pos (of_decide_eq_true h)]
   exact ⟨rfl, s4.sel [2] 3⟩
 rw [if_neg (of_decide_eq_false h)]
 obtain ⟨G1, H1, g3, _, _, _, gc⟩ := St.call [DiskA dp D] (s4.sel [2, 0, 1] 3)
 refine callF_of (V84 (i := 0) (j := 2) g3 hd (by omega) (by omega) (by omega)) ?_
 rw [show (2 - 0 : Int).toNat = 2 from rfl]
 rintro _ w5 ⟨rfl, s5⟩
 have s5 := gc _ _ s5
 have d1 := noughtD_dg 2 hd 0
 generalize noughtD 2 D 0 = A at d1 s5 ⊢
 dsimp only
 have s5 : St F w w5 [DiskA dp A.2, BoxA r1 (pcells P.1), BoxA r (gcells g)] := s5
 refine br_of (fun h => ?_) fun h => ?_
 · rw [if_pos (by simpa using h)]
   exact ⟨rfl, s5.sel [0] 3⟩
 rw [if_neg (by simpa using h)]
 refine s5.L 1 rfl (p := P.1.2.2.2.2.1) rfl ?_
 rw [hP1]
 obtain ⟨G2, H2, g4, _, _, _, gc2⟩ := St.call [DiskA dp A.2] s5
 refine callF_of (V84 (i := 2) (j := (planT g).2.2.2.2.1) g4 d1.db (by omega) (by omega) (by omega)) ?_
 rintro _ w6 ⟨rfl, s6⟩
 have s6 := gc2 _ _ s6
 have d2 := noughtD_dg ((planT g).2.2.2.2.1 - 2).toNat d1.db 2
 generalize noughtD ((planT g).2.2.2.2.1 - 2).toNat A.2 2 = B at d2 s6 ⊢
 have s6 : St F w w6 [DiskA dp B.2, BoxA r1 (pcells P.1), BoxA r (gcells g)] := s6
 refine br_of (fun h => ?_) fun h => ?_
 · rw [if_pos (by simpa using h)]
   exact ⟨rfl, s6.sel [0] 3⟩
 rw [if_neg (by simpa using h)]
 refine s6.LA 2 rfl (p := g) rfl ?_
 refine callF_of (V85 g w6) ?_
 rintro S w7 ⟨hS, k7⟩
 refine (s6.grow k7).nvs rfl (na_p S.1) fun r2 w8 s8 => ?_
 have s8 : St F w w8 [BoxA r2 (pcells S.1), DiskA dp B.2, BoxA r1 (pcells P.1), BoxA r (gcells g)] := s8
 have hS2 : S.2 = 0 := by rw [hS]; unfold firstS; rw [if_pos hg]
 refine br_f (by simp [hS2]) ?_
 refine s8.LA 0 rfl (p := S.1) rfl ?_
 obtain ⟨G3, H3, g5, _, _, _, gc3⟩ := St.call [DiskA dp B.2] (s8.sel [1, 0, 2, 3] 4)
 refine callF_of (V77 (s := S.1) g5 d2.db (by omega)) ?_
 rw [hS]
 rintro _ w9 ⟨rfl, s9⟩
 exact ⟨rfl, (gc3 _ _ s9).sel [0] 4⟩
end Go.Proofs

set_option maxRecDepth 20000
namespace Go.Proofs
open Go.Eng
theorem OpenQ.split {D : DM} {dp : Nat} {st n h : Int} {w w' : World} {o : Option Addr × Sl × Int} (k : OpenQ D dp st n h w o w') : ∃ L, St noF w w' L ∧ ∀ w0 w2, St noF w0 w2 L → OpenQ D dp st n h w0 o w2 := by
 rcases k with ⟨h1, h2, h3⟩ | ⟨h1, b, s, t, xs, ys, h2, h3, h4, h5⟩
 · exact ⟨[], (St.init0 w).grow h3, fun w0 w2 k => .inl ⟨h1, h2, k.gro⟩⟩
 · exact ⟨_, h5, fun w0 w2 k => .inr ⟨h1, b, s, t, xs, ys, h2, h3, h4, k⟩⟩
def lapS (s : Sup) (t : Int) : Sup × Int := nextS s (lapV t s.2.2.1)
def LapsQ (D : DM) (dp : Nat) (s : Sup) (t : Int) (w : World) (x : Sup × (Option Addr) × Int) (w' : World) : Prop :=
 ((lapS s t).2 ≠ 0 ∧ x = ((lapS s t).1, none, 6) ∧ Grow w w') ∨
 ((lapS s t).2 = 0 ∧ ∃ o, OpenQ D dp 3 s.2.2.1 (lapS s t).1.2.2.2.2.2 w o w' ∧ x = ((lapS s t).1, o.1, if o.2.2 = 0 ∧ 0 < o.2.1.len then 50 else o.2.2))
theorem V75 {dp : Nat} {D : DM} {s : Sup} {t : Int} {N : Nat} {w : World} {F : Nat → Prop} (hh : Has [DiskA dp D] w F) (hd : DB N D) (hN : N ≤ 10000000) :
   Calls Tryz.prog 75 #[P0 dp, s.v, iv t] w (RetT [.agg [.int .i64, .int .i64, .int .i64, .int .i64, .int .i64, .int .i64], .c .ptr, .c (.int .i64)] (LapsQ D dp s t w)) := by
 refine F75_calls _ s.1 s.2.1 s.2.2.1 s.2.2.2.1 s.2.2.2.2.1 s.2.2.2.2.2 t _ _ ?_
 unfold F75
 refine St.nw (St.init0 w) fun r w1 s1 _ _ => St.nw s1 fun r1 w2 s2 _ _ => ?_
 have s2 : St noF w w2 [BoxA r1 (pcells Sup0), BoxA r (pcells s)] := s2
 obtain ⟨S, hS⟩ : ∃ S, lapS s t = S := ⟨_, rfl⟩
 unfold LapsQ
 rw [hS]
 refine jn_of (fun c W => ∃ b, c = ((some ⟨b, 0, none⟩ : Option Addr), S.2) ∧ St noF w W [BoxA b (pcells S.1), BoxA r1 (pcells Sup0), BoxA r (pcells s)]) ?_ ?_
 · rw [drw_def]
   have s3 := s2.drew
   refine s3.L 1 rfl (p := s.2.2.1) rfl ?_
   have hbr := (s3.bring 1).box
   generalize w2.drew = W5 at s3 hbr
   refine jn_of (fun c W => ∃ b, c = ((some ⟨b, 0, none⟩ : Option Addr), S.1, S.2) ∧ St noF W5 W [BoxA b (pcells Sup0)]) ?_ ?_
   · generalize hRR : (fun (c : Option Addr × Sup × Int) W => ∃ b, c = ((some ⟨b, 0, none⟩ : Option Addr), S.1, S.2) ∧ St noF W5 W [BoxA b (pcells Sup0)]) = RR
     have fin : ∀ {b W}, St noF W5 W [BoxA b (pcells Sup0)] → RR ((some ⟨b, 0, none⟩ : Option Addr), S.1, S.2) W := fun {b W} u => by rw [← hRR]; exact ⟨b, rfl, u⟩
     clear hRR
     have t0 := St.init0 W5
     have c130 : ∀ {W L} {k : Int → Pr}, St noF W5 W L → k (lapV t s.2.2.1) W → callF Tryz.prog 130 [iv t, iv s.2.2.1] [.c (.int .i64)] k W := fun {W L k} u hk =>
       callF_of (V130 t s.2.2.1 W) fun _ _ ⟨e, e'⟩ => by subst e e'; exact hk
     have c113 : ∀ {W L} {k : Sup × Int → Pr}, St noF W5 W L → (∀ W', St noF W5 W' L → k S W') → callF Tryz.prog 113 [s.v, iv (lapV t s.2.2.1)] [.agg [.int .i64, .int .i64, .int .i64, .int .i64, .int .i64, .int .i64], .c (.int .i64)] k W := fun {W L k} u hk => by
       refine callF_of (V113 s (lapV t s.2.2.1) W) ?_
       rintro e W' ⟨he, g⟩
       have : e = S := he.trans hS
       subst this
       exact hk W' (u.grow g)
     have cnw : ∀ {W L} {k : Nat → Pr}, St noF W5 W L → (∀ b W', St noF W5 W' (BoxA b (pcells Sup0) :: L) → k b W') → nw (.cells #[iv 0, iv 0, iv 0, iv 0, iv 0, iv 0] 61) k W := fun u hk => St.nw u fun b W' t' _ _ => hk b W' t'
     have cld : ∀ {W L} {k : Sup → Pr}, St noF W5 W L → k s W → ldA [.int .i64, .int .i64, .int .i64, .int .i64, .int .i64, .int .i64] (bA r 0) k W := fun {W L k} u hk => (hbr.grow u.gro).ldA hk
     repeat' first
       | with_reducible refine both_of ?_ ?_
       | with_reducible refine c130 (by assumption) ?_
       | with_reducible refine c113 (by assumption) fun _ _ => ?_
       | with_reducible refine cnw (by assumption) fun _ _ _ => ?_
       | with_reducible refine cld (by assumption) ?_
       | exact fin (by assumption)
   rintro _ W6 ⟨b, rfl, t1⟩
   have s8 : St noF w W6 [BoxA b (pcells Sup0), BoxA r1 (pcells Sup0), BoxA r (pcells s)] := s3.call0 t1
   rw [deref_some']
   refine s8.S 0 rfl (by simp) trivial fun _ s9 => ?_
   refine s9.S 0 rfl (by simp [setA]) trivial fun _ s10 => ?_
   refine s10.S 0 rfl (by simp [setA]) trivial fun _ s11 => ?_
   refine s11.S 0 rfl (by simp [setA]) trivial fun _ s12 => ?_
   refine s12.S 0 rfl (by simp [setA]) trivial fun _ s13 => ?_
   refine s13.S 0 rfl (by simp [setA]) trivial fun _ s14 => ?_
   exact ⟨b, rfl, s14⟩
 rintro _ w3 ⟨b, rfl, s3⟩
 refine br_of (fun h => ?_) fun h => ?_
 · have h : S.2 ≠ 0 := by simpa using h
   rw [deref_some']
   refine s3.LA 0 rfl (p := S.1) rfl ?_
   exact s3.SB 1 rfl rfl (na_p S.1) fun w4 s4 => St.LA 1 s4 rfl (p := S.1) rfl (.inl ⟨h, rfl, s4.gro⟩)
 · have h : S.2 = 0 := by simpa using h
   refine s3.L 2 rfl (p := s.2.2.1) rfl ?_
   rw [deref_some']
   refine s3.L 0 rfl (p := S.1.2.2.2.2.2) rfl ?_
   refine callF_of (V72 (hh.mod s3.gro fun _ _ h => h) hd hN) ?_
   rintro o w4 ho
   obtain ⟨L, k4, hL⟩ := ho.split
   have s4 : St noF w w4 (BoxA b (pcells S.1) :: BoxA r1 (pcells Sup0) :: BoxA r (pcells s) :: L) := (s3.call0 k4).perm List.perm_append_comm
   refine jn_of (fun e W => e = (if o.2.2 = 0 ∧ 0 < o.2.1.len then 50 else o.2.2) ∧ W = w4) ?_ ?_
   · refine jn_of (fun b W => b = decide (o.2.2 = 0 ∧ 0 < o.2.1.len) ∧ W = w4) ?_ ?_
     · refine br_of (fun h => ⟨?_, rfl⟩) fun h => ⟨?_, rfl⟩
       · have h : o.2.2 = 0 := by simpa using h
         exact decide_eq_decide.2 ⟨fun h' => ⟨h, Int.ofNat_lt.1 h'⟩, fun h' => Int.ofNat_lt.2 h'.2⟩
       · have h : o.2.2 ≠ 0 := by simpa using h
         exact (decide_eq_false (fun h' => h h'.1)).symm
     rintro _ _ ⟨rfl, rfl⟩
     refine br_of (fun h => ?_) fun h => ?_
     · rw [if_pos (of_decide_eq_true h)]; exact ⟨rfl, rfl⟩
     · rw [if_neg (of_decide_eq_false h)]; exact ⟨rfl, rfl⟩
   rintro _ _ ⟨rfl, rfl⟩
   rw [deref_some']
   refine s4.LA 0 rfl (p := S.1) rfl ?_
   exact s4.SB 1 rfl rfl (na_p S.1) fun w5 s5 => St.LA 1 s5 rfl (p := S.1) rfl (.inr ⟨h, o, hL _ _ s5.drop.drop.drop, rfl⟩)
end Go.Proofs

namespace Go.Proofs
open Go.Eng
theorem find_int (k : Int) : ∀ (es : List MapEntry) (ks : List Int) (i : Nat), es.map (·.key) = ints ks →
   (k ∉ ks ∧ Instr.findNow (.int .i64) (.int .i64 k) es i = some none) ∨ (k ∈ ks ∧ ∃ j e, es[j]? = some e ∧ e.key = .int .i64 k ∧ Instr.findNow (.int .i64) (.int .i64 k) es i = some (some (i + j, e.val)))
 | [], ks, i, h => by
   have : ks = [] := by
     have := congrArg List.length h
     simp at this
     exact List.eq_nil_of_length_eq_zero this.symm
   subst this
   exact .inl ⟨by simp, rfl⟩
 | e :: es, [], i, h => by simp [ints] at h
 | e :: es, x :: ks, i, h => by
   have h' : e.key = .int .i64 x ∧ es.map (·.key) = ints ks := by simpa [ints] using h
   have hs : Instr.sameNow (.int .i64) (.int .i64 k) e.key = some (k == x) := by rw [h'.1]; simp [Instr.sameNow]
   unfold Instr.findNow
   rw [hs]
   cases hkx : (k == x) with
   | true =>
     rw [beq_iff_eq] at hkx
     subst hkx
     exact .inr ⟨by simp, 0, e, rfl, h'.1, by simp⟩
   | false =>
     have hne : k ≠ x := by simpa using hkx
     rcases find_int k es ks (i + 1) h'.2 with ⟨h1, h2⟩ | ⟨h1, j, e', h2, h3, h4⟩
     · exact .inl ⟨by simp [hne, h1], h2⟩
     · refine .inr ⟨by simp [h1], j + 1, e', by simpa using h2, h3, ?_⟩
       rw [show i + (j + 1) = i + 1 + j by omega]
       exact h4
def addB (ks : List Int) (k : Int) : List Int := if k ∈ ks then ks else ks ++ [k]
theorem put_int {w : World} {m : Nat} {es : Array MapEntry} {clock : Nat} {ks : List Int} {k : Int} {v : Value} {f : Pr} (h : MapI w m es clock ks)
   (hk : ∀ w' es' clock', MapI w' m es' clock' (addB ks k) → Mod (· = m) w w' → w'.heap.size = w.heap.size → f w') : mapPut (.int .i64) (some m) (.int .i64 k) v f w := by
 have hlt : m < w.heap.size := by
   rcases Nat.lt_or_ge m w.heap.size with h' | h'
   · exact h'
   · have := h.heap; rw [Array.getElem?_eq_none h'] at this; cases this
 have hput : ∀ o, (({ w with heap := w.heap.setIfInBounds m o } : World)).heap[m]? = some o := fun o => by simp [hlt]
 have hmod : ∀ o, Mod (· = m) w ({ w with heap := w.heap.setIfInBounds m o } : World) := fun o => (Mod.refl _ w).putObj (.inl rfl)
 rcases find_int k es.toList ks 0 h.keys with ⟨h1, h2⟩ | ⟨h1, j, e, h2, h3, h4⟩
 · refine ⟨m, es, clock, none, rfl, h.heap, h2, ?_⟩
   refine hk _ (es.push { key := .int .i64 k, val := v, born := clock }) (clock + 1) ⟨hput _, ?_, ?_, ?_, ?_⟩ (hmod _) (by simp)
   · intro e he
     rw [Array.toList_push] at he
     rcases List.mem_append.1 he with he | he
     · have := h.born e he; omega
     · rw [List.mem_singleton] at he; subst he; exact Nat.lt_succ_self _
   · rw [Array.toList_push, List.map_append, List.nodup_append]
     refine ⟨h.nod, by simp, fun a ha b hb => ?_⟩
     obtain ⟨e, he, rfl⟩ := List.mem_map.1 ha
     have := h.born e he
     simp at hb
     omega
   · rw [Array.toList_push, List.map_append, h.keys]
     unfold addB
     rw [if_neg h1, ints_append]
     rfl
   · unfold addB
     rw [if_neg h1, List.nodup_append]
     refine ⟨h.knod, by simp, fun a ha b hb => ?_⟩
     rw [List.mem_singleton] at hb
     rintro rfl
     exact h1 (hb ▸ ha)
 · refine ⟨m, es, clock, some (0 + j, e.val), rfl, h.heap, h4, ?_⟩
   have hje : es[0 + j]? = some e := by rw [Nat.zero_add]; simpa using h2
   refine ⟨?_, ?_⟩
   · rw [hje]
     simp [h3, Instr.sameBits]
   · have hkeys : ∀ g : MapEntry → MapEntry, (∀ x, (g x).born = x.born) → (g e).key = e.key → (es.modify (0 + j) g).toList.map (·.born) = es.toList.map (·.born) ∧ (es.modify (0 + j) g).toList.map (·.key) = es.toList.map (·.key) := by
       intro g hg1 hg2
       constructor
       · refine List.ext_getElem? fun i => ?_
         simp only [List.getElem?_map, Array.getElem?_toList, Array.getElem?_modify]
         split
         · cases es[i]? <;> simp [hg1]
         · rfl
       · refine List.ext_getElem? fun i => ?_
         simp only [List.getElem?_map, Array.getElem?_toList, Array.getElem?_modify]
         split
         · rename_i hi
           rw [← hi, hje]
           simp [hg2]
         · rfl
     obtain ⟨hb1, hb2⟩ := hkeys (fun e => { e with key := .int .i64 k, val := v }) (fun _ => rfl) (by simp [h3])
     refine hk _ (es.modify (0 + j) fun e => { e with key := .int .i64 k, val := v }) clock ⟨hput _, ?_, by rw [hb1]; exact h.nod, by rw [hb2, h.keys]; unfold addB; rw [if_pos h1], by unfold addB; rw [if_pos h1]; exact h.knod⟩ (hmod _) (by simp)
     intro x hx
     have : x.born ∈ es.toList.map (·.born) := by rw [← hb1]; exact List.mem_map.2 ⟨x, hx, rfl⟩
     obtain ⟨y, hy, hyx⟩ := List.mem_map.1 this
     rw [← hyx]
     exact h.born y hy
end Go.Proofs
