import Derived.Test.YtiebhappinojmaaGreatX1
import Derived.Test.YtiebhappinojmaaGreatX2
import Derived.Test.YtiebhappinojmaaGreatX3
import Derived.Test.YtiebhappinojmaaGreatX4
import Derived.Test.YtiebhappinojmaaGreatX5
import Derived.Test.YtiebhappinojmaaGreatProg
import Derived.Below
import GoSem.Claim
import Derived.OpenShut
import Derived.ChangeAt
import Derived.ChangeSlices
import Derived.Deep.Slices
set_option linter.unusedVariables false
set_option linter.unusedSimpArgs false
set_option linter.unusedSectionVars false
set_option maxRecDepth 20000
namespace Go.Proofs
open Go.Eng
theorem falls_db {D : DM} {N : Nat} (h : DB N D) (pl : List UInt8) : DG D (fallsD D pl) N 0 :=
 ⟨⟨fallsD_ok h.ok pl, ⟨⟨Int.le_refl 0, by show (0 : Int) ≤ _; decide⟩, h.bd.ops, Nat.zero_le _⟩⟩, fallGo_len _ _ _⟩
theorem Good.falls {D : DM} {g : Geo} {k : Nat} {C : Int → List UInt8} (h : Good D g k C) (hD : D.ok) (pl : List UInt8) : Good (fallsD D pl) g k C := by
 obtain ⟨l, h1, h2, h3, h4, h5⟩ := h
 have hl : (fallsD D pl).blocks.length = D.blocks.length := fallGo_len _ _ _
 exact ⟨l, law_len h1 hl, fun b k v h0 hb hk hs => h2 b k v h0 (by rw [← hl]; exact hb) hk (falls_sv hD h0 hk hs), h3, h4, h5⟩
theorem Good.same {D E : DM} {g : Geo} {k : Nat} {C : Int → List UInt8} (h : Good D g k C) (hb : E.blocks = D.blocks) (hw : E.wait = D.wait) : Good E g k C := by
 obtain ⟨l, h1, h2, h3⟩ := h
 exact ⟨l, law_len h1 (by rw [hb]), h2.same hb hw, h3⟩
abbrev onD (D : DM) : DM := { D with off := false }
theorem onD_db {D : DM} {N : Nat} (h : DB N D) : DG D (onD D) N 0 := ⟨⟨⟨h.ok.len, h.ok.wlen, h.ok.pos, h.ok.le⟩, ⟨h.bd.armed, h.bd.ops, h.bd.wait⟩⟩, rfl⟩
end Go.Proofs

set_option maxRecDepth 20000
namespace Go.Proofs
open Go.Eng
theorem frz_alloc (w : World) (cs : Array Value) (E : TypeId) (n : Nat) : (w.alloc (.cells cs E)).freeze ⟨w.heap.size, n, none⟩ 1 = w.alloc (.cells cs E (n, n + 1)) := by
 unfold World.freeze World.alloc
 rw [if_neg (by decide)]
 congr 1
 apply Array.ext_getElem?
 intro i
 rw [Array.getElem?_modify]
 rcases Nat.lt_trichotomy w.heap.size i with h | h | h
 · rw [if_neg (by dsimp only; omega), Array.getElem?_eq_none (by simp; omega), Array.getElem?_eq_none (by simp; omega)]
 · subst h
   rw [if_pos rfl]
   simp
 · rw [if_neg (by dsimp only; omega), Array.getElem?_push_lt h, Array.getElem?_push_lt h]
theorem frz_cell (w : World) (cs : Array Value) (E : TypeId) (n o : Nat) : (w.alloc (.cells cs E (n, n + 1))).cell? ⟨w.heap.size, o, none⟩ = cs[o]? := by
 unfold World.cell? World.alloc
 simp
theorem frz_frozen (w : World) (cs : Array Value) (E : TypeId) (n o : Nat) : (w.alloc (.cells cs E (n, n + 1))).frozen? ⟨w.heap.size, o, none⟩ = (decide (n ≤ o) && decide (o < n + 1)) := by
 unfold World.frozen? World.alloc
 simp
theorem frz_own {F0 : Nat → Prop} {w0 w : World} {L : List HA} {cs : Array Value} {E : TypeId} {vs spare : List Value} {n : Nat} (h : St F0 w0 w L) (hc : cs.toList = vs ++ spare) (hn : n = vs.length) :
   St F0 w0 ((w.alloc (.cells cs E)).freeze ⟨w.heap.size, cs.size, none⟩ 1) (SlA 1 ⟨some ⟨w.heap.size, 0, none⟩, n, cs.size⟩ vs :: L) := by
 rw [frz_alloc]
 have hsz : cs.size = (vs ++ spare).length := by rw [← hc]; simp
 refine h.mksl ((Mod.refl _ w).alloc _) ⟨by simp [hn], by rw [hn, hsz]; simp, .inr ⟨w.heap.size, 0, spare, rfl, Nat.le_refl _, by simp, fun o v hv => ?_, ?_, by rw [← hsz]; simp⟩⟩
 · rw [frz_cell] at hv
   rw [frz_frozen]
   have : o < cs.size := (Array.getElem?_eq_some_iff.1 hv).1
   rw [decide_eq_false (by omega)]
   rfl
 · intro j v hj
   rw [add_mk, Nat.zero_add, frz_cell, ← hj, ← hc]
   simp
theorem St.nwMark {F0 : Nat → Prop} {w0 w : World} {L : List HA} {cs : Array Value} {E : TypeId} {k : Nat → Pr} (h : St F0 w0 w L)
   (hk : ∀ r w', St F0 w0 w' (SlA 1 ⟨some ⟨r, 0, none⟩, cs.size, cs.size⟩ cs.toList :: L) → k r w') : nw (.cells cs E) (fun r => markS ⟨r, 0, none⟩ (k r)) w := by
 rw [nw_def]
 refine ⟨E, cs.size, by unfold World.shape? World.alloc; simp, ?_⟩
 exact hk _ _ (frz_own h (vs := cs.toList) (spare := []) (by simp) (by simp))
theorem openT_lap {D : DM} (h : (openT D).1 = 0) : (lapS (chosenS D).1 ((chosenS D).1.2.2.2.2.2 + (scanO D 3 (chosenS D).1.2.2.1 (chosenS D).1.2.2.2.2.2).length)).2 = 0 := by
 refine Classical.byContradiction fun hn => ?_
 revert h
 unfold openT
 dsimp only
 split
 · exact fun h => by cases h
 · split
   · rename_i h1; exact fun h => absurd h h1
   · split
     · exact fun h => by cases h
     · split
       · rename_i h1; exact fun h => absurd h h1
       · split
         · exact fun h => by cases h
         · rw [if_pos]
           · unfold lapE
             rw [if_pos hn]
             exact fun h => by cases h
           · unfold lapE
             rw [if_pos hn]
             decide
section
variable {x dp N M : Nat} {T : TM} {D : DM} {w w0 : World} {F0 : Nat → Prop} {L : List HA}
theorem openC {K : Option Addr × Int → Pr} (h : St F0 w0 w (DiskA dp D :: L)) (hD : DB M D) (hM : M ≤ 900000)
   (k1 : (openT D).1 ≠ 0 → ∀ w', St F0 w0 w' (DiskA dp (openT D).2 :: L) → K (none, (openT D).1) w')
   (k2 : (openT D).1 = 0 → ∀ x w', St F0 w0 w' (TxA x dp 0 (T0 D) :: DiskA dp (openT D).2 :: L) → K (some ⟨x, 0, none⟩, 0) w') : callF Tryz.prog 24 [P0 dp] [.c .ptr, .c (.int .i64)] K w := by
 obtain ⟨G, H, g2, _, _, _, gc⟩ := St.call [DiskA dp D] h
 refine callF_of (V24 g2 hD hM) ?_
 rintro r w1 (⟨h1, rfl, s1⟩ | ⟨h1, x, b, g, c, m, s, S, rfl, hS, s1⟩)
 · exact k1 h1 w1 (gc _ _ s1)
 · refine k2 h1 x w1 ?_
   have s2 := gc _ _ s1
   have e : (T0 D).S = S := hS.symm
   have en : S.2.2.1 = (chosenS D).1.2.2.1 ∨ True := .inr trivial
   have s3 : St F0 w0 w1 (BoxA x (storeC b dp S (ofG (supG (chosenS D).1)).1 false false m) :: BoxA b [P0 g, P0 c] :: BoxA g (ringC dp 3 (chosenS D).1.2.2.1 S.2.2.2.2.2 s) :: SlA 5 s (rcs []) :: bts [] :: CacheA c dp ⟨256, 0, []⟩ :: MapA intKT m [] :: DiskA dp (openT D).2 :: L) := s2
   have s4 := (s3.nobig).sel [1, 2, 3, 4, 5, 6, 7, 0, 8] 9
   refine St.tClose (T := T0 D) (i := ⟨b, g, c, m, s, [], ⟨256, 0, []⟩, []⟩) ?_ ⟨rfl, rfl, fun _ => ⟨⟨List.nodup_nil, (fun x hx => by cases hx), (fun x hx => by cases hx), ⟨show (2 : Int) ≤ 256 by decide, show (256 : Int) ≤ 256 by decide⟩, by show ((0 : Nat) : Int) ≤ 256; decide, (fun x hx => by cases hx), List.nodup_nil, Int.le_refl 0⟩, rfl, (fun x hx => by cases hx), (fun x hx => by cases hx), Int.le_refl 0, (fun x hx => by cases hx)⟩⟩
   have hn : (T0 D).n = (chosenS D).1.2.2.1 := by
     have h2 := (nextS_ok (openT_lap h1)).1
     show (lapS _ _).1.2.2.1 = _
     unfold lapS
     rw [h2]
   rw [hn]
   show St F0 w0 w1 (BoxA x (storeC b dp (T0 D).S (ofG (supG (chosenS D).1)).1 false false m) :: BoxA b [P0 g, P0 c] :: BoxA g (ringC dp 3 (chosenS D).1.2.2.1 (T0 D).S.2.2.2.2.2 s) :: _)
   rw [e]
   exact s4
theorem beginC {K : Int → Pr} (h : St F0 w0 w (TxA x dp N T :: DiskA dp T.D :: L)) (ht : T.up) (hb : T.busy = false) (hK : ∀ w', St F0 w0 w' (TxA x dp N { T with busy := true } :: DiskA dp T.D :: L) → K 0 w') : callF Tryz.prog 28 [P0 x] [.c (.int .i64)] K w := by
 obtain ⟨i, hp, s0⟩ := h.tOpen
 have s1 : St F0 w0 w (BoxA x (storeC i.b dp T.S T.P T.busy T.dead i.m) :: DiskA dp T.D :: BoxA i.b [P0 i.g, P0 i.c] :: BoxA i.g (ringC dp 3 T.n T.h i.s) :: SlA 5 i.s (rcs i.xs) :: bts i.xs :: CacheA i.c dp i.C :: MapA intKT i.m (i.pl.map Pg.kv) :: bigA (i.pl.map Pg.A) :: L) := s0.sel [0, 8, 1, 2, 3, 4, 5, 6, 7] 9
 obtain ⟨G, H, g2, _, _, _, gc⟩ := St.call [BoxA x (storeC i.b dp T.S T.P T.busy T.dead i.m), DiskA dp T.D] s1
 refine callF_of (V28 g2 ht.ok.D) ?_
 rintro r w1 ⟨hr, s2⟩
 have s2 := gc _ _ s2
 have e : beginE T.busy T.dead T.D = 0 := by unfold beginE; rw [ht.dead, ht.off, hb]; rfl
 rw [hr, e]
 rw [hb, ht.dead, ht.off] at s2
 have s3 : St F0 w0 w1 (BoxA x (storeC i.b dp T.S T.P true false i.m) :: DiskA dp T.D :: BoxA i.b [P0 i.g, P0 i.c] :: BoxA i.g (ringC dp 3 T.n T.h i.s) :: SlA 5 i.s (rcs i.xs) :: bts i.xs :: CacheA i.c dp i.C :: MapA intKT i.m (i.pl.map Pg.kv) :: bigA (i.pl.map Pg.A) :: L) := s2
 refine hK w1 (St.tClose (T := { T with busy := true }) (i := i) ?_ ⟨hp.xs, hp.pl, hp.cc⟩)
 have e2 : T.dead = false := ht.dead
 rw [show ({ T with busy := true } : TM).dead = false from e2]
 exact s3.sel [0, 2, 3, 4, 5, 6, 7, 8, 1] 9
theorem writeC {i o : Int} {p : Sl} {l : List UInt8} {K : Int → Pr} (h : St F0 w0 w (TxA x dp N T :: DiskA dp T.D :: L)) (ht : T.ok) (hw : T.D.wait.length ≤ 10000000) (hN : N ≤ 1000000000) (hb : ∀ {G H : Nat → Prop}, Has [TxA x dp N T, DiskA dp T.D] w G → Has L w H → (∀ b, G b → ¬ H b) → Rd w G p l)
   (hK : ∀ w', St F0 w0 w' (TxA x dp (N + 1) (T.write i o l).2 :: DiskA dp T.D :: L) → K (T.write i o l).1 w') : callF Tryz.prog 31 [P0 x, iv i, iv o, slV p] [.c (.int .i64)] K w := by
 obtain ⟨G, H, g2, g3, g4, _, gc⟩ := St.call [TxA x dp N T, DiskA dp T.D] h
 refine callF_of (V31 (i := i) (o := o) g2 ht hw hN (hb g2 g3 g4)) ?_
 rintro r w1 ⟨hr, s1⟩
 rw [hr]
 exact hK w1 (gc _ _ s1)
theorem readC {i o n : Int} {K : Sl × Int → Pr} (h : St F0 w0 w (TxA x dp N T :: DiskA dp T.D :: L)) (ht : T.ok) (hw : T.D.wait.length ≤ 10000000) (hN : N ≤ 1000000000)
   (hK : ∀ t w', St F0 w0 w' (SlA 1 t ((T.read i o n).2.map ub) :: TxA x dp (N + 1) T.mark :: DiskA dp T.D :: L) → K (t, (T.read i o n).1) w') : callF Tryz.prog 27 [P0 x, iv i, iv o, iv n] [.c .slice, .c (.int .i64)] K w := by
 obtain ⟨G, H, g2, _, _, _, gc⟩ := St.call [TxA x dp N T, DiskA dp T.D] h
 refine callF_of (V27 (i := i) (o := o) (n := n) g2 ht hw hN) ?_
 rintro ⟨t, e⟩ w1 ⟨hr, s1⟩
 dsimp only at hr s1
 rw [hr]
 have s2 := gc _ _ s1
 have s2 : St F0 w0 w1 (TxA x dp (N + 1) T.mark :: DiskA dp T.D :: SlA 1 t ((T.read i o n).2.map ub) :: L) := s2
 exact hK t w1 (s2.sel [2, 0, 1] 3)
theorem crashC {p : Sl} {pl : List UInt8} {K : Int → Pr} (h : St F0 w0 w (DiskA dp D :: L)) (hD : DB M D) (hM : M ≤ 10000000) (hb : ∀ {G H : Nat → Prop}, Has [DiskA dp D] w G → Has L w H → (∀ b, G b → ¬ H b) → Rd w G p pl)
   (hK : ∀ w', St F0 w0 w' (DiskA dp (crashD D pl).2 :: L) → K (crashD D pl).1 w') : callF Tryz.prog 22 [P0 dp, slV p] [.c (.int .i64)] K w := by
 obtain ⟨G, H, g2, g3, g4, _, gc⟩ := St.call [DiskA dp D] h
 refine callF_of (V22 dp D p pl M w G g2 (hb g2 g3 g4) hD hM) ?_
 rintro r w1 ⟨hr, s1⟩
 rw [hr]
 exact hK w1 (gc _ _ s1)
theorem upC {K : Int → Pr} (h : St F0 w0 w (DiskA dp D :: L)) (hD : D.ok) (hK : ∀ w', St F0 w0 w' (DiskA dp (upD D).2 :: L) → K (upD D).1 w') : callF Tryz.prog 23 [P0 dp] [.c (.int .i64)] K w := by
 obtain ⟨G, H, g2, _, _, _, gc⟩ := St.call [DiskA dp D] h
 refine callF_of (C51 dp D w G g2 hD) ?_
 rintro r w1 ⟨hr, s1⟩
 rw [hr]
 exact hK w1 (gc _ _ s1)
theorem formatC {g : Geo} {K : Int → Pr} (h : St F0 w0 w (DiskA dp D :: L)) (hD : DB M D) (hM : M ≤ 500000) (hK : ∀ w', St F0 w0 w' (DiskA dp (formatD D g).2 :: L) → K (formatD D g).1 w') : callF Tryz.prog 37 [P0 dp, g.v] [.c (.int .i64)] K w := by
 obtain ⟨G, H, g2, _, _, _, gc⟩ := St.call [DiskA dp D] h
 refine callF_of (V37 g2 hD hM) ?_
 rintro r w1 ⟨hr, s1⟩
 rw [hr]
 exact hK w1 (gc _ _ s1)
theorem Rd.nil (w : World) (F : Nat → Prop) : Rd w F ⟨none, 0, 0⟩ [] := ⟨⟨rfl, rfl⟩, fun _ h => absurd rfl h⟩
end
end Go.Proofs

set_option maxRecDepth 20000
namespace Go.Proofs
open Go.Eng
theorem V187 (s : Sup) (w : World) : Calls Tryz.prog 187 #[s.v] w (RetT [.c (.int .i64)] fun r w' => r = supE s ∧ Grow w w') := by
 refine F187_calls s.1 s.2.1 s.2.2.1 s.2.2.2.1 s.2.2.2.2.1 s.2.2.2.2.2 _ _ ?_
 unfold F187
 refine St.nw (St.init0 w) fun r w1 s1 _ _ => ?_
 have s1 : St noF w w1 [BoxA r (pcells s)] := s1
 have hrow : readsAt w1 (bA r 1) 0 (valA [.int .i64, .int .i64, .int .i64, .int .i64] (supG s)) := by
   exact readsAt_row.2 ((s1.box.row.drop 1).take 4)
 refine ldA_of (l := [.int .i64, .int .i64, .int .i64, .int .i64]) (p := supG s) hrow ?_
 refine callF_of (V13 (supG s) w1) ?_
 rintro e w2 ⟨he, g2⟩
 have s2 := s1.grow g2
 refine br_of (fun h => ?_) fun h => ?_
 · have h : e ≠ 0 := by simpa using h
   have h4 : geoE (supG s) = 40 := by rw [← he]; exact (he ▸ geoE_cases _ : e = 0 ∨ e = 40).resolve_left h
   refine ⟨?_, s2.gro⟩
   unfold supE
   rw [if_pos h4, he, h4]
 have h : e = 0 := by simpa using h
 rw [supE_g (by rw [← he, h])]
 refine jn_of (fun b W => b = decide (¬ supR s) ∧ W = w2) ?_ ?_
 · unfold supR
   refine s2.L 0 rfl (p := s.1) rfl (br_of (fun h => ⟨dec_true (by simp at h; omega), rfl⟩) fun h1 => ?_)
   refine s2.L 0 rfl (p := s.1) rfl (br_of (fun h => ⟨dec_true (by simp at h; omega), rfl⟩) fun h2 => ?_)
   refine s2.L 0 rfl (p := s.2.2.2.2.2) rfl (br_of (fun h => ⟨dec_true (by simp at h; omega), rfl⟩) fun h3 => ?_)
   refine s2.L 0 rfl (p := s.2.2.2.2.2) rfl ⟨?_, rfl⟩
   simp only [decide_eq_false_iff_not] at h1 h2 h3
   exact decide_eq_decide.2 (by omega)
 rintro _ _ ⟨rfl, rfl⟩
 refine br_of (fun h => ⟨?_, s2.gro⟩) fun h => ⟨?_, s2.gro⟩
 · simp only [decide_eq_true_eq] at h; rw [if_neg h]
 · simp only [decide_eq_false_iff_not, Classical.not_not] at h; rw [if_pos h]
theorem V88 (g : Geo) (w : World) : Calls Tryz.prog 88 #[g.v] w (RetT [.agg [.int .i64, .int .i64, .int .i64, .int .i64, .int .i64, .int .i64], .c (.int .i64)] fun r w' => r = firstS g ∧ Grow w w') := by
 refine F88_calls g.1 g.2.1 g.2.2.1 g.2.2.2 _ _ ?_
 unfold F88 firstS
 refine St.nw (St.init0 w) fun r w1 s1 _ _ => St.nw s1 fun r1 w2 s2 _ _ => ?_
 refine s2.LA 1 rfl (p := g) rfl ?_
 refine callF_of (V13 g w2) ?_
 rintro e w3 ⟨he, g3⟩
 have s3 := s2.grow g3
 rw [← he]
 refine br_of (fun h => ?_) fun h => ?_
 · have h : e ≠ 0 := by simpa using h
   refine s3.SB 0 rfl rfl (na_p Sup0) fun w4 s4 => St.LA 0 s4 rfl (p := Sup0) rfl ⟨?_, s4.gro⟩
   rw [if_neg h, (he ▸ geoE_cases g : e = 0 ∨ e = 40).resolve_left h]
 · have h : e = 0 := by simpa using h
   have hr := (geoE_R (he.symm.trans h)).1
   refine s3.LA 1 rfl (p := g) rfl ?_
   refine s3.L 1 rfl (p := g.2.1) rfl ?_
   rw [w64_of ⟨by omega, by omega⟩]
   refine s3.SB 0 rfl rfl (na_p (2, g.1, g.2.1, g.2.2.1, g.2.2.2, 4 * g.2.1)) fun w4 s4 => St.LA 0 s4 rfl (p := (2, g.1, g.2.1, g.2.2.1, g.2.2.2, 4 * g.2.1)) rfl ⟨?_, s4.gro⟩
   rw [if_pos h]
theorem V139 (s : Sup) (w : World) : Calls Tryz.prog 139 #[s.v] w (RetT [.c (.int .i64)] fun r w' => r = slotS s ∧ Grow w w') := by
 refine F139_calls s.1 s.2.1 s.2.2.1 s.2.2.2.1 s.2.2.2.2.1 s.2.2.2.2.2 _ _ ?_
 unfold F139 slotS
 refine St.nw (St.init0 w) fun r w1 s1 _ _ => s1.L 0 rfl (p := s.1) rfl ?_
 refine br_of (fun a => ?_) fun a => ?_
 · exact ⟨(if_pos (by simpa using a)).symm, s1.gro⟩
 · simp only [decide_eq_false_iff_not] at a
   refine s1.L 0 rfl (p := s.1) rfl ⟨by decide, ?_, s1.gro⟩
   rw [if_neg a, Int.tmod_eq_emod_of_nonneg (by omega)]
theorem numR_app {F0 : Nat → Prop} {w0 w : World} {L : List HA} {s : Sl} {A : List UInt8} {n : Nat} {v : Int} {k : Sl → Pr} (h : St F0 w0 w (SlA 1 s (A.map ub) :: L)) (h1 : 1 ≤ n) (h8 : n ≤ 8) (hv : 0 ≤ v ∧ v ≤ 1152921504606846976) (hl : A.length ≤ 1000000)
   (hk : ∀ r w', St F0 w0 w' (SlA 1 r ((A ++ numB n v.toNat).map ub) :: L) → k r w') :
   callF Tryz.prog 188 [iv n, .int .u64 (wU64 v)] [.c .slice] (fun t => app 5 1 1 [uv 0] s t k) w := by
 rw [wU64_of ⟨by omega, by omega⟩]
 have e : v = (v.toNat : Int) := by omega
 generalize v.toNat = m at e hk
 subst e
 refine callF_of (Y37 n m w h1 h8) fun t w1 s1 => ?_
 have s2 : St F0 w0 w1 (SlA 1 s (A.map ub) :: SlA 1 t ((numB n m).map ub) :: L) := (h.call0 s1).bring 1
 exact s2.appB (by rw [numB_len]; omega) fun r w2 s3 => hk r w2 (s3.del 1)
theorem pad_loop {F0 : Nat → Prop} {w0 w : World} {L : List HA} {s : Sl} {A : List UInt8} {n : Nat} {k : Sl → Pr} (h : St F0 w0 w (SlA 1 s (A.map ub) :: L)) (hn : A.length ≤ n) (hb : n ≤ 1000)
   (hk : ∀ r w', St F0 w0 w' (SlA 1 r ((A ++ List.replicate (n - A.length) 0).map ub) :: L) → k r w') :
   loopE (S := Sl) (fun X s => br (decide ((s.len : Int) < (n : Int))) (nw (.cells #[uv 0] 5) fun r => app 5 1 1 [uv 0] s ⟨some ⟨r, 0, none⟩, 1, 1⟩ fun t => X t) (k s)) s w := by
 refine loop_of (fun z W => ∃ j : Nat, A.length + j ≤ n ∧ St F0 w0 W (SlA 1 z ((A ++ List.replicate j 0).map ub) :: L)) (fun z _ => n - z.len) ⟨0, by omega, by rw [List.replicate_zero, List.append_nil]; exact h⟩ ?_
 rintro t W ⟨j, hj, s1⟩
 have hl : t.len = A.length + j := by have := slA_len1 s1.sl; rw [List.length_map, List.length_append, List.length_replicate] at this; exact this
 refine br_of (fun hlt => ?_) fun hge => ?_
 · simp only [decide_eq_true_eq] at hlt
   refine append_one (n := 0) s1 rfl (by simp; omega) fun r w2 s2 => ?_
   have hl2 : r.len = A.length + j + 1 := by have := slA_len1 s2.sl; simp at this; omega
   exact ⟨⟨j + 1, by omega, by rw [List.replicate_succ', ← List.append_assoc]; exact s2⟩, by omega⟩
 · simp only [decide_eq_false_iff_not] at hge
   refine hk t W ?_
   rw [show n - A.length = j by omega]
   exact s1
theorem V138 (s : Sup) (w : World) : Calls Tryz.prog 138 #[s.v] w (RetT [.c .slice, .c (.int .i64)] fun r w' => r.2 = supE s ∧ ((supE s ≠ 0 ∧ r.1 = ⟨none, 0, 0⟩ ∧ Grow w w') ∨ supE s = 0 ∧ St noF w w' [SlA 1 r.1 ((bytesS s).map ub)])) := by
 refine F138_calls s.1 s.2.1 s.2.2.1 s.2.2.2.1 s.2.2.2.2.1 s.2.2.2.2.2 _ _ ?_
 unfold F138
 refine St.nw (St.init0 w) fun r w1 s1 _ _ => ?_
 have s1 : St noF w w1 [BoxA r (pcells s)] := s1
 refine s1.LA 0 rfl (p := s) rfl ?_
 refine callF_of (V187 s w1) ?_
 rintro e w2 ⟨he, g2⟩
 have s2 := s1.grow g2
 refine br_of (fun h => ⟨he, .inl ⟨by rw [← he]; simpa using h, rfl, s2.gro⟩⟩) fun h => ?_
 have h0 : supE s = 0 := by rw [← he]; simpa using h
 obtain ⟨b1, b2, b3, b4, b5, b6⟩ := supE_num h0
 refine St.nwMark s2 fun r1 w3 s3 => ?_
 have s3 : St noF w w3 [SlA 1 ⟨some (bA r1 0), 8, 8⟩ (magicS.map ub), BoxA r (pcells s)] := s3
 refine s3.L 1 rfl (p := s.1) rfl ?_
 refine numR_app (n := 8) s3 (by decide) (by decide) ⟨by omega, b1.2⟩ (by decide) fun t2 w5 s5 => ?_
 refine s5.L 1 rfl (p := s.2.1) rfl ?_
 refine numR_app (n := 4) s5 (by decide) (by decide) ⟨b2.1, by omega⟩ (by simp [numB_len, magicS]) fun t3 w6 s6 => ?_
 refine s6.L 1 rfl (p := s.2.2.1) rfl ?_
 refine numR_app (n := 4) s6 (by decide) (by decide) ⟨b3.1, by omega⟩ (by simp [numB_len, magicS]) fun t4 w7 s7 => ?_
 refine s7.L 1 rfl (p := s.2.2.2.1) rfl ?_
 refine numR_app (n := 4) s7 (by decide) (by decide) ⟨b4.1, by omega⟩ (by simp [numB_len, magicS]) fun t5 w8 s8 => ?_
 refine s8.L 1 rfl (p := s.2.2.2.2.1) rfl ?_
 refine numR_app (n := 4) s8 (by decide) (by decide) ⟨b5.1, by omega⟩ (by simp [numB_len, magicS]) fun t6 w9 s9 => ?_
 refine s9.L 1 rfl (p := s.2.2.2.2.2) rfl ?_
 refine numR_app (n := 8) s9 (by decide) (by decide) b6 (by simp [numB_len, magicS]) fun t7 w10 s10 => ?_
 have s10 : St noF w w10 [SlA 1 t7 ((superL s).map ub), BoxA r (pcells s)] := s10
 refine pad_loop (n := 60) s10 (by rw [superL_len]; decide) (by decide) fun t8 w11 s11 => ?_
 rw [superL_len] at s11
 have hl11 : (superL s ++ List.replicate 20 0).length = 60 := by simp [superL_len]
 have s11 : St noF w w11 [SlA 1 t8 ((superL s ++ List.replicate 20 0).map ub), BoxA r (pcells s)] := s11
 refine callF_of (Y38 t8 _ w11 s11.sl.bs (by rw [hl11]; decide)) ?_
 rintro x _ ⟨rfl, rfl⟩
 refine numR_app (n := 4) s11 (by decide) (by decide) ⟨Int.natCast_nonneg _, Int.le_trans (Int.ofNat_le.2 (Nat.le_of_lt (sumM_lt _))) (by decide)⟩ (by rw [hl11]; decide) fun t9 w12 s12 => ?_
 rw [Int.toNat_natCast] at s12
 have s12 : St noF w w12 [SlA 1 t9 ((sealM (superL s ++ List.replicate 20 0)).map ub), BoxA r (pcells s)] := s12
 have hl12 : (sealM (superL s ++ List.replicate 20 0)).length = 64 := by unfold sealM; rw [List.length_append, hl11, numB_len]
 refine pad_loop (n := 256) s12 (by rw [hl12]; decide) (by decide) fun t10 w13 s13 => ?_
 rw [hl12] at s13
 exact ⟨h0.symm, .inr ⟨h0, St.dropR (l := [_]) s13⟩⟩
end Go.Proofs

set_option maxRecDepth 100000
namespace Go.Proofs
open Go.Eng
def an87 : An := (.sq .z (.sq (.sq .z (.bl (.lp [(7, .c (.int .i64))] (.sq (.sq .z (.br .z .z)) (.sq (.bl (.sq .z (.sq .z (.br (.sq .z .z) .z)))) .z))))) (.sq .z .z)))
def F87 (p0 : Option Addr) (p1 : Int) (p2 : Int) (Q : Int → Pr) : Pr :=
 loopE (S:=Int) (fun X s =>
 br (decide (s < p2)) (
 mkS 5 1 [(uv 0)] 256 256 fun t17 =>
 callF Tryz.prog 136 [(.pointer p0), (iv s), (slV t17)] [.c I64] fun (t18 : Int) =>
 br (t18 != 0) (
 Q t18) (
 X ((w64 (s + 1))))) (
 callF Tryz.prog 137 [(.pointer p0)] [.c I64] fun (t23 : Int) =>
 Q t23)) p1
theorem F87_calls (p0 : Option Addr) (p1 : Int) (p2 : Int) (Q : Int → Pr) (w : World) (h : F87 p0 p1 p2 Q w) : Calls Tryz.prog 87 #[(.pointer p0), (iv p1), (iv p2)] w (RetT [.c I64] Q) := cF (an := an87) Tryz.func87 (by kernel_rfl) h
def an89 : An := (.sq .z (.sq .z (.sq (.sq .z (.br (.sq .z .z) .z)) (.sq (.sq .z (.sq .z (.br (.sq .z .z) .z))) (.sq .z .z)))))
def F89 (p0 : Option Addr) (p1_0 : Int) (p1_1 : Int) (p1_2 : Int) (p1_3 : Int) (p1_4 : Int) (p1_5 : Int) (Q : Int → Pr) : Pr :=
 nw (.cells #[(iv p1_0), (iv p1_1), (iv p1_2), (iv p1_3), (iv p1_4), (iv p1_5)] 61) fun r =>
 ldA [I64, I64, I64, I64, I64, I64] (bA r 0) fun (t9 : Int × Int × Int × Int × Int × Int) =>
 callF Tryz.prog 138 [(.agg #[(iv t9.1), (iv t9.2.1), (iv t9.2.2.1), (iv t9.2.2.2.1), (iv t9.2.2.2.2.1), (iv t9.2.2.2.2.2)])] [.c .slice, .c I64] fun (t10 : Sl × Int) =>
 br (t10.2 != 0) (
 Q t10.2) (
 ldA [I64, I64, I64, I64, I64, I64] (bA r 0) fun (t17 : Int × Int × Int × Int × Int × Int) =>
 callF Tryz.prog 139 [(.agg #[(iv t17.1), (iv t17.2.1), (iv t17.2.2.1), (iv t17.2.2.2.1), (iv t17.2.2.2.2.1), (iv t17.2.2.2.2.2)])] [.c I64] fun (t18 : Int) =>
 callF Tryz.prog 136 [(.pointer p0), (iv t18), (slV t10.1)] [.c I64] fun (t20 : Int) =>
 br (t20 != 0) (
 Q t20) (
 callF Tryz.prog 137 [(.pointer p0)] [.c I64] fun (t25 : Int) =>
 Q t25))
theorem F89_calls (p0 : Option Addr) (p1_0 : Int) (p1_1 : Int) (p1_2 : Int) (p1_3 : Int) (p1_4 : Int) (p1_5 : Int) (Q : Int → Pr) (w : World) (h : F89 p0 p1_0 p1_1 p1_2 p1_3 p1_4 p1_5 Q w) : Calls Tryz.prog 89 #[(.pointer p0), (.agg #[(iv p1_0), (iv p1_1), (iv p1_2), (iv p1_3), (iv p1_4), (iv p1_5)])] w (RetT [.c I64] Q) := cF (an := an89) Tryz.func89 (by kernel_rfl) h
def an40 : An := (.sq .z (.sq (.sq .z (.br (.sq .z .z) .z)) (.sq .z (.sq (.sq .z (.br (.sq .z .z) .z)) (.sq (.sq .z (.br (.sq .z .z) .z)) (.sq (.sq .z (.sq .z (.br (.sq .z .z) .z))) (.sq (.sq .z (.sq .z (.br (.sq .z .z) .z))) (.sq .z (.sq .z .z)))))))))
def F40 (p0 : Option Addr) (p1_0 : Int) (p1_1 : Int) (p1_2 : Int) (p1_3 : Int) (Q : Int → Pr) : Pr :=
 nw (.cells #[(iv p1_0), (iv p1_1), (iv p1_2), (iv p1_3)] 23) fun r =>
 deref p0 fun a =>
 ldB (a.add 2) fun t14 =>
 br t14 (
 Q 5) (
 ldA [I64, I64, I64, I64] (bA r 0) fun (t16 : Int × Int × Int × Int) =>
 callF Tryz.prog 49 [(.agg #[(iv t16.1), (iv t16.2.1), (iv t16.2.2.1), (iv t16.2.2.2)])] [.agg [I64, I64, I64, I64, I64, I64], .c I64] fun (t17 : (Int × Int × Int × Int × Int × Int) × Int) =>
 nvs 38 [(iv 0), (iv 0), (iv 0), (iv 0), (iv 0), (iv 0)] [(iv t17.1.1), (iv t17.1.2.1), (iv t17.1.2.2.1), (iv t17.1.2.2.2.1), (iv t17.1.2.2.2.2.1), (iv t17.1.2.2.2.2.2)] fun r_1 =>
 br (t17.2 != 0) (
 Q t17.2) (
 drw <|
 deref p0 fun a_5 =>
 ldS (a_5.add 0) fun t26 =>
 ldI (bA r 0) fun t29 =>
 br ((t26.len : Int) != t29) (
 Q 1) (
 callF Tryz.prog 87 [(.pointer p0), (iv 0), (iv 2)] [.c I64] fun (t32 : Int) =>
 br (t32 != 0) (
 Q t32) (
 ldI (bA r_1 4) fun t38 =>
 callF Tryz.prog 87 [(.pointer p0), (iv 2), (iv t38)] [.c I64] fun (t39 : Int) =>
 br (t39 != 0) (
 Q t39) (
 ldA [I64, I64, I64, I64] (bA r 0) fun (t44 : Int × Int × Int × Int) =>
 callF Tryz.prog 88 [(.agg #[(iv t44.1), (iv t44.2.1), (iv t44.2.2.1), (iv t44.2.2.2)])] [.agg [I64, I64, I64, I64, I64, I64], .c I64] fun (t45 : (Int × Int × Int × Int × Int × Int) × Int) =>
 nvs 61 [(iv 0), (iv 0), (iv 0), (iv 0), (iv 0), (iv 0)] [(iv t45.1.1), (iv t45.1.2.1), (iv t45.1.2.2.1), (iv t45.1.2.2.2.1), (iv t45.1.2.2.2.2.1), (iv t45.1.2.2.2.2.2)] fun r_2 =>
 ldA [I64, I64, I64, I64, I64, I64] (bA r_2 0) fun (t49 : Int × Int × Int × Int × Int × Int) =>
 callF Tryz.prog 89 [(.pointer p0), (.agg #[(iv t49.1), (iv t49.2.1), (iv t49.2.2.1), (iv t49.2.2.2.1), (iv t49.2.2.2.2.1), (iv t49.2.2.2.2.2)])] [.c I64] fun (t50 : Int) =>
 Q t50)))))
theorem F40_calls (p0 : Option Addr) (p1_0 : Int) (p1_1 : Int) (p1_2 : Int) (p1_3 : Int) (Q : Int → Pr) (w : World) (h : F40 p0 p1_0 p1_1 p1_2 p1_3 Q w) : Calls Tryz.prog 40 #[(.pointer p0), (.agg #[(iv p1_0), (iv p1_1), (iv p1_2), (iv p1_3)])] w (RetT [.c I64] Q) := cF (an := an40) Tryz.func40 (by kernel_rfl) h
end Go.Proofs

set_option maxRecDepth 20000
namespace Go.Proofs
open Go.Eng
theorem goes_step {D : DM} (h : 0 ≤ D.armed) : goesD D = if D.armed = 1 then (true, fallsD (stepD D) D.picks) else (false, stepD D) := by
 unfold goesD stepD
 by_cases h0 : D.armed = 0
 · rw [if_pos h0, if_neg (by omega), if_pos h0, ← h0]
 · rw [if_neg h0, if_neg h0]
   by_cases h1 : D.armed = 1
   · rw [if_pos h1, if_neg (by omega)]; rfl
   · rw [if_neg h1, if_pos (by omega)]
theorem V137 (p : Nat) (D : DM) (N : Nat) (w : World) (F : Nat → Prop) (h : Has [DiskA p D] w F) (hd : DB N D) (hN : N ≤ 10000000) :
   Calls Tryz.prog 137 #[P0 p] w (RetT [.c (.int .i64)] fun r w' => r = (flushD D).1 ∧ St F w w' [DiskA p (flushD D).2]) := by
 refine F137_calls _ _ _ ?_
 unfold F137 flushD
 have hwl := hd.bd.wait
 have hop := hd.bd.ops
 have stF := St.init h
 obtain ⟨di, sd⟩ := stF.ex
 obtain ⟨⟨hb', hw⟩, sd⟩ := sd.p
 simp only [deref_some']
 refine sd.ld (i := 2) (s := .bool) (p := D.off) rfl ?_
 refine br_of (fun hoff => ?_) fun hoff => ?_
 · rw [if_pos hoff]; exact ⟨rfl, stF⟩
 rw [if_neg (by simp [hoff])]
 refine callF_of (C81 p D w F h hd.bd.armed.1 hd.bd.armed.2 ⟨hop.1, by omega⟩) ?_
 rintro _ w1 ⟨rfl, s1⟩
 rw [goes_step hd.bd.armed.1]
 have hok : (stepD D).ok := ⟨hd.ok.len, hd.ok.wlen, hd.ok.pos, hd.ok.le⟩
 obtain ⟨dj, s1⟩ := s1.ex
 obtain ⟨⟨hb, hw⟩, s1⟩ := s1.p
 have s1 : St F w w1 (dpc p (stepD D) dj) := s1
 by_cases ha : D.armed = 1
 · refine br_t (by simp [ha]) ?_
   rw [if_pos ha, if_pos rfl]
   refine s1.ld (i := 5) (s := .slice) (p := dj.ps) rfl ?_
   obtain ⟨G2, H2, g1, _, _, _, gc⟩ := St.call (dpc p (stepD D) dj) (l := []) s1
   refine callF_of (C82 p (stepD D) dj dj.ps D.picks w1 G2 g1 hb hw hok (by exact hoff) (by show D.wait.length ≤ _; omega) fun W dk L hs s5 => ?_) ?_
   · have := (s5.bring 3).sl.bs
     rw [hs.ps] at this
     exact this
   rintro e w6 ⟨_, s6⟩
   exact ⟨rfl, gc _ _ s6⟩
 refine br_f (by simp [ha]) ?_
 rw [if_neg ha, if_neg (fun h => by cases h)]
 generalize hE : stepD D = E at s1 hb hw hok
 have hB : D.blocks = E.blocks := by rw [← hE]; rfl
 have hW : D.wait = E.wait := by rw [← hE]; rfl
 rw [hB, hW]
 rw [hW] at hwl
 clear hB hW
 have hwn : dj.wl.length ≤ 10000000 := by rw [hw, List.length_map] at hwl; omega
 have hwsl : dj.ws.len = dj.wl.length := (OwnS.ss (f := wcells) wcells_len (by decide) (s1.bring 2).sl).len
 refine loop_of (fun z W => ∃ (j : Nat) (dk : DI), z = j ∧ j ≤ dj.wl.length ∧ SameDI dj dk ∧ (dk.bl.map (·.2)).length = E.blocks.length ∧ (∀ b ∈ dk.bl.map (·.2), b.length = 256) ∧ dk.bl.map (·.2) = flushB E.blocks (E.wait.take j) ∧ St F w W (dpc p E dk)) (fun z _ => dj.wl.length - z.toNat)
   ⟨0, dj, rfl, by omega, ⟨rfl, rfl, rfl, rfl⟩, by rw [hb], by rw [← hb]; exact hok.len, by rw [hb]; rfl, s1⟩ ?_
 rintro _ W ⟨j, dk, rfl, hj, hsame, hbl, hb256, hgo, sW⟩
 refine sW.L 0 rfl (p := dk.ws) rfl ?_
 rw [hsame.ws]
 refine br_of (fun hlt => ?_) (fun hge => ?_)
 · simp only [decide_eq_true_eq] at hlt
   have hjl : j < dj.wl.length := by omega
   obtain ⟨x, hxx⟩ : ∃ x, dj.wl[j]? = some x := ⟨dj.wl[j], by simp [hjl]⟩
   have hDj : E.wait[j]? = some (x.1, x.2.2) := by rw [hw, List.getElem?_map, hxx]; rfl
   have hxw := hok.wlen _ (List.mem_of_getElem? hDj)
   dsimp only at hxw
   have hss : WS W dj.ws dj.wl := by have := OwnS.ss (f := wcells) wcells_len (by decide) (sW.bring 2).sl; rw [hsame.ws, hsame.wl] at this; exact this
   refine sW.L 0 rfl (p := dj.ws) (by rw [← hsame.ws]; rfl) ?_
   refine hss.eld wcells_len (n := 2) (cs := [.int .i64, .slice]) (p := (x.1, x.2.1)) hxx (by decide) rfl ?_
   obtain ⟨G, H, k1, _, _, _, gc⟩ := St.call (dpc p E dk) (l := []) sW
   obtain ⟨i, hi⟩ := Int.eq_ofNat_of_zero_le hxw.1
   have hil : i < dk.bl.length := by rw [List.length_map] at hbl; omega
   obtain ⟨y, hy⟩ : ∃ y, dk.bl[i]? = some y := ⟨dk.bl[i], by simp [hil]⟩
   have hy256 : y.2.length = 256 := hb256 _ (List.mem_map.2 ⟨y, List.mem_of_getElem? hy, rfl⟩)
   have hxj : dk.wl[j]? = some ((i : Int), x.2.1, x.2.2) := by rw [hsame.wl, hxx, ← hi]
   dsimp only
   rw [hi]
   refine callF_of (C98 p E dk i j x.2.1 x.2.2 y 15 _ G k1 hy hxj hy256 hxw.2.2) ?_
   rintro ⟨⟩ w6 ⟨t, s6⟩
   have s7 := gc _ _ s6
   rw [reach_all hy256 hxw.2.2, List.append_nil] at s7
   have hset : (setBt dk i t x.2.2).bl.map (·.2) = (dk.bl.map (·.2)).set i x.2.2 := by show (dk.bl.set i (t, x.2.2)).map (·.2) = _; rw [List.map_set]
   rw [w64_succ (by omega)]
   refine ⟨⟨j + 1, setBt dk i t x.2.2, rfl, hjl, ⟨hsame.bs, hsame.ws, hsame.ps, hsame.wl⟩, ?_, ?_, ?_, s7⟩, by omega⟩
   · rw [hset, List.length_set]; exact hbl
   · intro b hbm
     rw [hset] at hbm
     rcases List.mem_or_eq_of_mem_set hbm with h | rfl
     · exact hb256 b h
     · exact hxw.2.2
   · have ht : E.wait.take (j + 1) = E.wait.take j ++ [(x.1, x.2.2)] := by rw [List.take_add_one, hDj]; rfl
     rw [hset, hgo, ht]
     unfold flushB
     rw [List.foldl_append]
     show _ = (List.foldl _ E.blocks (List.take j E.wait)).set x.1.toNat x.2.2
     rw [hi]; rfl
 · simp only [decide_eq_false_iff_not] at hge
   have : j = dj.wl.length := by omega
   have hall : E.wait.take j = E.wait := List.take_of_length_le (by rw [hw, List.length_map]; omega)
   rw [hall] at hgo
   refine sW.S 0 rfl (by simp) trivial fun w2 s2 => ⟨rfl, ?_⟩
   refine mkDisk (D := { E with blocks := flushB E.blocks E.wait, wait := [] }) ⟨dk.bs, ⟨none, 0, 0⟩, dk.ps, dk.bl, []⟩ hgo.symm rfl ?_
   exact ((s2.nosl 2).nobig).sel [2, 3, 1, 5, 6, 0] 8
section
variable {dp : Nat} {D : DM} {N : Nat} {w0 w : World} {F0 : Nat → Prop} {L : List HA}
theorem wrR {i : Int} {b : Sl} {l : List UInt8} {k : Int → Pr} (h : St F0 w0 w (DiskA dp D :: SlA 1 b (l.map ub) :: L)) (hd : DB N D) (hN : N ≤ 10000000)
   (hk : ∀ w', St F0 w0 w' (DiskA dp (writeD D i l).2 :: SlA 1 b (l.map ub) :: L) → k (writeD D i l).1 w') : callF Tryz.prog 136 [P0 dp, iv i, slV b] [.c (.int .i64)] k w := by
 obtain ⟨G, H, g2, g3, g4, _, gc⟩ := St.call [DiskA dp D] h
 refine callF_of (C48 dp D i b l w G g2 (Rd.own g3 g4) hd.ok (by have := hd.bd.wait; omega) hd.bd.armed.1 hd.bd.armed.2 ⟨hd.bd.ops.1, by have := hd.bd.ops.2; omega⟩) ?_
 rintro e w2 ⟨he, s6⟩
 subst he
 exact hk w2 (gc _ _ s6)
theorem flR {k : Int → Pr} (h : St F0 w0 w (DiskA dp D :: L)) (hd : DB N D) (hN : N ≤ 10000000)
   (hk : ∀ w', St F0 w0 w' (DiskA dp (flushD D).2 :: L) → k (flushD D).1 w') : callF Tryz.prog 137 [P0 dp] [.c (.int .i64)] k w := by
 obtain ⟨G, H, g2, g3, g4, _, gc⟩ := St.call [DiskA dp D] h
 refine callF_of (V137 dp D N w G g2 hd hN) ?_
 rintro e w2 ⟨he, s6⟩
 subst he
 exact hk w2 (gc _ _ s6)
theorem V89 {s : Sup} {w : World} {F : Nat → Prop} (hh : Has [DiskA dp D] w F) (hd : DB N D) (hN : N ≤ 1000000) :
   Calls Tryz.prog 89 #[P0 dp, s.v] w (RetT [.c (.int .i64)] fun x w' => x = (noteD D s).1 ∧ St F w w' [DiskA dp (noteD D s).2]) := by
 refine F89_calls _ s.1 s.2.1 s.2.2.1 s.2.2.2.1 s.2.2.2.2.1 s.2.2.2.2.2 _ _ ?_
 unfold F89 noteD
 refine St.nw (St.init hh) fun r w1 s1 _ _ => ?_
 have s1 : St F w w1 [BoxA r (pcells s), DiskA dp D] := s1
 refine s1.LA 0 rfl (p := s) rfl ?_
 refine callF_of (V138 s w1) ?_
 rintro ⟨t, e⟩ w2 ⟨he, hP⟩
 dsimp only at he hP
 subst he
 rcases hP with ⟨h1, rfl, g⟩ | ⟨h1, k⟩
 · rw [if_pos h1]
   exact br_t (by simpa using h1) ⟨rfl, (s1.grow g).drop⟩
 · rw [if_neg (fun h => h h1)]
   refine br_f (by simp [h1]) ?_
   have s2 := s1.call0 k
   have s2 : St F w w2 [SlA 1 t ((bytesS s).map ub), BoxA r (pcells s), DiskA dp D] := s2
   refine s2.LA 1 rfl (p := s) rfl ?_
   refine callF_of (V139 s w2) ?_
   rintro _ w3 ⟨rfl, g3⟩
   have s3 := (s2.grow g3).sel [2, 0] 3
   refine wrR s3 hd (by omega) fun w4 s4 => ?_
   have h1 := writeD_dg hd (slotS s) (bytesS s)
   refine br_of (fun hne => ?_) fun heq => ?_
   · rw [if_pos (by simpa using hne)]
     exact ⟨rfl, s4.sel [0] 2⟩
   · rw [if_neg (by simpa using heq)]
     refine flR s4 h1.db (by omega) fun w5 s5 => ⟨rfl, s5.sel [0] 2⟩
theorem V87 {i j : Int} {w : World} {F : Nat → Prop} (hh : Has [DiskA dp D] w F) (hd : DB N D) (hN : N ≤ 1000000) (hi : 0 ≤ i) (hij : j ≤ 100000) :
   Calls Tryz.prog 87 #[P0 dp, iv i, iv j] w (RetT [.c (.int .i64)] fun x w' => x = (noughtD (j - i).toNat D i).1 ∧ St F w w' [DiskA dp (noughtD (j - i).toNat D i).2]) := by
 refine F87_calls _ _ _ _ _ ?_
 unfold F87
 refine loop_of (fun c W => ∃ (D' : DM) (N' : Nat), i ≤ c ∧ (c ≤ j ∨ c = i) ∧ DB N' D' ∧ N' + 2 * (j - c).toNat ≤ N + 2 * (j - i).toNat ∧ noughtD (j - i).toNat D i = noughtD (j - c).toNat D' c ∧ St F w W [DiskA dp D']) (fun c _ => (j - c).toNat)
   ⟨D, N, by omega, .inr rfl, hd, by omega, rfl, St.init hh⟩ ?_
 rintro c W ⟨D', N', h1, h2, hd', hb, hX, s1⟩
 refine br_of (fun hlt => ?_) fun hge => ?_
 · have hlt : c < j := by simpa using hlt
   have hf : (j - c).toNat = (j - (c + 1)).toNat + 1 := by omega
   rw [hf, noughtD] at hX
   refine s1.mkSi 256 rfl rfl (by decide) (by decide) fun t w2 s2 _ => ?_
   rw [show zc [uv 0] 256 = zero256.map ub from zc_u8 256] at s2
   refine wrR (s2.sel [1, 0] 2) hd' (by omega) fun w3 s3 => ?_
   refine br_of (fun hne => ?_) fun heq => ?_
   · rw [if_pos (by simpa using hne)] at hX
     rw [hX]
     exact ⟨rfl, s3.sel [0] 2⟩
   · rw [if_neg (by simpa using heq)] at hX
     rw [w64_of (n := c + 1) ⟨by omega, by omega⟩]
     exact ⟨⟨_, N' + 2, by omega, by omega, (writeD_dg hd' _ _).db, by omega, hX, s3.sel [0] 2⟩, by omega⟩
 · have hge : j ≤ c := by simpa using hge
   rw [show (j - c).toNat = 0 by omega, noughtD] at hX
   rw [hX]
   exact flR s1 hd' (by omega) fun w5 s5 => ⟨rfl, s5⟩
theorem V40 {g : Geo} {w : World} {F : Nat → Prop} (hh : Has [DiskA dp D] w F) (hd : DB N D) (hN : N ≤ 500000) :
   Calls Tryz.prog 40 #[P0 dp, g.v] w (RetT [.c (.int .i64)] fun x w' => x = (formatD D g).1 ∧ St F w w' [DiskA dp (formatD D g).2]) := by
 refine F40_calls _ g.1 g.2.1 g.2.2.1 g.2.2.2 _ _ ?_
 unfold F40 formatD
 simp only [deref_some']
 have ld0 : ∀ {W : World} {L : List HA} {r : Nat} {f : Bool → Pr} {a : HA}, St F w W [a, DiskA dp D] → f D.off W → ldB (bA dp 2) f W := by
   intro W L r f a s hf
   obtain ⟨di, s⟩ := (s.sel [1] 2).ex
   obtain ⟨_, s⟩ := s.p
   exact s.ld (i := 2) (s := .bool) (p := D.off) rfl hf
 have ldl : ∀ {W : World} {f : Sl → Pr}, St F w W [DiskA dp D] → (∀ t : Sl, t.len = D.blocks.length → f t W) → ldS (bA dp 0) f W := by
   intro W f s hf
   obtain ⟨di, s⟩ := s.ex
   obtain ⟨⟨hb, _⟩, s⟩ := s.p
   refine s.ld (i := 0) (s := .slice) (p := di.bs) rfl (hf _ ?_)
   have hbs := slA_len1 (s.bring 1).sl
   rw [List.length_map] at hbs
   rw [hbs, hb, List.length_map]
 refine St.nw (St.init hh) fun r w1 s1 _ _ => ?_
 have s1 : St F w w1 [BoxA r (gcells g), DiskA dp D] := s1
 refine ld0 (L := []) (r := 0) s1 (br_of (fun h => ?_) fun h => ?_)
 · rw [if_pos h]; exact ⟨rfl, s1.sel [1] 2⟩
 rw [if_neg (by simp [h])]
 refine s1.LA 0 rfl (p := g) rfl ?_
 refine callF_of (V49 g w1) ?_
 rintro P w2 ⟨hP, k2⟩
 have hP2 : P.2 = if geoE g = 0 then 0 else 40 := by rw [hP]; unfold ofG; split <;> rfl
 refine (s1.grow k2).nvs rfl (na_p P.1) fun r1 w3 s3 => ?_
 have s3 : St F w w3 [BoxA r1 (pcells P.1), BoxA r (gcells g), DiskA dp D] := s3
 refine br_of (fun h => ?_) fun h => ?_
 · have h : P.2 ≠ 0 := by simpa using h
   have hg : geoE g ≠ 0 := fun h0 => h (by rw [hP2, if_pos h0])
   rw [if_pos hg, hP2, if_neg hg]
   exact ⟨rfl, s3.sel [2] 3⟩
 have hg : geoE g = 0 := by
   by_cases hg : geoE g = 0
   · exact hg
   · rw [hP2, if_neg hg] at h; simp at h
 rw [if_neg (fun h0 => h0 hg)]
 have hp := planT_le hg
 have hP1 : P.1 = planT g := by rw [hP]; unfold ofG; rw [if_pos hg]
 clear hP hP2
 rw [drw_def]
 have s4 := s3.drew
 refine ldl (s4.sel [2] 3) fun t ht => ?_
 refine s4.L 1 rfl (p := g.1) rfl ?_
 rw [ht]
 refine br_of (fun h => ?_) fun h => ?_
 · rw [if_pos (by simpa using h)]
   exact ⟨rfl, s4.sel [2] 3⟩
 rw [if_neg (by simpa using h)]
 obtain ⟨G1, H1, g3, _, _, _, gc⟩ := St.call [DiskA dp D] (s4.sel [2, 0, 1] 3)
 refine callF_of (V87 (i := 0) (j := 2) g3 hd (by omega) (by omega) (by omega)) ?_
 rw [show (2 - 0 : Int).toNat = 2 from rfl]
 rintro _ w5 ⟨rfl, s5⟩
 have s5 := gc _ _ s5
 have d1 := noughtD_dg 2 hd 0
 generalize noughtD 2 D 0 = A at d1 s5 ⊢
 have s5 : St F w w5 [DiskA dp A.2, BoxA r1 (pcells P.1), BoxA r (gcells g)] := s5
 refine br_of (fun h => ?_) fun h => ?_
 · rw [if_pos (by simpa using h)]
   exact ⟨rfl, s5.sel [0] 3⟩
 rw [if_neg (by simpa using h)]
 refine s5.L 1 rfl (p := P.1.2.2.2.2.1) rfl ?_
 rw [hP1]
 obtain ⟨G2, H2, g4, _, _, _, gc2⟩ := St.call [DiskA dp A.2] s5
 refine callF_of (V87 (i := 2) (j := (planT g).2.2.2.2.1) g4 d1.db (by omega) (by omega) (by omega)) ?_
 rintro _ w6 ⟨rfl, s6⟩
 have s6 := gc2 _ _ s6
 have d2 := noughtD_dg ((planT g).2.2.2.2.1 - 2).toNat d1.db 2
 generalize noughtD ((planT g).2.2.2.2.1 - 2).toNat A.2 2 = B at d2 s6 ⊢
 have s6 : St F w w6 [DiskA dp B.2, BoxA r1 (pcells P.1), BoxA r (gcells g)] := s6
 refine br_of (fun h => ?_) fun h => ?_
 · rw [if_pos (by simpa using h)]
   exact ⟨rfl, s6.sel [0] 3⟩
 rw [if_neg (by simpa using h)]
 refine s6.LA 2 rfl (p := g) rfl ?_
 refine callF_of (V88 g w6) ?_
 rintro S w7 ⟨hS, k7⟩
 refine (s6.grow k7).nvs rfl (na_p S.1) fun r2 w8 s8 => ?_
 have s8 : St F w w8 [BoxA r2 (pcells S.1), DiskA dp B.2, BoxA r1 (pcells P.1), BoxA r (gcells g)] := s8
 refine s8.LA 0 rfl (p := S.1) rfl ?_
 obtain ⟨G3, H3, g5, _, _, _, gc3⟩ := St.call [DiskA dp B.2] (s8.sel [1, 0, 2, 3] 4)
 refine callF_of (V89 (s := S.1) g5 d2.db (by omega)) ?_
 rw [hS]
 rintro _ w9 ⟨rfl, s9⟩
 exact ⟨rfl, (gc3 _ _ s9).sel [0] 4⟩
end
end Go.Proofs

set_option maxRecDepth 20000
namespace Go.Proofs
open Go.Eng
theorem subSl_zero (t : Sl) : subSl t 0 = t := by
 obtain ⟨a, n, c⟩ := t
 unfold subSl
 cases a with
 | none => simp
 | some ad => simp [add_zero']
theorem cpy_row {F0 : Nat → Prop} {w0 w : World} {L : List HA} {t src : Sl} {vs l : List UInt8} {k : Pr} (h : St F0 w0 w (SlA 1 t (vs.map ub) :: L)) (hs : BS w src l) (h1 : vs.length ≤ l.length)
   (hk : ∀ w', St F0 w0 w' (SlA 1 t ((l.take vs.length).map ub) :: L) → k w') : cpy 1 t src k w := by
 have hl := slA_len1 h.sl
 rw [List.length_map] at hl
 have hsl := hs.len
 refine cpy_min ?_
 rw [show Nat.min src.len t.len = vs.length by rw [hsl, hl]; exact Nat.min_eq_right h1]
 have h2 := BS.cut hs vs.length 0 (by omega)
 have e : (l.take vs.length).length = vs.length := by rw [List.length_take]; omega
 rw [← subSl_zero t]
 refine cpy_sub h h2 (by omega) fun w' s => hk w' ?_
 have : lay vs 0 (l.take vs.length) = l.take vs.length := by
   unfold lay
   rw [e, List.take_zero, List.nil_append, Nat.zero_add, List.drop_length, List.append_nil]
 rw [← this]
 exact s
def chk (l : List UInt8) (i : Nat) : List UInt8 := (l.drop (256 * i)).take 256
def chunks (l : List UInt8) : List (List UInt8) := (List.range (l.length / 256)).map (chk l)
def ofD (l : List UInt8) : DM := ⟨chunks l, [], false, 0, 0, []⟩
def okI (l : List UInt8) : Prop := l.length % 256 = 0 ∧ 1 ≤ l.length / 256 ∧ l.length / 256 ≤ 2048
instance (l : List UInt8) : Decidable (okI l) := by unfold okI; exact inferInstance
def half (l : List UInt8) (n j : Nat) (bl : List (List UInt8)) : Prop := ∀ i, bl[i]? = if i < n then some (if i < j then chk l i else zero256) else none
theorem ofD_ok {l : List UInt8} (h : okI l) : (ofD l).ok := by
 obtain ⟨h1, h2, h3⟩ := h
 refine ⟨fun b hb => ?_, fun x hx => by simp [ofD] at hx, by simpa [ofD, chunks] using h2, by simpa [ofD, chunks] using h3⟩
 simp only [ofD, chunks, List.mem_map, List.mem_range] at hb
 obtain ⟨i, hi, rfl⟩ := hb
 unfold chk
 rw [List.length_take, List.length_drop]
 omega
section
variable {w W : World} {p n j : Nat} {q : Sl} {l : List UInt8} {dk : DI}
theorem half_done (hn : l.length / 256 = n) (h : half l n n (dk.bl.map (·.2))) : dk.bl.map (·.2) = chunks l := by
 refine List.ext_getElem? fun i => ?_
 rw [h i, chunks, List.getElem?_map, hn]
 by_cases hi : i < n
 · rw [if_pos hi, if_pos hi, List.getElem?_range hi]; rfl
 · rw [if_neg hi, List.getElem?_eq_none (by simp; omega)]; rfl
theorem of_step {K : Pr} (s : St noF w W (dpc p (newD n) dk)) (hq : BS w q l) (hqc : q.len ≤ q.cap) (hj : j < n) (hl : n * 256 ≤ l.length) (hn : n ≤ 2048) (hh : half l n j (dk.bl.map (·.2)))
   (hK : ∀ w', St noF w w' (dpc p (newD n) (setBl dk j (chk l j))) → half l n (j + 1) ((setBl dk j (chk l j)).bl.map (·.2)) → K w') :
   drw (ldS (bA p 0) fun t33 => el t33 (j : Int) 1 fun a => ldS a fun t36 => slc 1 q (some (w64 ((j : Int) * 256))) none none fun t40 => cpy 1 t36 t40 K) W := by
 rw [drw_def]
 have sd := s.drew
 have hq' := (⟨hq, fun _ _ _ h => h⟩ : Rd w noF q l).at sd
 obtain ⟨x, hx⟩ : ∃ x, dk.bl[j]? = some x := by
   have := hh j
   rw [if_pos hj, List.getElem?_map] at this
   cases hb : dk.bl[j]? with
   | none => rw [hb] at this; cases this
   | some x => exact ⟨x, rfl⟩
 have hx2 : x.2 = zero256 := by
   have := hh j
   rw [if_pos hj, if_neg (by omega), List.getElem?_map, hx] at this
   simpa using this
 have hil := (split_at hx).2
 have hbl : dk.bl.length = n := by
   have h1 := hh n
   rw [if_neg (by omega), List.getElem?_map] at h1
   have h2 := hh (n - 1)
   rw [if_pos (by omega), List.getElem?_map] at h2
   rcases Nat.lt_trichotomy dk.bl.length n with h | h | h
   · rw [List.getElem?_eq_none (by omega)] at h2; cases h2
   · exact h
   · rw [List.getElem?_eq_getElem h] at h1; cases h1
 refine sd.L 0 rfl (p := dk.bs) rfl ?_
 have hbsl := slA_len1 (sd.bring 1).sl
 rw [List.length_map] at hbsl
 have hbs2 : dk.bs.len = dk.bl.length := hbsl
 refine ⟨⟨by omega, by show (j : Int) < (dk.bs.len : Int); omega⟩, ?_⟩
 refine at_own (sd.bring 1).sl (p := x.1) (by rw [Int.toNat_natCast, List.getElem?_map, hx]; rfl) ?_
 have sp := (sd.bring 4).pick (i := j) (A := bytA x) (by rw [List.getElem?_map, hx]; rfl)
 rw [w64_of ⟨by omega, by omega⟩, show (j : Int) * 256 = ((256 * j : Nat) : Int) by omega]
 refine slc_from hq' hqc (by omega) fun r hr _ _ _ _ => ?_
 have sp : St noF w W.drew (SlA 1 x.1 (x.2.map ub) :: bigA ((dk.bl.map bytA).eraseIdx j) :: _) := sp
 have hxl : x.2.length = 256 := by rw [hx2]; exact List.length_replicate
 refine cpy_row sp hr (by rw [hxl, List.length_drop]; omega) fun w2 s2 => ?_
 rw [hxl] at s2
 have s3 := St.unpick (A := bytA (x.1, chk l j)) s2 (by rw [List.length_map]; exact hil)
 have hm : dk.bl.set j (x.1, chk l j) = dk.bl.modify j fun x => (x.1, chk l j) := by
   refine List.ext_getElem? fun i => ?_
   rw [List.getElem?_set, List.getElem?_modify]
   by_cases hi : j = i
   · subst hi; rw [if_pos rfl, hx]; simp [hil]
   · rw [if_neg hi]; simp [hi]
 have e1 : (dk.bl.map bytA).set j (bytA (x.1, chk l j)) = (setBl dk j (chk l j)).bl.map bytA := by rw [setBl, ← hm, List.map_set]
 have e2 : (dk.bl.map fun x => slV x.1) = (setBl dk j (chk l j)).bl.map fun x => slV x.1 := by
   rw [setBl, ← hm, List.map_set]
   refine List.ext_getElem? fun i => ?_
   rw [List.getElem?_set]
   by_cases hi : j = i
   · subst hi; rw [if_pos rfl, List.getElem?_map, hx]; simp [hil]
   · rw [if_neg hi]
 rw [e1] at s3
 rw [e2] at s3
 refine hK w2 (s3.sel [1, 2, 3, 4, 0, 5] 6) ?_
 have hset : (setBl dk j (chk l j)).bl.map (·.2) = (dk.bl.map (·.2)).set j (chk l j) := modify_map2
 rw [hset]
 intro i
 rw [List.getElem?_set, hh i, List.length_map]
 by_cases hi : j = i
 · subst hi; rw [if_pos rfl, if_pos hil, if_pos hj, if_pos (by omega)]
 · rw [if_neg hi]
   by_cases h2 : i < n
   · rw [if_pos h2, if_pos h2]
     by_cases h3 : i < j
     · rw [if_pos h3, if_pos (by omega)]
     · rw [if_neg h3, if_neg (by omega)]
   · rw [if_neg h2, if_neg h2]
theorem half_zero {di : DI} (hb : (newD n).blocks = di.bl.map (·.2)) : half l n 0 (di.bl.map (·.2)) := by
 rw [← hb]
 intro i
 show (List.replicate n zero256)[i]? = _
 rw [List.getElem?_replicate]
 by_cases h : i < n
 · rw [if_pos h, if_pos h, if_neg (by omega)]
 · rw [if_neg h, if_neg h]
theorem of_end {di : DI} (hw : (newD n).wait = di.wl.map fun x => (x.1, x.2.2)) (hs : SameDI di dk) (hn : l.length / 256 = n) (h : half l n n (dk.bl.map (·.2))) (s : St noF w W (dpc p (newD n) dk)) : St noF w W [DiskA p (ofD l)] := by
 refine mkDisk (D := ofD l) dk (half_done hn h).symm (by rw [hs.wl]; exact hw) ?_
 exact s
def PostOf (w : World) (l : List UInt8) (r : Option Addr × Int) (w' : World) : Prop :=
 (okI l ∧ r.2 = 0 ∧ ∃ p, r.1 = some ⟨p, 0, none⟩ ∧ St noF w w' [DiskA p (ofD l)]) ∨ (¬ okI l ∧ r = (none, 1) ∧ Grow w w')
theorem V35 (h : BS w q l) (hc : q.len ≤ q.cap) (hl : l.length ≤ 100000000) : Calls Tryz.prog 35 #[slV q] w (RetT [.c .ptr, .c (.int .i64)] (PostOf w l)) := by
 refine F35_calls _ _ _ ?_
 unfold F35
 have hql := h.len
 refine ⟨by decide, ?_⟩
 rw [w64_of ⟨by rw [Int.tdiv_eq_ediv_of_nonneg (by omega)]; omega, by rw [Int.tdiv_eq_ediv_of_nonneg (by omega)]; omega⟩]
 rw [show (q.len : Int).tdiv 256 = ((l.length / 256 : Nat) : Int) by rw [Int.tdiv_eq_ediv_of_nonneg (by omega)]; omega]
 have hmod : (((q.len : Int).tmod 256) != 0) = decide (l.length % 256 ≠ 0) := by
   rw [Int.tmod_eq_emod_of_nonneg (by omega), Bool.eq_iff_iff]
   simp only [bne_iff_ne, decide_eq_true_eq]
   omega
 refine callF_of (C30 _ w) ?_
 rintro ⟨r, e⟩ w1 hr
 by_cases hn : 1 ≤ ((l.length / 256 : Nat) : Int) ∧ ((l.length / 256 : Nat) : Int) ≤ 2048
 · rw [if_pos hn] at hr
   obtain ⟨he, p, hp, s1⟩ := hr
   dsimp only at he hp ⊢
   subst he hp
   rw [Int.toNat_natCast] at s1
   generalize hN : l.length / 256 = n at hn s1
   refine jn_of (fun b W => b = decide (l.length % 256 ≠ 0) ∧ W = w1) (br_f rfl ⟨by decide, hmod, rfl⟩) ?_
   rintro _ _ ⟨rfl, rfl⟩
   refine br_of (fun hm => ?_) fun hm => ?_
   · exact .inr ⟨fun hk => absurd hk.1 (of_decide_eq_true hm), rfl, s1.gro⟩
   have hm : l.length % 256 = 0 := Classical.not_not.1 (of_decide_eq_false hm)
   simp only [deref_some']
   obtain ⟨di, s1⟩ := s1.ex
   obtain ⟨⟨hb, hw⟩, s1⟩ := s1.p
   have s1 : St noF w _ (dpc p (newD n) di) := s1
   refine s1.L 0 rfl (p := di.bs) rfl ?_
   have hbsl := slA_len1 (s1.bring 1).sl
   rw [List.length_map] at hbsl
   have hbn : di.bs.len = n := by
     have : di.bs.len = di.bl.length := hbsl
     rw [this, ← List.length_map (f := (·.2)), ← hb]
     exact List.length_replicate
   rw [hbn]
   refine loop_of (fun z W => ∃ (j : Nat) (dk : DI), z = j ∧ j ≤ n ∧ SameDI di dk ∧ half l n j (dk.bl.map (·.2)) ∧ St noF w W (dpc p (newD n) dk)) (fun z _ => n - z.toNat) ⟨0, di, rfl, by omega, ⟨rfl, rfl, rfl, rfl⟩, half_zero hb, s1⟩ ?_
   rintro _ W ⟨j, dk, rfl, hj, hs, hh, sW⟩
   refine br_of (fun hlt => ?_) fun hge => ?_
   · simp only [decide_eq_true_eq] at hlt
     refine of_step sW h hc (by omega) (by omega) (by omega) hh fun w2 s2 h2 => ?_
     rw [w64_succ (by omega)]
     exact ⟨⟨j + 1, setBl dk j (chk l j), rfl, by omega, ⟨hs.bs, hs.ws, hs.ps, hs.wl⟩, h2, s2⟩, by omega⟩
   · simp only [decide_eq_false_iff_not] at hge
     have : j = n := by omega
     subst this
     exact .inl ⟨⟨hm, by omega, by omega⟩, rfl, p, rfl, of_end hw hs hN hh sW⟩
 · rw [if_neg hn] at hr
   obtain ⟨hr, rfl⟩ := hr
   cases hr
   refine jn_of (fun b W => b = true ∧ W = w) (br_t rfl ⟨rfl, rfl⟩) ?_
   rintro _ _ ⟨rfl, rfl⟩
   refine br_t rfl ?_
   exact .inr ⟨fun hk => hn ⟨by have := hk.2.1; omega, by have := hk.2.2; omega⟩, rfl, Mod.refl _ _⟩
theorem V36 (h : BS w q l) (hc : q.len ≤ q.cap) (hl : l.length ≤ 100000000) : Calls Tryz.prog 36 #[slV q] w (RetT [.c .ptr, .c (.int .i64)] (PostOf w l)) := by
 refine F36_calls _ _ _ ?_
 unfold F36
 have hql := h.len
 have hmod : (((q.len : Int).tmod 256) != 0) = decide (l.length % 256 ≠ 0) := by
   rw [Int.tmod_eq_emod_of_nonneg (by omega), Bool.eq_iff_iff]
   simp only [bne_iff_ne, decide_eq_true_eq]
   omega
 refine ⟨by decide, ?_⟩
 rw [hmod]
 refine br_of (fun hm => ?_) fun hm => ⟨by decide, ?_⟩
 · exact .inr ⟨fun hk => absurd hk.1 (of_decide_eq_true hm), rfl, Mod.refl _ _⟩
 have hm : l.length % 256 = 0 := Classical.not_not.1 (of_decide_eq_false hm)
 rw [w64_of ⟨by rw [Int.tdiv_eq_ediv_of_nonneg (by omega)]; omega, by rw [Int.tdiv_eq_ediv_of_nonneg (by omega)]; omega⟩]
 rw [show (q.len : Int).tdiv 256 = ((l.length / 256 : Nat) : Int) by rw [Int.tdiv_eq_ediv_of_nonneg (by omega)]; omega]
 refine callF_of (C43 _ w) ?_
 rintro ⟨r, e⟩ w1 hr
 by_cases hn : 1 ≤ ((l.length / 256 : Nat) : Int) ∧ ((l.length / 256 : Nat) : Int) ≤ 2048
 · rw [if_pos hn] at hr
   obtain ⟨he, p, hp, s1⟩ := hr
   dsimp only at he hp ⊢
   subst he hp
   rw [Int.toNat_natCast] at s1
   generalize hN : l.length / 256 = n at hn s1
   refine br_f rfl ?_
   simp only [deref_some']
   obtain ⟨di, s1⟩ := s1.ex
   obtain ⟨⟨hb, hw⟩, s1⟩ := s1.p
   have s1 : St noF w _ (dpc p (newD n) di) := s1
   have hbsl := slA_len1 (s1.bring 1).sl
   rw [List.length_map] at hbsl
   have hbn : di.bs.len = n := by
     have : di.bs.len = di.bl.length := hbsl
     rw [this, ← List.length_map (f := (·.2)), ← hb]
     exact List.length_replicate
   refine loop_of (fun z W => ∃ (j : Nat) (dk : DI), z = j ∧ j ≤ n ∧ SameDI di dk ∧ half l n j (dk.bl.map (·.2)) ∧ St noF w W (dpc p (newD n) dk)) (fun z _ => n - z.toNat) ⟨0, di, rfl, by omega, ⟨rfl, rfl, rfl, rfl⟩, half_zero hb, s1⟩ ?_
   rintro _ W ⟨j, dk, rfl, hj, hs, hh, sW⟩
   refine sW.L 0 rfl (p := dk.bs) rfl ?_
   rw [hs.bs, hbn]
   refine br_of (fun hlt => ?_) fun hge => ?_
   · simp only [decide_eq_true_eq] at hlt
     refine of_step sW h hc (by omega) (by omega) (by omega) hh fun w2 s2 h2 => ?_
     rw [w64_succ (by omega)]
     exact ⟨⟨j + 1, setBl dk j (chk l j), rfl, by omega, ⟨hs.bs, hs.ws, hs.ps, hs.wl⟩, h2, s2⟩, by omega⟩
   · simp only [decide_eq_false_iff_not] at hge
     have : j = n := by omega
     subst this
     exact .inl ⟨⟨hm, by omega, by omega⟩, rfl, p, rfl, of_end hw hs hN hh sW⟩
 · rw [if_neg hn] at hr
   obtain ⟨hr, rfl⟩ := hr
   cases hr
   refine br_t rfl ?_
   exact .inr ⟨fun hk => hn ⟨by have := hk.2.1; omega, by have := hk.2.2; omega⟩, rfl, Mod.refl _ _⟩
end
end Go.Proofs

set_option maxRecDepth 100000
namespace Go.Proofs
open Go.Eng
def an41 : An := (.sq .z (.sq .z (.sq .z (.sq (.sq .z (.br (.sq .z .z) .z)) (.sq (.sq .z (.bl (.rf [.c (.int .i64), .c .slice] (.sq .z .z) (.bl (.sq (.sq (.jn [(57, .c .bool)] .z) (.br (.sq .z .z) .z)) .z))))) (.sq (.rj [⟨false, [15, 16], [15, 16, 17, 18, 19, 20, 21, 22, 23, 24], [(84, .c .bool)]⟩, ⟨true, [15, 16], [15, 16, 17, 18, 19, 20, 21, 22, 23, 24], []⟩, ⟨false, [31, 32], [31, 32, 33, 34, 35, 36, 37, 38, 39], [(99, .c .bool)]⟩, ⟨true, [31, 32], [31, 32, 33, 34, 35, 36, 37, 38, 39], []⟩, ⟨false, [46, 47], [46, 47, 48, 49, 50], [(106, .c .slice), (110, .c .ptr)]⟩, ⟨true, [46, 47], [46, 47, 48, 49, 50], []⟩]) .z))))))
def F41 (p0 : Option Addr) (Q : Bool → Pr) : Pr :=
 owe (NotAgg (.pointer p0)) <| nw (.cells #[(.pointer p0)] 79) fun r =>
 owe (NotAgg (.bool false)) <| nw (.cells #[(.bool false)] 4) fun r_1 =>
 owe (NotAgg (iv 0)) <| nw (.cells #[(iv 0)] 3) fun r_2 =>
 st (bA r_2 0) (iv 0) <|
 ldP (bA r 0) fun t7 =>
 deref t7 fun a_2 =>
 ldP (a_2.add 0) fun t10 =>
 callF Tryz.prog 90 [(.pointer t10)] [.c .any] fun (t11 : Value) =>
 owe (okFn t11 ∨ t11 = Value.nilFunc) <|
 br (isNilF t11) (
 st (bA r_1 0) (.bool false) <|
 ldB (bA r_1 0) fun res =>
 Q res) (
 rngE Tryz.prog t11 [.c I64, .c .slice] (fun l (z : Int × Sl) bg nx lv =>
 bg (
 jn (S:=Bool) (fun R =>
 drw <|
 ldI (bA r_2 0) fun t17 =>
 ldP (bA r 0) fun t18 =>
 deref t18 fun a_9 =>
 ldP (a_9.add 2) fun t21 =>
 deref t21 fun a_12 =>
 ldS (a_12.add 1) fun t24 =>
 br (decide (t17 ≥ (t24.len : Int))) (
 R true) (
 ldP (bA r 0) fun t28 =>
 deref t28 fun a_16 =>
 ldP (a_16.add 2) fun t31 =>
 deref t31 fun a_19 =>
 ldS (a_19.add 1) fun t34 =>
 ldI (bA r_2 0) fun t35 =>
 el t34 t35 2 fun a_23 =>
 ldI (a_23.add 0) fun t38 =>
 br (t38 != z.1) (
 R true) (
 ldP (bA r 0) fun t43 =>
 deref t43 fun a_27 =>
 ldP (a_27.add 2) fun t46 =>
 deref t46 fun a_30 =>
 ldS (a_30.add 1) fun t49 =>
 ldI (bA r_2 0) fun t50 =>
 el t49 t50 2 fun a_34 =>
 ldS (a_34.add 1) fun t53 =>
 callF Tryz.prog 26 [(slV t53), (slV z.2)] [.c .bool] fun (t55 : Bool) =>
 R (!t55)))) fun s =>
 br s (
 st (bA r_1 0) (.bool false) <|
 lv none) (
 ldI (bA r_2 0) fun t58 =>
 st (bA r_2 0) (iv (w64 (t58 + 1))) <|
 nx))) (fun D =>
 drw <|
 ldI (bA r_2 0) fun t60 =>
 ldP (bA r 0) fun t61 =>
 deref t61 fun a_42 =>
 ldP (a_42.add 2) fun t64 =>
 deref t64 fun a_45 =>
 ldS (a_45.add 1) fun t67 =>
 br (t60 == (t67.len : Int)) (
 ldP (bA r 0) fun t71 =>
 deref t71 fun a_49 =>
 ldP (a_49.add 0) fun t74 =>
 jn (S:=Bool) (fun R_1 =>
 both (
 callF Tryz.prog 53 [(.pointer t74)] [.c .bool] fun (t75 : Bool) =>
 ldP (bA r 0) fun t76 =>
 deref t76 fun a_53 =>
 ldP (a_53.add 2) fun t79 =>
 deref t79 fun a_56 =>
 ldB (a_56.add 2) fun t82 =>
 owe True <|
 R_1 ((t75 == (!t82)))) (
 ldP (bA r 0) fun t76_1 =>
 deref t76_1 fun a_60 =>
 both (
 callF Tryz.prog 53 [(.pointer t74)] [.c .bool] fun (t75_1 : Bool) =>
 ldP (a_60.add 2) fun t79_1 =>
 deref t79_1 fun a_63 =>
 ldB (a_63.add 2) fun t82_1 =>
 owe True <|
 R_1 ((t75_1 == (!t82_1)))) (
 ldP (a_60.add 2) fun t79_2 =>
 deref t79_2 fun a_67 =>
 both (
 callF Tryz.prog 53 [(.pointer t74)] [.c .bool] fun (t75_2 : Bool) =>
 ldB (a_67.add 2) fun t82_2 =>
 owe True <|
 R_1 ((t75_2 == (!t82_2)))) (
 ldB (a_67.add 2) fun t82_3 =>
 callF Tryz.prog 53 [(.pointer t74)] [.c .bool] fun (t75_3 : Bool) =>
 owe True <|
 R_1 ((t75_3 == (!t82_3))))))) fun s_1 =>
 br s_1 (
 ldP (bA r 0) fun t87 =>
 deref t87 fun a_72 =>
 ldP (a_72.add 0) fun t90 =>
 jn (S:=Bool) (fun R_2 =>
 both (
 callF Tryz.prog 91 [(.pointer t90)] [.c I64] fun (t91 : Int) =>
 ldP (bA r 0) fun t92 =>
 deref t92 fun a_76 =>
 ldP (a_76.add 2) fun t95 =>
 deref t95 fun a_79 =>
 ldI (a_79.add 3) fun t98 =>
 R_2 ((t91 == t98))) (
 ldP (bA r 0) fun t92_1 =>
 deref t92_1 fun a_83 =>
 both (
 callF Tryz.prog 91 [(.pointer t90)] [.c I64] fun (t91_1 : Int) =>
 ldP (a_83.add 2) fun t95_1 =>
 deref t95_1 fun a_86 =>
 ldI (a_86.add 3) fun t98_1 =>
 R_2 ((t91_1 == t98_1))) (
 ldP (a_83.add 2) fun t95_2 =>
 deref t95_2 fun a_90 =>
 both (
 callF Tryz.prog 91 [(.pointer t90)] [.c I64] fun (t91_2 : Int) =>
 ldI (a_90.add 3) fun t98_2 =>
 R_2 ((t91_2 == t98_2))) (
 ldI (a_90.add 3) fun t98_3 =>
 callF Tryz.prog 91 [(.pointer t90)] [.c I64] fun (t91_3 : Int) =>
 R_2 ((t91_3 == t98_3)))))) fun s_2 =>
 br s_2 (
 ldP (bA r 0) fun t102 =>
 deref t102 fun a_95 =>
 ldP (a_95.add 0) fun t105 =>
 jn (S:=Sl × Option Addr) (fun R_3 =>
 both (
 callF Tryz.prog 25 [(.pointer t105)] [.c .slice] fun (t106 : Sl) =>
 ldP (bA r 0) fun t107 =>
 deref t107 fun a_99 =>
 ldP (a_99.add 2) fun t110 =>
 R_3 (t106, t110)) (
 ldP (bA r 0) fun t107_1 =>
 deref t107_1 fun a_103 =>
 both (
 callF Tryz.prog 25 [(.pointer t105)] [.c .slice] fun (t106_1 : Sl) =>
 ldP (a_103.add 2) fun t110_1 =>
 R_3 (t106_1, t110_1)) (
 ldP (a_103.add 2) fun t110_2 =>
 callF Tryz.prog 25 [(.pointer t105)] [.c .slice] fun (t106_2 : Sl) =>
 R_3 (t106_2, t110_2)))) fun s_3 =>
 callF Tryz.prog 92 [(.pointer s_3.2)] [.c .slice] fun (t111 : Sl) =>
 callF Tryz.prog 26 [(slV s_3.1), (slV t111)] [.c .bool] fun (t112 : Bool) =>
 st (bA r_1 0) (.bool t112) <|
 takes [D] <|
 ldB (bA r_1 0) fun res_1 =>
 Q res_1) (
 jn (S:=Unit) (fun R_4 =>
 both (
 R_4 ()) (
 both (
 R_4 ()) (
 R_4 ()))) fun s_4 =>
 st (bA r_1 0) (.bool false) <|
 takes [D] <|
 ldB (bA r_1 0) fun res_2 =>
 Q res_2)) (
 jn (S:=Unit) (fun R_5 =>
 both (
 R_5 ()) (
 both (
 R_5 ()) (
 both (
 R_5 ()) (
 R_5 ())))) fun s_5 =>
 jn (S:=Unit) (fun R_6 =>
 both (
 R_6 ()) (
 both (
 R_6 ()) (
 R_6 ()))) fun s_6 =>
 st (bA r_1 0) (.bool false) <|
 takes [D] <|
 ldB (bA r_1 0) fun res_3 =>
 Q res_3)) (
 jn (S:=Unit) (fun R_7 =>
 both (
 R_7 ()) (
 both (
 R_7 ()) (
 both (
 R_7 ()) (
 R_7 ())))) fun s_7 =>
 jn (S:=Unit) (fun R_8 =>
 both (
 R_8 ()) (
 both (
 R_8 ()) (
 both (
 R_8 ()) (
 R_8 ())))) fun s_8 =>
 jn (S:=Unit) (fun R_9 =>
 both (
 R_9 ()) (
 both (
 R_9 ()) (
 R_9 ()))) fun s_9 =>
 st (bA r_1 0) (.bool false) <|
 takes [D] <|
 ldB (bA r_1 0) fun res_4 =>
 Q res_4)) (fun D =>
 takes [D] <|
 ldB (bA r_1 0) fun res_5 =>
 Q res_5) (fun D => []))
theorem F41_calls (p0 : Option Addr) (Q : Bool → Pr) (w : World) (h : F41 p0 Q w) : Calls Tryz.prog 41 #[(.pointer p0)] w (RetT [.c .bool] Q) := cF (an := an41) Tryz.func41 (by kernel_rfl) h
end Go.Proofs

set_option maxRecDepth 20000
namespace Go.Proofs
open Go.Eng
abbrev WL := List (Int × Sl × List UInt8)
theorem wcells_na (wl : WL) : ∀ v ∈ wl.flatMap wcells, NotAgg v := by
 intro v hv
 rw [List.mem_flatMap] at hv
 obtain ⟨x, _, hx⟩ := hv
 simp only [wcells, List.mem_cons, List.not_mem_nil, or_false] at hx
 rcases hx with rfl | rfl <;> trivial
theorem wcells_size (wl : WL) : (wl.flatMap wcells).length = wl.length * 2 := flatMap_len wcells_len wl
theorem V140 (s : Sl) (wl : WL) (w : World) (h : WS w s wl) (hl : s.len ≤ 1000000) : Calls Tryz.prog 140 #[slV s] w (RetT [.c .slice] fun r w' => OwnS w' w.heap.size 2 r (wl.flatMap wcells) ∧ Grow w w') := by
 refine F140_calls s _ _ ?_
 unfold F140
 have hsl := h.len
 have hlen := wcells_size wl
 refine ⟨trivial, br_of (fun hn => ?_) (fun hn => ?_)⟩
 · have ha : s.a = none := by simpa using hn
   have h0 := h.none_len wcells_len (by decide) ha
   have hl0 : wl = [] := List.eq_nil_of_length_eq_zero (by omega)
   subst hl0
   exact ⟨OwnS.nil _ _ _, Mod.refl _ _⟩
 · have ha : s.a ≠ none := fun h => by simp [h] at hn
   refine app_own (n0 := w.heap.size) (vs := []) (new := wl.flatMap wcells) ⟨by simp, by simp, .inr ⟨w.heap.size, 0, [], rfl, Nat.le_refl _, by simp, fun o => by simp, Row.nil _ _, rfl⟩⟩ (by simp) (fun _ => by omega) (fun hx => absurd hx ha)
     (h.row.grow ((Mod.refl _ w).alloc _)) (wcells_na _) rfl (by decide) (by simp; omega) ?_
   intro r w' h1 h2 h3 h4 h5
   refine ⟨by simpa using h1, Mod.trans ((Mod.refl _ w).alloc _) h5 ?_⟩
   rintro b hb ⟨ad, had, rfl⟩
   simp only [Option.some.injEq] at had
   subst had
   exact absurd hb (Nat.lt_irrefl _)
def WaitM (r : Nat) (t : Sl) (wl : WL) (w : World) : Prop := Box w r [slV t] ∧ WS w t wl ∧ ∀ x ∈ wl, BS w x.2.1 x.2.2
def WaitX (wl : WL) (j : Nat) (x : Int × Sl) (w : World) : Prop := ∃ y, wl[j]? = some y ∧ x.1 = y.1 ∧ BS w x.2 y.2.2
theorem iter_wait (r : Nat) (t : Sl) (wl : WL) (hl : wl.length ≤ 1000000) (hb : ∀ x ∈ wl, x.2.2.length ≤ 1000000) : IterE Tryz.prog (.func (.func 141) #[] #[P0 r]) [.c (.int .i64), .c .slice] wl.length (WaitX wl) (WaitM r t wl) := by
 refine ⟨141, _, rfl, by kernel_rfl, fun y w I D hM hG h0 hr => ?_⟩
 refine F141_calls y _ _ _ ?_
 unfold F141
 rw [deref_some']
 refine ldC_of (s := .slice) (p := t) (hM _ _ h0).1.cell0 ?_
 have hsl := (hM _ _ h0).2.1.len
 refine loop_of (fun z W => ∃ j : Nat, z = (j : Int) ∧ j ≤ wl.length ∧ I j W) (fun z _ => wl.length - z.toNat) ⟨0, rfl, by omega, h0⟩ ?_
 rintro _ W ⟨j, rfl, hj, hI⟩
 refine br_of (fun hlt => ?_) fun hge => ?_
 · simp only [decide_eq_true_eq] at hlt
   have hjl : j < wl.length := by omega
   obtain ⟨x, hx⟩ : ∃ x, wl[j]? = some x := ⟨wl[j], by simp [hjl]⟩
   have hxm := List.mem_of_getElem? hx
   have hxb := hb x hxm
   refine (hM _ _ hI).2.1.eld wcells_len (n := 2) (cs := [.int .i64, .slice]) (p := (x.1, x.2.1)) hx (by decide) rfl ?_
   refine (St.init0 W).nvs (vs := [iv x.1, slV x.2.1]) rfl (by simp) fun r2 w2 s2 => ?_
   refine jn_of (fun b W' => if b = true then D W' else I (j + 1) W') ?_ ?_
   · rw [drw_def]
     have s3 := s2.drew
     have hI3 := hG _ _ _ hI s3.gro
     refine s3.L 0 rfl (p := x.2.1) rfl ?_
     have hbs := (hM _ _ hI3).2.2 x hxm
     have fin : ∀ (u : Sl) w4, OwnS w4 w2.drew.heap.size 1 u (x.2.2.map ub) ∧ (x.2.1.a = none → u.a = none) ∧ Grow w2.drew w4 → callV Tryz.prog y [iv x.1, slV u] [.c .bool] (fun t17 W' => if (!t17) = true then D W' else I (j + 1) W') w4 := by
       rintro u w4 ⟨h1, _, g⟩
       refine callV_mono (fun c W' hc => ?_) (hr j (x.1, u) w4 ⟨x, hx, rfl, h1.bs⟩ (hG _ _ _ hI3 g))
       cases c
       · rw [if_neg (by decide)] at hc; exact (if_pos rfl).mpr hc
       · rw [if_pos rfl] at hc; exact (if_neg (by decide)).mpr hc
     refine ⟨?_, ?_⟩
     · refine s3.L 0 rfl (p := x.1) rfl ?_
       refine callF_of (C15 x.2.1 x.2.2 _ hbs (by rw [hbs.len]; omega)) ?_
       exact fin
     · refine callF_of (C15 x.2.1 x.2.2 _ hbs (by rw [hbs.len]; omega)) fun u w4 h => ?_
       have s4 := s3.grow h.2.2
       refine s4.L 0 rfl (p := x.1) rfl ?_
       exact fin u w4 h
   rintro b W' hb'
   cases b
   · rw [if_neg (by decide)] at hb'
     refine br_f rfl ?_
     rw [w64_succ (by omega)]
     exact ⟨⟨j + 1, rfl, hjl, hb'⟩, by omega⟩
   · rw [if_pos rfl] at hb'
     exact br_t rfl (.inr hb')
 · simp only [decide_eq_false_iff_not] at hge
   have : j = wl.length := by omega
   subst this
   exact .inl hI
theorem V90 {p : Nat} {D : DM} {di : DI} {w : World} {F : Nat → Prop} (hh : Has (dpc p D di) w F) (hl : di.wl.length ≤ 1000000) :
   Calls Tryz.prog 90 #[P0 p] w (RetT [.c .any] fun v w' => ∃ r t, v = .func (.func 141) #[] #[P0 r] ∧ St noF w w' [BoxA r [slV t], SlA 2 t (di.wl.flatMap wcells)]) := by
 refine F90_calls _ _ _ ?_
 unfold F90
 refine ⟨trivial, St.nw (St.init0 w) fun r w1 s1 _ _ => ?_⟩
 have s1 : St noF w w1 [BoxA r [slV ⟨none, 0, 0⟩]] := s1
 have s0 : St F w w (dpc p D di) := St.init hh
 refine jn_of (fun _ W => ∃ t, St noF w W [BoxA r [slV t], SlA 2 t (di.wl.flatMap wcells)]) ?_ ?_
 · refine ⟨trivial, br_t rfl ?_⟩
   simp only [deref_some']
   refine (s0.grow s1.gro).L 0 rfl (p := di.ws) rfl ?_
   have hss : WS w1 di.ws di.wl := OwnS.ss (f := wcells) wcells_len (by decide) ((s0.grow s1.gro).bring 2).sl
   refine callF_of (V140 di.ws di.wl w1 hss (by rw [hss.len]; exact hl)) ?_
   rintro t w2 ⟨h1, g⟩
   have s2 := s1.mksl g h1
   exact (s2.bring 1).S 0 rfl (by simp) trivial fun w3 s3 => ⟨t, s3⟩
 · rintro ⟨⟩ W ⟨t, s⟩
   exact ⟨r, t, rfl, s⟩
theorem V91 {p : Nat} {D : DM} {di : DI} {w : World} {F : Nat → Prop} (hh : Has (dpc p D di) w F) : Calls Tryz.prog 91 #[P0 p] w (RetT [.c (.int .i64)] fun r w' => r = D.ops ∧ w = w') := by
 refine F91_calls _ _ _ ?_
 unfold F91
 refine ⟨trivial, br_f rfl ?_⟩
 simp only [deref_some']
 have s0 : St F w w (dpc p D di) := St.init hh
 exact s0.L 0 rfl (p := D.ops) rfl ⟨rfl, rfl⟩
end Go.Proofs

set_option maxRecDepth 20000
namespace Go.Proofs
open Go.Eng
section
variable {pp d dd : Nat} {sp ssp : Value} {D : DM} {w0 w : World} {F0 F : Nat → Prop}
abbrev PairA (pp d dd : Nat) (sp ssp : Value) : HA := BoxA pp [P0 d, sp, P0 dd, ssp]
abbrev dsL (r2 rc r1 r pp d dd : Nat) (sp ssp : Value) (j : Nat) (t : Sl) (D : DM) (di dj : DI) (b : Bool) : List HA :=
 BoxA r2 [iv j] :: BoxA rc [slV t] :: SlA 2 t (di.wl.flatMap wcells) :: BoxA r1 [.bool b] :: BoxA r [P0 pp] :: PairA pp d dd sp ssp :: (dpc d D di ++ dpc dd D dj)
theorem dsL_bs {r2 rc r1 r j : Nat} {t : Sl} {di dj : DI} {b : Bool} {L : List HA} (h : St F0 w0 w (dsL r2 rc r1 r pp d dd sp ssp j t D di dj b ++ L)) :
   (∀ x ∈ di.wl, BS w x.2.1 x.2.2) ∧ ∀ x ∈ dj.wl, BS w x.2.1 x.2.2 := by
 refine ⟨fun x hx => ?_, fun x hx => ?_⟩
 · obtain ⟨i, hi, rfl⟩ := List.mem_iff_getElem.1 hx
   exact ((St.bring 11 h).pick (i := i) (A := bytA (di.wl[i].2)) (by rw [List.getElem?_map, List.getElem?_eq_getElem hi]; rfl)).sl.bs
 · obtain ⟨i, hi, rfl⟩ := List.mem_iff_getElem.1 hx
   exact ((St.bring 17 h).pick (i := i) (A := bytA (dj.wl[i].2)) (by rw [List.getElem?_map, List.getElem?_eq_getElem hi]; rfl)).sl.bs
theorem V41 (hh : Has [PairA pp d dd sp ssp, DiskA d D, DiskA dd D] w F) (hok : D.ok) (hwl : D.wait.length ≤ 1000000) (hwb : ∀ x ∈ D.wait, x.2.length = 256) :
   Calls Tryz.prog 41 #[P0 pp] w (RetT [.c .bool] fun b w' => b = true ∧ St F w w' [PairA pp d dd sp ssp, DiskA d D, DiskA dd D]) := by
 refine F41_calls _ _ _ ?_
 unfold F41
 refine ⟨trivial, St.nw (St.init hh) fun r w1 s1 _ _ => ⟨trivial, St.nw s1 fun r1 w2 s2 _ _ => ⟨trivial, St.nw s2 fun r2 w3 s3 _ _ => ?_⟩⟩⟩
 have s3 : St F w w3 [BoxA r2 [iv 0], BoxA r1 [.bool false], BoxA r [P0 pp], PairA pp d dd sp ssp, DiskA d D, DiskA dd D] := s3
 refine s3.S 0 rfl (by simp) trivial fun w4 s4 => ?_
 have s4 : St F w w4 [BoxA r2 [iv 0], BoxA r1 [.bool false], BoxA r [P0 pp], PairA pp d dd sp ssp, DiskA d D, DiskA dd D] := s4
 obtain ⟨di, s5⟩ := (s4.sel [4, 0, 1, 2, 3, 5] 6).ex
 obtain ⟨⟨hbi, hwi⟩, s5⟩ := s5.p
 have s5 : St F w w4 (dpc d D di ++ [BoxA r2 [iv 0], BoxA r1 [.bool false], BoxA r [P0 pp], PairA pp d dd sp ssp, DiskA dd D]) := s5
 obtain ⟨dj, s6⟩ := (s5.sel [10, 0, 1, 2, 3, 4, 5, 6, 7, 8, 9] 11).ex
 obtain ⟨⟨hbj, hwj⟩, s6⟩ := s6.p
 have s6 : St F w w4 (dpc dd D dj ++ (dpc d D di ++ [BoxA r2 [iv 0], BoxA r1 [.bool false], BoxA r [P0 pp], PairA pp d dd sp ssp])) := s6
 have s7 : St F w w4 (dpc d D di ++ ([BoxA r2 [iv 0], BoxA r1 [.bool false], BoxA r [P0 pp], PairA pp d dd sp ssp] ++ dpc dd D dj)) := s6.sel [6, 7, 8, 9, 10, 11, 12, 13, 14, 15, 0, 1, 2, 3, 4, 5] 16
 refine s7.L 8 rfl (p := some ⟨pp, 0, none⟩) rfl ?_
 refine s7.L 9 rfl (p := some ⟨d, 0, none⟩) rfl ?_
 obtain ⟨G, H, g1, _⟩ := St.call (dpc d D di) s7
 have hli : di.wl.length = D.wait.length := by rw [hwi, List.length_map]
 have hlj : dj.wl.length = D.wait.length := by rw [hwj, List.length_map]
 refine callF_of (V90 g1 (by omega)) ?_
 rintro v w5 ⟨rc, t, rfl, k5⟩
 have s8 := s7.call0 k5
 have s8 : St F w w5 (dsL r2 rc r1 r pp d dd sp ssp 0 t D di dj false) := s8.sel [8, 0, 1, 9, 10, 11, 2, 3, 4, 5, 6, 7, 12, 13, 14, 15, 16, 17] 18
 refine ⟨.inl trivial, br_f rfl ?_⟩
 refine rng_st (iter_wait rc t di.wl (by omega) (fun x hx => by
     have := hwb (x.1, x.2.2) (by rw [hwi]; exact List.mem_map.2 ⟨x, hx, rfl⟩)
     dsimp only at this; omega)) (F0 := F) (w0 := w)
   (fun j : Nat => dsL r2 rc r1 r pp d dd sp ssp j t D di dj false) (fun j s => j = s ∧ j ≤ di.wl.length) (fun _ : Unit => []) (fun _ _ => False) 0 ⟨rfl, by omega⟩ s8 ?_ ?_ ?_ ?_
 · rintro j _ W T ⟨rfl, _⟩ hs
   exact ⟨(St.bring 1 hs).box, OwnS.ss (f := wcells) wcells_len (by decide) (St.bring 2 hs).sl, (dsL_bs hs).1⟩
 · rintro l m Ro j ⟨xk, xb⟩ _ W bg nx lv ⟨y, hy, hyk, hyb⟩ ⟨rfl, hjl⟩ hs hbg hnx _
   dsimp only at hyk hyb
   refine hbg _ _ _ hs fun W2 hpb sA => ?_
   have hyb := hpb _ _ hyb
   have hjl2 := get?_lt hy
   obtain ⟨z, hz⟩ : ∃ z, dj.wl[j]? = some z := ⟨dj.wl[j]'(by omega), by simp⟩
   have hyz : (y.1, y.2.2) = (z.1, z.2.2) := by
     have h1 : D.wait[j]? = some (y.1, y.2.2) := by rw [hwi, List.getElem?_map, hy]; rfl
     have h2 : D.wait[j]? = some (z.1, z.2.2) := by rw [hwj, List.getElem?_map, hz]; rfl
     rw [h1] at h2
     exact Option.some.inj h2
   obtain ⟨e1, e2⟩ := Prod.mk.inj hyz
   refine jn_of (fun b W' => b = false ∧ St F w W' (dsL r2 rc r1 r pp d dd sp ssp j t D di dj false ++ [ObjA l (Ro .busy), ObjA m ddO])) ?_ ?_
   · rw [drw_def]
     have sB := sA.drew
     have hyb := hyb.grow ((Mod.refl _ W2).drew)
     have hss : WS W2.drew dj.ws dj.wl := OwnS.ss (f := wcells) wcells_len (by decide) (St.bring 14 sB).sl
     have hwsl := hss.len
     refine St.L 0 sB rfl (p := (j : Int)) rfl ?_
     refine St.L 4 sB rfl (p := some ⟨pp, 0, none⟩) rfl ?_
     refine St.L 5 sB rfl (p := some ⟨dd, 0, none⟩) rfl ?_
     refine St.L 12 sB rfl (p := dj.ws) rfl ?_
     refine br_f (by simp; omega) ?_
     refine St.L 4 sB rfl (p := some ⟨pp, 0, none⟩) rfl ?_
     refine St.L 5 sB rfl (p := some ⟨dd, 0, none⟩) rfl ?_
     refine St.L 12 sB rfl (p := dj.ws) rfl ?_
     refine St.L 0 sB rfl (p := (j : Int)) rfl ?_
     refine hss.elc wcells_len (n := 2) (i := 0) (p := z.1) hz (by decide) rfl ?_
     refine br_f (by simp [hyk, e1]) ?_
     refine St.L 4 sB rfl (p := some ⟨pp, 0, none⟩) rfl ?_
     refine St.L 5 sB rfl (p := some ⟨dd, 0, none⟩) rfl ?_
     refine St.L 12 sB rfl (p := dj.ws) rfl ?_
     refine St.L 0 sB rfl (p := (j : Int)) rfl ?_
     refine hss.elc wcells_len (n := 2) (i := 1) (p := z.2.1) hz (by decide) rfl ?_
     refine callF_of (C18 z.2.1 xb z.2.2 y.2.2 _ ((dsL_bs sB).2 z (List.mem_of_getElem? hz)) hyb) ?_
     rintro _ _ ⟨rfl, rfl⟩
     exact ⟨by simp [e2], sB⟩
   rintro _ W3 ⟨rfl, sC⟩
   refine br_f rfl ?_
   refine St.L 0 sC rfl (p := (j : Int)) rfl ?_
   rw [w64_succ (by omega)]
   refine St.S 0 sC rfl (by simp) trivial fun W4 sD => ?_
   exact hnx (j + 1) W4 ⟨rfl, hjl2⟩ sD
 · rintro m _ W ⟨rfl, _⟩ sA
   have sB := sA.drew
   rw [drw_def]
   have sB : St F w W.drew (dsL r2 rc r1 r pp d dd sp ssp di.wl.length t D di dj false ++ [ObjA m ddO]) := sB
   have hss : WS W.drew dj.ws dj.wl := OwnS.ss (f := wcells) wcells_len (by decide) (St.bring 14 sB).sl
   have hwsl := hss.len
   have toD : ∀ {W' : World}, St F w W' (dsL r2 rc r1 r pp d dd sp ssp di.wl.length t D di dj false ++ [ObjA m ddO]) → St F w W' [DiskA d D, DiskA dd D, BoxA r1 [.bool false], ObjA m ddO, PairA pp d dd sp ssp, BoxA r [P0 pp]] := by
     intro W' h
     have h1 : St F w W' (dpc d D di ++ (dpc dd D dj ++ [BoxA r1 [.bool false], ObjA m ddO, PairA pp d dd sp ssp, BoxA r [P0 pp]])) := h.sel [6, 7, 8, 9, 10, 11, 12, 13, 14, 15, 16, 17, 3, 18, 5, 4] 19
     have h2 : St F w W' (DiskA d D :: (dpc dd D dj ++ [BoxA r1 [.bool false], ObjA m ddO, PairA pp d dd sp ssp, BoxA r [P0 pp]])) := mkDisk di hbi hwi h1
     exact (mkDisk (D := D) dj hbj hwj (h2.sel [1, 2, 3, 4, 5, 6, 0, 7, 8, 9, 10] 11)).sel [1, 0, 2, 3, 4, 5] 6
   have on : ∀ {W' : World} {k : Bool → Pr}, St F w W' (dsL r2 rc r1 r pp d dd sp ssp di.wl.length t D di dj false ++ [ObjA m ddO]) → k (!D.off) W' → callF Tryz.prog 53 [P0 d] [.c .bool] k W' := by
     intro W' k h hk
     obtain ⟨G, H, g2, _⟩ := St.call [DiskA d D] (toD h)
     exact callF_of (V53 d D W' G g2 hok) fun _ _ ⟨e, e'⟩ => by subst e e'; exact hk
   have ops : ∀ {W' : World} {k : Int → Pr}, St F w W' (dsL r2 rc r1 r pp d dd sp ssp di.wl.length t D di dj false ++ [ObjA m ddO]) → k D.ops W' → callF Tryz.prog 91 [P0 d] [.c (.int .i64)] k W' := by
     intro W' k h hk
     have h1 : St F w W' (dpc d D di ++ []) := h.sel [6, 7, 8, 9, 10, 11] 19
     obtain ⟨G, H, g2, _⟩ := St.call (dpc d D di) h1
     exact callF_of (V91 g2) fun _ _ ⟨e, e'⟩ => by subst e e'; exact hk
   refine St.L 0 sB rfl (p := (di.wl.length : Int)) rfl ?_
   refine St.L 4 sB rfl (p := some ⟨pp, 0, none⟩) rfl ?_
   refine St.L 5 sB rfl (p := some ⟨dd, 0, none⟩) rfl ?_
   refine St.L 12 sB rfl (p := dj.ws) rfl ?_
   refine br_t (by simp; omega) ?_
   refine St.L 4 sB rfl (p := some ⟨pp, 0, none⟩) rfl ?_
   refine St.L 5 sB rfl (p := some ⟨d, 0, none⟩) rfl ?_
   refine jn_of (fun b W' => b = true ∧ W' = W.drew) ?_ ?_
   · have fin : ((!D.off) == (!D.off)) = true := by simp
     refine ⟨on sB ?_, ?_⟩
     · refine St.L 4 sB rfl (p := some ⟨pp, 0, none⟩) rfl ?_
       refine St.L 5 sB rfl (p := some ⟨dd, 0, none⟩) rfl ?_
       exact St.L 12 sB rfl (p := D.off) rfl ⟨trivial, fin, rfl⟩
     refine St.L 4 sB rfl (p := some ⟨pp, 0, none⟩) rfl ?_
     rw [deref_some']
     refine ⟨on sB ?_, ?_⟩
     · refine St.L 5 sB rfl (p := some ⟨dd, 0, none⟩) rfl ?_
       exact St.L 12 sB rfl (p := D.off) rfl ⟨trivial, fin, rfl⟩
     refine St.L 5 sB rfl (p := some ⟨dd, 0, none⟩) rfl ?_
     rw [deref_some']
     refine ⟨on sB ?_, ?_⟩
     · exact St.L 12 sB rfl (p := D.off) rfl ⟨trivial, fin, rfl⟩
     refine St.L 12 sB rfl (p := D.off) rfl ?_
     exact on sB ⟨trivial, fin, rfl⟩
   rintro _ _ ⟨rfl, rfl⟩
   refine br_t rfl ?_
   refine St.L 4 sB rfl (p := some ⟨pp, 0, none⟩) rfl ?_
   refine St.L 5 sB rfl (p := some ⟨d, 0, none⟩) rfl ?_
   refine jn_of (fun b W' => b = true ∧ W' = W.drew) ?_ ?_
   · have fin : (D.ops == D.ops) = true := by simp
     refine ⟨ops sB ?_, ?_⟩
     · refine St.L 4 sB rfl (p := some ⟨pp, 0, none⟩) rfl ?_
       refine St.L 5 sB rfl (p := some ⟨dd, 0, none⟩) rfl ?_
       exact St.L 12 sB rfl (p := D.ops) rfl ⟨fin, rfl⟩
     refine St.L 4 sB rfl (p := some ⟨pp, 0, none⟩) rfl ?_
     rw [deref_some']
     refine ⟨ops sB ?_, ?_⟩
     · refine St.L 5 sB rfl (p := some ⟨dd, 0, none⟩) rfl ?_
       exact St.L 12 sB rfl (p := D.ops) rfl ⟨fin, rfl⟩
     refine St.L 5 sB rfl (p := some ⟨dd, 0, none⟩) rfl ?_
     rw [deref_some']
     refine ⟨ops sB ?_, ?_⟩
     · exact St.L 12 sB rfl (p := D.ops) rfl ⟨fin, rfl⟩
     refine St.L 12 sB rfl (p := D.ops) rfl ?_
     exact ops sB ⟨fin, rfl⟩
   rintro _ _ ⟨rfl, rfl⟩
   refine br_t rfl ?_
   refine St.L 4 sB rfl (p := some ⟨pp, 0, none⟩) rfl ?_
   refine St.L 5 sB rfl (p := some ⟨d, 0, none⟩) rfl ?_
   have sC := toD sB
   clear sB
   have img : ∀ {W' : World} {k : Sl → Pr}, St F w W' [DiskA d D, DiskA dd D, BoxA r1 [.bool false], ObjA m ddO, PairA pp d dd sp ssp, BoxA r [P0 pp]] →
       (∀ u W2, St F w W2 [SlA 1 u (D.blocks.flatten.map ub), DiskA d D, DiskA dd D, BoxA r1 [.bool false], ObjA m ddO, PairA pp d dd sp ssp, BoxA r [P0 pp]] → k u W2) → callF Tryz.prog 25 [P0 d] [.c .slice] k W' := by
     intro W' k h hk
     obtain ⟨G, H, g2, _⟩ := St.call [DiskA d D] h
     exact callF_of (C54 d D W' G g2 hok) fun u W2 s6 => hk u W2 (h.call0 s6)
   refine jn_of (fun (z : Sl × Option Addr) W' => z.2 = some ⟨dd, 0, none⟩ ∧ St F w W' [SlA 1 z.1 (D.blocks.flatten.map ub), DiskA d D, DiskA dd D, BoxA r1 [.bool false], ObjA m ddO, PairA pp d dd sp ssp, BoxA r [P0 pp]]) ?_ ?_
   · refine ⟨img sC fun u W2 sD => ?_, ?_⟩
     · refine St.L 6 sD rfl (p := some ⟨pp, 0, none⟩) rfl ?_
       exact St.L 5 sD rfl (p := some ⟨dd, 0, none⟩) rfl ⟨rfl, sD⟩
     refine St.L 5 sC rfl (p := some ⟨pp, 0, none⟩) rfl ?_
     rw [deref_some']
     refine ⟨img sC fun u W2 sD => ?_, ?_⟩
     · exact St.L 5 sD rfl (p := some ⟨dd, 0, none⟩) rfl ⟨rfl, sD⟩
     refine St.L 4 sC rfl (p := some ⟨dd, 0, none⟩) rfl ?_
     exact img sC fun u W2 sD => ⟨rfl, sD⟩
   rintro ⟨u, _⟩ W2 ⟨rfl, sD⟩
   dsimp only at sD ⊢
   obtain ⟨G, H, g2, _⟩ := St.call [DiskA dd D] (sD.sel [2, 0, 1, 3, 4, 5, 6] 7)
   refine callF_of (C55 dd D W2 G g2 hok) fun u2 W3 s6 => ?_
   have sE := sD.call0 s6
   have sE : St F w W3 [SlA 1 u2 (D.blocks.flatten.map ub), SlA 1 u (D.blocks.flatten.map ub), DiskA d D, DiskA dd D, BoxA r1 [.bool false], ObjA m ddO, PairA pp d dd sp ssp, BoxA r [P0 pp]] := sE
   refine callF_of (C18 u u2 _ _ W3 (sE.bring 1).sl.bs sE.sl.bs) ?_
   rintro _ _ ⟨rfl, rfl⟩
   refine sE.S 4 rfl (by simp) trivial fun W4 sF => ?_
   rw [beq_self_eq_true] at sF
   refine takesAt (V := [SlA 1 u2 (D.blocks.flatten.map ub), SlA 1 u (D.blocks.flatten.map ub), DiskA d D, DiskA dd D, BoxA r1 [.bool true]]) (T := [PairA pp d dd sp ssp, BoxA r [P0 pp]]) sF fun W5 sG => ?_
   refine St.L 4 sG rfl (p := true) rfl ⟨rfl, ?_⟩
   exact sG.sel [5, 2, 3] 7
 · rintro m q _ W hq _
   exact hq.elim
end
end Go.Proofs

set_option maxRecDepth 20000
namespace Go.Proofs
open Go.Eng
theorem commit_R {T : TM} {M : Nat} (h : T.up) (hD : DB M T.D) (hb : T.busy = true) (h0 : T.patV.length ≠ 0) (h1 : (T.patV.length : Int) < 4 * T.n) (h2 : (T.patV.length : Int) + 1 ≤ 4 * T.n - T.R.length) (hc : T.commit.1 = 0) : T.commit.2.R = T.R ++ (T.patV ++ [cmt T.patV.length]) := by
 have hmay : mayE T.dead T.D = 0 := by unfold mayE; rw [h.dead, h.off]; rfl
 revert hc
 unfold TM.commit
 rw [if_neg (not_not_intro hmay), if_neg (by rw [hb]; decide), if_neg h0, if_neg (by omega)]
 have hX : (if (T.patV.length : Int) + 1 > 4 * T.n - T.R.length then T.cpt else (0, T)) = (0, T) := if_neg (by omega)
 rw [hX]
 dsimp only
 rw [if_neg (not_not_intro rfl)]
 obtain ⟨ha, _⟩ := app_cases h hD (T.patV ++ [cmt T.patV.length])
 generalize T.app (T.patV ++ [cmt T.patV.length]) = A at ha ⊢
 rcases ha with ⟨a0, _, a2⟩ | ⟨a0, _⟩ | ⟨a0, _⟩
 · rw [if_neg (not_not_intro a0)]
   exact fun _ => a2
 · rw [if_pos a0]
   exact fun hc => absurd hc a0
 · rw [if_pos (by rw [a0]; decide)]
   exact fun hc => by rw [a0] at hc; cases hc
theorem cut_ab : (cutV 2 zero256 (lay zero256 0 [97, 98])).length = 1 := by decide +kernel
theorem lay_ab : ((lay zero256 0 [97, 98]).take 3).drop 0 = [97, 98, 0] := by decide +kernel
theorem some_ok : geoE someG = 0 := by decide
theorem begunC {w w0 : World} {F0 : Nat → Prop} {L : List HA} {K : Bool → Pr} (h : St F0 w0 w L) (hK : ∀ w', St F0 w0 w' L → K true w') : callF Tryz.prog 11 [] [.c .bool] K w := by
 refine callF_of (post := K) (F11_calls _ _ ?_) fun _ _ h => h
 unfold F11
 refine callF_of (C30 18 w) ?_
 rintro ⟨p, e⟩ w1 hr
 rw [if_pos (by decide)] at hr
 obtain ⟨rfl, dp, rfl, k1⟩ := hr
 have s1 := h.call0 k1
 have s1 : St F0 w0 w1 (DiskA dp (newD someG.1.toNat) :: L) := s1
 obtain ⟨f1, f2, f3, f4⟩ := format_ok some_ok
 have hD0 := newD_db (n := 18) (by decide) (by decide)
 refine jn_of (fun c W => c = false ∧ St F0 w0 W (DiskA dp (formatD (newD someG.1.toNat) someG).2 :: L)) ?_ ?_
 · refine br_f rfl ⟨trivial, br_f rfl ?_⟩
   refine callF_of (V47 w1) ?_
   rintro _ w2 ⟨rfl, g2⟩
   refine formatC (s1.grow g2) hD0 (by omega) fun w3 s3 => ?_
   rw [f1]
   exact ⟨rfl, s3⟩
 generalize formatD (newD someG.1.toNat) someG = A at f1 f2 f3 f4
 rintro _ w2 ⟨rfl, s2⟩
 refine br_f rfl ?_
 have hDA := f4.db
 obtain ⟨ho, hog⟩ := live_open f3 hDA f2.2 (by omega)
 have hoc := f2.openT
 rcases ho with ⟨⟨o1, o2⟩, o3, o4, o5⟩ | ⟨o1, _⟩
 rotate_left
 · exact absurd o1 hoc.on
 refine openC s2 hDA (by omega) (fun h => absurd o1 h) fun _ x w3 s3 => ?_
 obtain ⟨T1, hT1⟩ : ∃ T1, T0 A.2 = T1 := ⟨_, rfl⟩
 have hT1D : T1.D = (openT A.2).2 := by rw [← hT1]; rfl
 have hb1 : T1.busy = false := by rw [← hT1]; rfl
 have hR1 : T1.R = [] := by rw [← hT1]; rfl
 have hpg1 : T1.pg = [] := by rw [← hT1]; rfl
 rw [hT1] at s3 o4 o5
 rw [← hT1D] at s3 hoc hog
 have hP1 : T1.P = planT someG := by rw [o4.up.ok.P, o5]; decide
 have hu2 : usableS T1.P 2 := .inl rfl

 obtain ⟨T2, hT2⟩ : ∃ T2 : TM, T2 = { T1 with busy := true } := ⟨_, rfl⟩
 have hup2 : T2.up := by rw [hT2]; exact ⟨⟨o4.up.ok.D, o4.up.ok.P, o4.up.ok.g, o4.up.ok.len, o4.up.ok.h, o4.up.ok.R, o4.up.ok.ok, o4.up.ok.nod, o4.up.ok.pg, (fun h => by cases h)⟩, o4.up.dead, o4.up.off⟩
 have hl2 : Live T2 3 (fun _ => zero256) := o4.part hup2 (by rw [hT2]) (by rw [hT2]) (by rw [hT2]) (by rw [hT2]) (by rw [hT2])
 have hpg2 : T2.page 2 = zero256 := by
   unfold TM.page
   rw [show T2.pg = [] by rw [hT2]; exact hpg1]
   exact hl2.rd 2 (.inl rfl)
 have hmay2 : mayE T2.dead T2.D = 0 := by unfold mayE; rw [hup2.dead, hup2.off]; rfl
 have hw2 : T2.write 2 0 [97, 98] = (0, { T2 with pg := [(2, lay zero256 0 [97, 98])] }) := by
   unfold TM.write
   rw [if_neg (not_not_intro hmay2), if_neg (by rw [hT2]; simp), if_pos ⟨.inl rfl, by decide, by decide, by decide, by decide⟩, if_neg (by decide), hpg2]
   rw [show T2.pg = [] by rw [hT2]; exact hpg1]
   rfl
 obtain ⟨T3, hT3⟩ : ∃ T3 : TM, T3 = { T2 with pg := [(2, lay zero256 0 [97, 98])] } := ⟨_, rfl⟩
 have hlay : (lay zero256 0 [97, 98]).length = 256 := by rw [lay_len (by decide)]; exact List.length_replicate
 have hup3 : T3.up := by
   rw [hT3]
   exact ⟨⟨hup2.ok.D, hup2.ok.P, hup2.ok.g, hup2.ok.len, hup2.ok.h, hup2.ok.R, hup2.ok.ok, by simp, (fun p hp => by rw [List.mem_singleton] at hp; subst hp; exact ⟨.inl rfl, hlay⟩), (fun h => absurd ((show T2.busy = true by rw [hT2]).symm.trans h) (by decide))⟩, hup2.dead, hup2.off⟩
 have hl3 : Live T3 3 (fun _ => zero256) := hl2.part hup3 (by rw [hT3]) (by rw [hT3]) (by rw [hT3]) (by rw [hT3]) (by rw [hT3])
 have hb3 : T3.busy = true := by rw [hT3, hT2]
 have hn3 : T3.n = 8 := by
   show T3.S.2.2.1 = 8
   have : supG T3.S = someG := by rw [hT3, hT2]; exact o5
   exact congrArg (·.2.1) this
 have hR3 : T3.R = [] := by rw [hT3, hT2]; exact hR1
 have hpat : T3.patV = cutV 2 zero256 (lay zero256 0 [97, 98]) := by
   unfold TM.patV TM.changed
   rw [hb3, if_pos rfl]
   have e1 : T3.pg = [(2, lay zero256 0 [97, 98])] := by rw [hT3]
   have e2 : T3.page 2 = lay zero256 0 [97, 98] := by unfold TM.page; rw [e1]; rfl
   have e3 : rdD T3.D 2 = zero256 := hl3.rd 2 (.inl rfl)
   rw [e1]
   show (sortI [2]).flatMap _ = _
   rw [show sortI [2] = [2] from List.mergeSort_singleton ..]
   simp [e2, e3]
 have hpl : T3.patV.length = 1 := by rw [hpat]; exact cut_ab
 have hD1 : DB (0 + 5000 + 2060) T1.D := hog.db
 have hD3 : DB (0 + 5000 + 2060) T3.D := by rw [hT3, hT2]; exact hD1
 have hc3 : C0 T3.D := by rw [hT3, hT2]; exact hoc
 obtain ⟨hcm, hcg, hcS⟩ := live_commit hl3 (by omega) hD3 hb3
 have hcc := hc3.commit
 have hcm : T3.commit.1 = 0 ∧ Live T3.commit.2 4 T3.page := by
   rcases hcm with ⟨h1, h2, _⟩ | ⟨_, _, h3⟩ | ⟨_, h2, _⟩
   · exact ⟨h1, h2⟩
   · rw [hn3, hpl] at h3; exact absurd h3 (by decide)
   · rw [hcc.2] at h2; cases h2
 have hRl : T3.commit.2.R.length = 2 := by
   rw [commit_R hup3 hD3 hb3 (by omega) (by omega) (by rw [hR3, hn3, hpl]; decide) hcm.1, hR3, List.length_append, List.length_append, hpl]; rfl
 refine jn_of (fun c W => c = false ∧ St F0 w0 W (DiskA dp (onD (fallsD T3.commit.2.D [])) :: L)) ?_ ?_
 · refine br_f rfl ⟨trivial, br_f rfl ?_⟩
   refine beginC s3 o4.up hb1 fun w4 s4 => br_f rfl ?_
   have s4 : St F0 w0 w4 (TxA x dp 0 T2 :: DiskA dp T2.D :: L) := by rw [hT2]; exact s4
   refine St.nwMark s4 fun r w5 s5 => ?_
   have s5 : St F0 w0 w5 (SlA 1 ⟨some (bA r 0), 2, 2⟩ (([97, 98] : List UInt8).map ub) :: TxA x dp 0 T2 :: DiskA dp T2.D :: L) := s5
   have hwl := hup2.ok.D
   have hw2l : T2.D.wait.length ≤ 10000000 := by have := hD1.bd.wait; rw [hT2]; show T1.D.wait.length ≤ _; omega
   have s5' : St F0 w0 w5 (TxA x dp 0 T2 :: DiskA dp T2.D :: SlA 1 ⟨some (bA r 0), 2, 2⟩ (([97, 98] : List UInt8).map ub) :: L) := s5.sel [1, 2, 0] 3
   refine writeC (i := 2) (o := 0) (p := ⟨some (bA r 0), 2, 2⟩) (l := [97, 98]) s5' hup2.ok hw2l (by omega) (fun g3 g4 g5 => Rd.own g4 g5) fun w6 s6 => ?_
   rw [hw2, ← hT3] at s6
   rw [hw2]
   refine br_f rfl ?_
   have s6 : St F0 w0 w6 (TxA x dp 1 T3 :: DiskA dp T3.D :: SlA 1 ⟨some (bA r 0), 2, 2⟩ (([97, 98] : List UInt8).map ub) :: L) := by
     have e : T3.D = T2.D := by rw [hT3]
     rw [e]; exact s6
   refine commitC s6 hup3.ok hD3 (by omega) (by omega) fun w7 s7 => ?_
   rw [hcm.1]
   refine br_f rfl ?_
   refine heldC s7 hcm.2.up.ok fun w8 s8 => ?_
   rw [hRl]
   refine br_f rfl ?_
   have s8' : St F0 w0 w8 (DiskA dp T3.commit.2.D :: L) := s8.sel [1] 3
   refine crashC (p := ⟨none, 0, 0⟩) (pl := []) s8' hcg.db (by omega) (fun _ _ _ => Rd.nil _ _) fun w9 s9 => ?_
   have e1 : crashD T3.commit.2.D [] = (0, fallsD T3.commit.2.D []) := by unfold crashD; rw [hcm.2.up.off]; rfl
   rw [e1] at s9 ⊢
   refine br_f rfl ?_
   have hfd := falls_db hcg.db []
   refine upC s9 hfd.db.ok fun w10 s10 => ?_
   have e2 : upD (fallsD T3.commit.2.D []) = (0, onD (fallsD T3.commit.2.D [])) := rfl
   rw [e2] at s10 ⊢
   exact ⟨rfl, s10⟩
 rintro _ w4 ⟨rfl, s4⟩
 refine br_f rfl ?_
 have hfd := falls_db hcg.db []
 have hon := onD_db hfd.db
 have hgd : Good (onD (fallsD T3.commit.2.D [])) someG 4 T3.page := by
   have h1 := (hcm.2.good.falls hcg.db.ok []).same (E := onD (fallsD T3.commit.2.D [])) rfl rfl
   have e : supG T3.commit.2.S = someG := by rw [hcS, hT3, hT2]; exact o5
   rw [e] at h1
   exact h1
 obtain ⟨ho2, hog2⟩ := live_open hgd hon.db rfl (by omega)
 have hc5 : C0 (onD (fallsD T3.commit.2.D [])) := ⟨rfl, rfl⟩
 have hoc2 := hc5.openT
 generalize onD (fallsD T3.commit.2.D []) = D5 at s4 ho2 hog2 hoc2 hon hgd
 rcases ho2 with ⟨⟨p1, p2⟩, p3, p4, p5⟩ | ⟨p1, _⟩
 rotate_left
 · exact absurd p1 hoc2.on
 refine openC s4 hon.db (by omega) (fun h => absurd p1 h) fun _ y w5 s5 => ?_
 refine jn_of (fun c W => c = false ∧ W = w5) ?_ ?_
 · exact br_f rfl ⟨trivial, rfl, rfl⟩
 rintro _ _ ⟨rfl, rfl⟩
 refine br_f rfl ?_
 have hP5 : (T0 D5).P = planT someG := by rw [p4.up.ok.P, p5]; decide
 have hmay5 : mayE (T0 D5).dead (T0 D5).D = 0 := by unfold mayE; rw [p4.up.dead, p4.up.off]; rfl
 have hrd : (T0 D5).read 2 0 3 = (0, [97, 98, 0]) := by
   unfold TM.read
   rw [if_neg (not_not_intro hmay5), if_pos ⟨.inl rfl, by decide, by decide, by decide, by decide⟩]
   have e : (T0 D5).page 2 = lay zero256 0 [97, 98] := by
     have e1 : (T0 D5).page 2 = rdD (T0 D5).D 2 := rfl
     rw [e1, p4.rd 2 (.inl rfl)]
     unfold TM.page
     rw [show T3.pg = [(2, lay zero256 0 [97, 98])] by rw [hT3]]
     rfl
   rw [e]
   exact congrArg (Prod.mk 0) lay_ab
 refine readC s5 p4.up.ok (by show (openT D5).2.wait.length ≤ _; rw [p3]; simp) (by omega) fun t w6 s6 => ?_
 rw [hrd] at s6 ⊢
 refine br_t rfl ?_
 refine St.nw s6 fun r w7 s7 _ _ => ?_
 have s7 : St F0 w0 w7 (BoxA r (([97, 98, 0] : List UInt8).map ub) :: SlA 1 t (([97, 98, 0] : List UInt8).map ub) :: TxA y dp 1 (T0 D5).mark :: DiskA dp (T0 D5).D :: L) := s7
 have hbs : BS w7 ⟨some ⟨r, 0, none⟩, 3, 3⟩ [97, 98, 0] := ⟨rfl, readsAt_row.2 s7.box.row⟩
 refine callF_of (C18 t ⟨some ⟨r, 0, none⟩, 3, 3⟩ _ _ w7 (s7.bring 1).sl.bs hbs) ?_
 rintro q w8 ⟨rfl, rfl⟩
 have : (([97, 98, 0] : List UInt8) == [97, 98, 0]) = true := by decide
 rw [this]
 exact hK _ (s7.sel [] 4)
end Go.Proofs


set_option maxRecDepth 20000
namespace Go.Proofs
open Go.Eng
abbrev storeZ : List Value := [.pointer none, .pointer none, iv 0, iv 0, iv 0, iv 0, iv 0, iv 0, iv 0, iv 0, iv 0, iv 0, iv 0, iv 0, .bool false, .bool false, .map none]
def NS (p : Option Addr) (w : World) : Prop := p = none ∨ ∃ r, p = some ⟨r, 0, none⟩ ∧ Box w r storeZ
theorem NS.grow {p : Option Addr} {w w' : World} (h : NS p w) (g : Grow w w') : NS p w' := h.imp id fun ⟨r, e, hb⟩ => ⟨r, e, hb.grow g⟩
section
variable {p : Option Addr} {w : World}
end
end Go.Proofs


set_option maxRecDepth 20000
namespace Go.Proofs
open Go.Eng
section
variable {x dp N M : Nat} {T : TM} {D : DM} {w w0 : World} {F0 : Nat → Prop} {L : List HA}
theorem armR {p : Sl} {l : List UInt8} {n : Int} {K : Int → Pr} (h : St F0 w0 w (DiskA dp D :: L)) (hD : D.ok) (hr : Rd w0 F0 p l) (hl : l.length ≤ 1000000) (hK : ∀ w', St F0 w0 w' (DiskA dp (armD D n l).2 :: L) → K (armD D n l).1 w') : callF Tryz.prog 38 [P0 dp, iv n, slV p] [.c (.int .i64)] K w := by
 obtain ⟨G, H, g2, _, _, g5, gc⟩ := St.call [DiskA dp D] h
 refine callF_of (C49 dp D n p l w G g2 (hr.go h g5) hD hl) ?_
 rintro r w1 ⟨hr, s1⟩
 rw [hr]
 exact hK w1 (gc _ _ s1)
end
section
variable {g : Geo} {dp x z N k : Nat} {a b m p2 : Sl} {busy : Bool} {A : List (List UInt8)} {M : Option (List (List UInt8))} {D : DM} {pl : List UInt8} {p1 : Int} {w w0 : World} {F0 : Nat → Prop} {L : List HA}
end
end Go.Proofs

set_option maxRecDepth 100000
namespace Go.Proofs
open Go.Eng
def an7 : An := (.sq .z (.sq (.sq (.jn [(30, .c .bool)] .z) (.br (.sq .z .z) .z)) (.sq .z (.sq .z (.sq (.sq (.jn [(51, .c .bool)] .z) (.br (.sq .z .z) .z)) (.sq (.sq .z (.br (.sq .z .z) .z)) (.sq .z (.sq (.sq (.jn [(73, .c .bool)] .z) (.br (.sq .z .z) .z)) (.sq .z .z)))))))))
def F7 (p0 : Sl) (p1_0 : Int) (p1_1 : Int) (p1_2 : Int) (p1_3 : Int) (p2 : Int) (p3 : Sl) (Q : Bool → Pr) : Pr :=
 nw (.cells #[(iv p1_0), (iv p1_1), (iv p1_2), (iv p1_3)] 23) fun r =>
 jn (S:=Bool) (fun R =>
 callF Tryz.prog 11 [] [.c .bool] fun (t14 : Bool) =>
 br (!t14) (
 R true) (
 ldA [I64, I64, I64, I64] (bA r 0) fun (t17 : Int × Int × Int × Int) =>
 callF Tryz.prog 12 [(.agg #[(iv t17.1), (iv t17.2.1), (iv t17.2.2.1), (iv t17.2.2.2)])] [.c .bool] fun (t18 : Bool) =>
 br (!t18) (
 R true) (
 br (decide ((p0.len : Int) > 76800)) (
 R true) (
 R ((decide ((p3.len : Int) > 2000))))))) fun s =>
 br s (
 callF Tryz.prog 11 [] [.c .bool] fun (t31 : Bool) =>
 Q t31) (
 callF Tryz.prog 35 [(slV p0)] [.c .ptr, .c I64] fun (t34 : (Option Addr) × Int) =>
 callF Tryz.prog 36 [(slV p0)] [.c .ptr, .c I64] fun (t39 : (Option Addr) × Int) =>
 jn (S:=Bool) (fun R_1 =>
 br (t34.2 != t39.2) (
 R_1 true) (
 owe True <|
 owe True <|
 owe True <|
 R_1 ((!((Option.isNone t34.1) == (Option.isNone t39.1)))))) fun s_1 =>
 br s_1 (
 Q false) (
 owe True <|
 br (Option.isNone t34.1) (
 ldA [I64, I64, I64, I64] (bA r 0) fun (t54 : Int × Int × Int × Int) =>
 callF Tryz.prog 37 [(.pointer none), (.agg #[(iv t54.1), (iv t54.2.1), (iv t54.2.2.1), (iv t54.2.2.2)])] [.c I64] fun (t55 : Int) =>
 Q ((t55 == 2))) (
 nw (.cells #[(.pointer t34.1), (.pointer none), (.pointer t39.1), (.pointer none)] 82) fun r_1 =>
 jn (S:=Bool) (fun R_2 =>
 br (decide (p2 > 0)) (
 callF Tryz.prog 38 [(.pointer t34.1), (iv p2), (slV p3)] [.c I64] fun (t67 : Int) =>
 callF Tryz.prog 39 [(.pointer t39.1), (iv p2), (slV p3)] [.c I64] fun (t71 : Int) =>
 R_2 ((t67 != t71))) (
 R_2 false)) fun s_2 =>
 br s_2 (
 Q false) (
 drw <|
 ldA [I64, I64, I64, I64] (bA r 0) fun (t75 : Int × Int × Int × Int) =>
 both (
 callF Tryz.prog 37 [(.pointer t34.1), (.agg #[(iv t75.1), (iv t75.2.1), (iv t75.2.2.1), (iv t75.2.2.2)])] [.c I64] fun (t76 : Int) =>
 ldA [I64, I64, I64, I64] (bA r 0) fun (t78 : Int × Int × Int × Int) =>
 callF Tryz.prog 40 [(.pointer t39.1), (.agg #[(iv t78.1), (iv t78.2.1), (iv t78.2.2.1), (iv t78.2.2.2)])] [.c I64] fun (t79 : Int) =>
 br (t76 == t79) (
 callF Tryz.prog 41 [(.pointer (some ⟨r_1, 0, none⟩))] [.c .bool] fun (t83 : Bool) =>
 Q t83) (
 Q false)) (
 ldA [I64, I64, I64, I64] (bA r 0) fun (t78_1 : Int × Int × Int × Int) =>
 callF Tryz.prog 37 [(.pointer t34.1), (.agg #[(iv t75.1), (iv t75.2.1), (iv t75.2.2.1), (iv t75.2.2.2)])] [.c I64] fun (t76_1 : Int) =>
 callF Tryz.prog 40 [(.pointer t39.1), (.agg #[(iv t78_1.1), (iv t78_1.2.1), (iv t78_1.2.2.1), (iv t78_1.2.2.2)])] [.c I64] fun (t79_1 : Int) =>
 br (t76_1 == t79_1) (
 callF Tryz.prog 41 [(.pointer (some ⟨r_1, 0, none⟩))] [.c .bool] fun (t83_1 : Bool) =>
 Q t83_1) (
 Q false))))))
theorem F7_calls (p0 : Sl) (p1_0 : Int) (p1_1 : Int) (p1_2 : Int) (p1_3 : Int) (p2 : Int) (p3 : Sl) (Q : Bool → Pr) (w : World) (h : F7 p0 p1_0 p1_1 p1_2 p1_3 p2 p3 Q w) : Calls Tryz.prog 7 #[(slV p0), (.agg #[(iv p1_0), (iv p1_1), (iv p1_2), (iv p1_3)]), (iv p2), (slV p3)] w (RetT [.c .bool] Q) := cF (an := an7) Tryz.func7 (by kernel_rfl) h
end Go.Proofs

set_option maxRecDepth 20000
namespace Go.Proofs
open Go.Eng
theorem formatD_dg {D : DM} {N : Nat} (h : DB N D) (g : Geo) : DG D (formatD D g).2 N 5000 := by
 unfold formatD
 split
 · exact .refl h _
 · split
   · exact .refl h _
   · split
     · exact .refl h _
     · rename_i hg _
       have hp := planT_le (Classical.not_not.1 hg)
       have h1 := noughtD_dg 2 h 0
       have h2 := noughtD_dg ((planT g).2.2.2.2.1 - 2).toNat h1.db 2
       dsimp only
       split
       · exact h1.mono (by omega)
       · split
         · exact (h1.trans h2).mono (by omega)
         · exact ((h1.trans h2).trans (noteD_dg (h2.db.le (by omega)) _)).mono (by omega)
section
variable {dp N : Nat} {D : DM} {w w0 : World} {F0 : Nat → Prop} {L : List HA}
theorem formatR {g : Geo} {K : Int → Pr} (h : St F0 w0 w (DiskA dp D :: L)) (hD : DB N D) (hN : N ≤ 500000) (hK : ∀ w', St F0 w0 w' (DiskA dp (formatD D g).2 :: L) → K (formatD D g).1 w') : callF Tryz.prog 40 [P0 dp, g.v] [.c (.int .i64)] K w := by
 obtain ⟨G, H, g2, _, _, _, gc⟩ := St.call [DiskA dp D] h
 refine callF_of (V40 g2 hD hN) ?_
 rintro r w1 ⟨hr, s1⟩
 rw [hr]
 exact hK w1 (gc _ _ s1)
theorem armRR {p : Sl} {l : List UInt8} {n : Int} {K : Int → Pr} (h : St F0 w0 w (DiskA dp D :: L)) (hr : Rd w0 F0 p l) (hl : l.length ≤ 1000000) (hK : ∀ w', St F0 w0 w' (DiskA dp (armD D n l).2 :: L) → K (armD D n l).1 w') : callF Tryz.prog 39 [P0 dp, iv n, slV p] [.c (.int .i64)] K w := by
 obtain ⟨G, H, g2, _, _, g5, gc⟩ := St.call [DiskA dp D] h
 refine callF_of (C50 dp D n p l w G g2 (hr.go h g5) hl) ?_
 rintro r w1 ⟨hr, s1⟩
 rw [hr]
 exact hK w1 (gc _ _ s1)
end
def armedD (l : List UInt8) (n : Int) (m : List UInt8) : DM := if n > 0 then (armD (ofD l) n m).2 else ofD l
theorem armedD_db {l m : List UInt8} {n : Int} (h : okI l) (hn : n ≤ 9223372036854775807) : DB 0 (armedD l n m) := by
 have hb : (ofD l).bd 0 := ⟨⟨by show (0 : Int) ≤ 0; omega, by show (0 : Int) ≤ _; omega⟩, ⟨by show (0 : Int) ≤ 0; omega, by show (0 : Int) ≤ _; omega⟩, by simp [ofD]⟩
 have hok := ofD_ok h
 unfold armedD
 split
 · unfold armD
   rw [if_neg (show ¬ ((ofD l).off = true) from fun h => by cases h), if_neg (by omega)]
   exact ⟨⟨hok.len, hok.wlen, hok.pos, hok.le⟩, ⟨⟨by show 0 ≤ n; omega, hn⟩, hb.ops, hb.wait⟩⟩
 · exact ⟨hok, hb⟩
theorem V37n (g : Geo) (w : World) : Calls Tryz.prog 37 #[.pointer none, g.v] w (RetT [.c (.int .i64)] fun r w' => r = 2 ∧ Grow w w') := by
 refine F37_calls _ g.1 g.2.1 g.2.2.1 g.2.2.2 _ _ ?_
 unfold F37
 refine St.nw (St.init0 w) fun r w1 s1 _ _ => ?_
 refine callF_of (post := fun (x : Int) W => x = 2 ∧ W = w1) (F69_calls _ _ _ ?_) ?_
 · unfold F69
   refine callF_of (post := fun (x : Int) W => x = 0 ∧ W = w1) (F83_calls _ _ _ ?_) ?_
   · unfold F83
     exact ⟨trivial, br_t rfl ⟨rfl, rfl⟩⟩
   rintro _ _ ⟨rfl, rfl⟩
   exact br_t rfl ⟨rfl, rfl⟩
 rintro _ _ ⟨rfl, rfl⟩
 exact br_t rfl ⟨rfl, s1.gro⟩
section
variable {q t : Sl} {l m : List UInt8} {w W : World} {L : List HA}
theorem ofsC {K : Option Addr × Int → Option Addr × Int → Pr} (h : St noF w W L) (hq : BS w q l) (hqc : q.len ≤ q.cap) (hl : l.length ≤ 100000000)
   (hK : ∀ x y W', ¬ okI l → x = (none, 1) → y = (none, 1) → St noF w W' L → K x y W') (hK2 : ∀ p p' W', okI l → St noF w W' (DiskA p (ofD l) :: DiskA p' (ofD l) :: L) → K (some ⟨p, 0, none⟩, 0) (some ⟨p', 0, none⟩, 0) W') :
   callF Tryz.prog 35 [slV q] [.c .ptr, .c (.int .i64)] (fun x => callF Tryz.prog 36 [slV q] [.c .ptr, .c (.int .i64)] fun y => K x y) W := by
 have hr : Rd w noF q l := ⟨hq, fun _ _ _ h => h⟩
 refine callF_of (V35 (hr.at h) hqc hl) ?_
 rintro x W1 (⟨hk, hx2, p, hx1, s1⟩ | ⟨hk, rfl, g1⟩)
 · have s2 := h.call0 s1
   refine callF_of (V36 (hr.at s2) hqc hl) ?_
   rintro y W2 (⟨_, hy2, p', hy1, s3⟩ | ⟨hk2, _⟩)
   · have s4 := (s2.call0 s3).bring 1
     have ex : x = (some ⟨p, 0, none⟩, 0) := Prod.ext hx1 hx2
     have ey : y = (some ⟨p', 0, none⟩, 0) := Prod.ext hy1 hy2
     rw [ex, ey]
     exact hK2 p p' W2 hk s4
   · exact absurd hk hk2
 · have s2 := h.grow g1
   refine callF_of (V36 (hr.at s2) hqc hl) ?_
   rintro y W2 (⟨hk2, _⟩ | ⟨_, rfl, g2⟩)
   · exact absurd hk2 hk
   · exact hK _ _ W2 hk rfl rfl (s2.grow g2)
theorem armsC {p p' : Nat} {n : Int} {K : Bool → Pr} (h : St noF w W (DiskA p (ofD l) :: DiskA p' (ofD l) :: L)) (hk : okI l) (ht : BS w t m) (hm : m.length ≤ 1000000)
   (hK : ∀ W', St noF w W' (DiskA p (armedD l n m) :: DiskA p' (armedD l n m) :: L) → K false W') :
   (jn (S:=Bool) (fun R => br (decide (n > 0)) (callF Tryz.prog 38 [P0 p, iv n, slV t] [.c (.int .i64)] fun x => callF Tryz.prog 39 [P0 p', iv n, slV t] [.c (.int .i64)] fun y => R (x != y)) (R false)) K) W := by
 have hr : Rd w noF t m := ⟨ht, fun _ _ _ h => h⟩
 refine jn_of (fun c W' => c = false ∧ St noF w W' (DiskA p (armedD l n m) :: DiskA p' (armedD l n m) :: L)) ?_ ?_
 · unfold armedD
   refine br_of (fun hn => ?_) fun hn => ?_
   · rw [if_pos (of_decide_eq_true hn)]
     refine armR h (ofD_ok hk) hr hm fun W1 s1 => ?_
     refine armRR (s1.bring 1) hr hm fun W2 s2 => ?_
     exact ⟨by simp, s2.bring 1⟩
   · rw [if_neg (of_decide_eq_false hn)]
     exact ⟨rfl, h⟩
 rintro _ W' ⟨rfl, s⟩
 exact hK W' s
end
theorem law7 (q : Sl) (l : List UInt8) (g0 g1 g2 g3 n : Int) (t : Sl) (m : List UInt8) (w : World) (hq : BS w q l) (hqc : q.len ≤ q.cap) (hn : (Lit.int .i64 n).wf = true) (ht : BS w t m) :
   Calls Tryz.prog 7 #[slV q, .agg #[iv g0, iv g1, iv g2, iv g3], iv n, slV t] w (RetT [.c .bool] fun r w' => r = true ∧ Grow w w') := by
 refine F7_calls _ g0 g1 g2 g3 _ _ _ _ ?_
 unfold F7
 have hn : n ≤ 9223372036854775807 := by
   simp only [Lit.wf, Bool.and_eq_true, decide_eq_true_eq] at hn
   exact hn.2
 obtain ⟨g, hgg⟩ : ∃ g : Geo, g = (g0, g1, g2, g3) := ⟨_, rfl⟩
 refine St.nw (St.init0 w) fun r w1 s1 _ _ => ?_
 have s1 : St noF w w1 [BoxA r (gcells g)] := by rw [hgg]; exact s1
 have hql := hq.len
 have htl := ht.len
 refine jn_of (fun c W => (c = false → l.length ≤ 76800 ∧ m.length ≤ 2000) ∧ St noF w W [BoxA r (gcells g)]) ?_ ?_
 · refine begunC s1 fun w2 s2 => br_f rfl ?_
   refine s2.LA 0 rfl (p := g) rfl ?_
   refine callF_of (V12 g w2) ?_
   rintro _ w3 ⟨_, k3⟩
   have s3 := s2.grow k3
   refine br_of (fun _ => ⟨fun h => (by cases h), s3⟩) fun _ => ?_
   refine br_of (fun _ => ⟨fun h => (by cases h), s3⟩) fun h1 => ⟨fun h2 => ?_, s3⟩
   simp only [decide_eq_false_iff_not] at h1 h2
   omega
 rintro c W ⟨hc, s2⟩
 refine br_of (fun _ => begunC s2 fun w4 s4 => ⟨rfl, s4.gro⟩) fun hcf => ?_
 obtain ⟨hl, hm⟩ := hc hcf
 refine ofsC s2 hq hqc (by omega) (fun x y W' _ hx hy s3 => ?_) fun p p' W' hk s3 => ?_
 · subst hx hy
   refine jn_of (fun c W2 => c = false ∧ W2 = W') (br_f rfl ⟨trivial, trivial, trivial, rfl, rfl⟩) ?_
   rintro _ _ ⟨rfl, rfl⟩
   refine br_f rfl ⟨trivial, br_t rfl ?_⟩
   refine s3.LA 0 rfl (p := g) rfl ?_
   refine callF_of (V37n g _) ?_
   rintro _ w5 ⟨rfl, k5⟩
   exact ⟨rfl, (s3.grow k5).gro⟩
 · refine jn_of (fun c W2 => c = false ∧ W2 = W') (br_f rfl ⟨trivial, trivial, trivial, rfl, rfl⟩) ?_
   rintro _ _ ⟨rfl, rfl⟩
   refine br_f rfl ⟨trivial, br_f rfl ?_⟩
   refine St.nw s3 fun r1 w4 s4 _ _ => ?_
   have s4 : St noF w w4 (DiskA p (ofD l) :: DiskA p' (ofD l) :: [PairA r1 p p' (.pointer none) (.pointer none), BoxA r (gcells g)]) := s4.sel [1, 2, 0, 3] 4
   refine armsC s4 hk ht (by omega) fun w5 s5 => br_f rfl ?_
   have hdb := armedD_db (m := m) (n := n) hk hn
   generalize armedD l n m = D at s5 hdb
   have hdg := formatD_dg hdb g
   have fin : ∀ W2, St noF w W2 [DiskA p (formatD D g).2, DiskA p' (formatD D g).2, PairA r1 p p' (.pointer none) (.pointer none), BoxA r (gcells g)] →
       callF Tryz.prog 41 [P0 r1] [.c .bool] (fun (x : Bool) W3 => x = true ∧ Grow w W3) W2 := by
     intro W2 s6
     obtain ⟨G, H, k2, _, _, _, gc⟩ := St.call [PairA r1 p p' (.pointer none) (.pointer none), DiskA p (formatD D g).2, DiskA p' (formatD D g).2] (s6.sel [2, 0, 1, 3] 4)
     refine callF_of (V41 k2 hdg.db.ok (by have := hdg.db.bd.wait; omega) fun x hx => (hdg.db.ok.wlen x hx).2.2) ?_
     rintro _ W3 ⟨rfl, s7⟩
     exact ⟨rfl, (gc _ _ s7).gro⟩
   rw [drw_def]
   have s6 := s5.drew
   refine s6.LA 3 rfl (p := g) rfl ⟨?_, ?_⟩
   · refine formatC s6 hdb (by omega) fun w7 s7 => ?_
     refine s7.LA 3 rfl (p := g) rfl ?_
     refine formatR (s7.bring 1) hdb (by omega) fun w8 s8 => ?_
     refine br_t (by simp) ?_
     exact fin w8 (s8.bring 1)
   · refine s6.LA 3 rfl (p := g) rfl ?_
     refine formatC s6 hdb (by omega) fun w7 s7 => ?_
     refine formatR (s7.bring 1) hdb (by omega) fun w8 s8 => ?_
     refine br_t (by simp) ?_
     exact fin w8 (s8.bring 1)
end Go.Proofs

namespace Go.Eng
open Go.RowKit
theorem Grow.below {w w' : World} (h : Grow w w') : Below w.heap.size w w' := ⟨h.rest.1, h.rest.2.1, h.rest.2.2, h.size, fun k hk => h.same k hk fun h => h⟩
theorem row_num {n : Int} (h : (Lit.int .u8 n).wf = true) : (Value.int .u8 n) = ub (UInt8.ofNat n.toNat) := by
 have h2 : 0 ≤ n ∧ n ≤ 255 := by
   simp only [Lit.wf, IntKind.min, IntKind.max, IntKind.signed, IntKind.bits, Bool.and_eq_true, decide_eq_true_eq] at h
   simpa using h
 have h3 : ((UInt8.ofNat n.toNat).toNat : Int) = n := by simp; omega
 rw [ub, h3]
end Go.Eng

set_option maxRecDepth 100000
namespace Go.Proofs
open Go.Eng Go.ChangeShapes Go.WideShapes Go.ChangeAt Go.RowKit Go.Deep
structure Tw where
 d : Int
 k : Int
 o : Int
 n : Int
 b : Sl
 p : Sl
def Tw.cells (x : Tw) : List Value := [iv x.d, iv x.k, iv x.o, iv x.n, slV x.b, slV x.p]
section
variable {H : Type} {enc : TypeId × Value → H} {W : World} {sp : Nat → Bool}
theorem open_bytesT {fuel : Nat} {v : Value} {x : DataW H × List MemPlace} (h : DataW.trod enc Tryz.prog W 0 sp true fuel 33 [v] = some x) :
   ∃ (s : Sl) (l : List UInt8), v = slV s ∧ BS W s l ∧ s.len ≤ s.cap := by
 rcases open_ints Tryz.underlying33 Tryz.underlying5 (by kernel_rfl) h with ⟨hcs, _⟩ | ⟨x, l, c, zs, hcs, _, hl, hm, hz, hr, hcell, hwz⟩
 · simp only [List.cons.injEq, and_true] at hcs
   exact ⟨⟨none, 0, 0⟩, [], hcs, BS.nil _ _, Nat.le_refl _⟩
 · simp only [List.cons.injEq, and_true] at hcs
   have hz' : l ≤ zs.length := by rw [hz]; split <;> omega
   refine ⟨⟨some x, l, c⟩, (zs.take l).map fun n => UInt8.ofNat n.toNat, hcs, ⟨by simp; omega, readsAt_row.2 fun j v hj => ?_⟩, hl⟩
   simp only [List.map_map, List.getElem?_map, List.getElem?_take] at hj
   split at hj
   · rename_i hlt
     have hjl : j < zs.length := by omega
     rw [hcell j hjl]
     simp only [hjl, List.getElem?_eq_getElem, Option.map_some, Option.some.injEq, Function.comp_apply] at hj
     subst hj
     rw [show zs.getD j 0 = zs[j] by simp [List.getD, hjl]]
     exact congrArg some (row_num (hwz _ (List.getElem_mem hjl)))
   · cases hj
theorem open_geoT {fuel : Nat} {cs : List Value} {x : DataW H × List MemPlace} (h : DataW.trod enc Tryz.prog W 0 sp true fuel 23 cs = some x) :
   ∃ a b c d : Int, cs = [iv a, iv b, iv c, iv d] := by
 obtain ⟨xs, n, _, _, hl, hxl, hf⟩ := DataW.trod_struct Tryz.underlying23 h
 have h5 : Tryz.prog.cellsOf 23 = 4 := by kernel_rfl
 have h3 : Tryz.prog.cellsOf 3 = 1 := by kernel_rfl
 rw [h5] at hl
 have hxl' : xs.length = 4 := hxl
 match cs, hl with
 | [v0, v1, v2, v3], _ =>
   have u0 : DataW.trod enc Tryz.prog W 0 sp true n 3 (([v0, v1, v2, v3].drop 0).take (Tryz.prog.cellsOf 3)) = xs[0]? := hf 0 _ rfl
   have u1 : DataW.trod enc Tryz.prog W 0 sp true n 3 (([v0, v1, v2, v3].drop 1).take (Tryz.prog.cellsOf 3)) = xs[1]? := hf 1 _ rfl
   have u2 : DataW.trod enc Tryz.prog W 0 sp true n 3 (([v0, v1, v2, v3].drop 2).take (Tryz.prog.cellsOf 3)) = xs[2]? := hf 2 _ rfl
   have u3 : DataW.trod enc Tryz.prog W 0 sp true n 3 (([v0, v1, v2, v3].drop 3).take (Tryz.prog.cellsOf 3)) = xs[3]? := hf 3 _ rfl
   rw [List.getElem?_eq_getElem (by omega), h3] at u0 u1 u2 u3
   simp only [List.drop, List.take] at u0 u1 u2 u3
   obtain ⟨q0, e0, _, _⟩ := DataW.trod_int Tryz.underlying3 u0
   obtain ⟨q1, e1, _, _⟩ := DataW.trod_int Tryz.underlying3 u1
   obtain ⟨q2, e2, _, _⟩ := DataW.trod_int Tryz.underlying3 u2
   obtain ⟨q3, e3, _, _⟩ := DataW.trod_int Tryz.underlying3 u3
   simp only [List.cons.injEq, and_true] at e0 e1 e2 e3
   subst e0 e1 e2 e3
   exact ⟨q0, q1, q2, q3, rfl⟩
end
end Go.Proofs
