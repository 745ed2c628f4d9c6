import Derived.Test.YtiebhappinojmaaGreatX1
import Derived.Test.YtiebhappinojmaaGreatX2
import Derived.Test.YtiebhappinojmaaGreatX3
import Derived.Test.YtiebhappinojmaaGreatX4
import Derived.Test.YtiebhappinojmaaGreatProg
set_option linter.unusedVariables false
set_option linter.unusedSimpArgs false
set_option linter.unusedSectionVars false
namespace Go.Proofs
open Go.Eng
def setB (vs : List Rv) : List Int := vs.foldl (fun ks v => if v.1 = 1 then addB ks v.2.1 else ks) []
def blocksV (vs : List Rv) : List Int := sortI (setB vs)
theorem addB_len (ks : List Int) (k : Int) : (addB ks k).length ≤ ks.length + 1 := by unfold addB; split <;> simp
theorem setB_snoc (vs : List Rv) (v : Rv) : setB (vs ++ [v]) = if v.1 = 1 then addB (setB vs) v.2.1 else setB vs := by simp [setB, List.foldl_append]
theorem setB_len : ∀ (vs : List Rv), (setB vs).length ≤ vs.length := by
 intro vs
 unfold setB
 suffices ∀ (vs : List Rv) (ks : List Int), (vs.foldl (fun ks v => if v.1 = 1 then addB ks v.2.1 else ks) ks).length ≤ ks.length + vs.length by simpa using this vs []
 intro vs
 induction vs with
 | nil => intro ks; simp
 | cons v vs ih =>
   intro ks
   rw [List.foldl_cons, List.length_cons]
   have h1 := ih (if v.1 = 1 then addB ks v.2.1 else ks)
   have h2 := addB_len ks v.2.1
   have h3 : (if v.1 = 1 then addB ks v.2.1 else ks).length ≤ ks.length + 1 := by split <;> omega
   omega
theorem V54s (s : Sl) (w : World) : Calls Tryz.prog 54 #[slV s] w (RetT [.c .any] fun r w' => ∃ b, r = .func (.func 104) #[] #[.pointer (some ⟨b, 0, none⟩)] ∧ St noF w w' [BoxA b [slV s]]) := by
 refine F54_calls s _ _ ?_
 unfold F54
 exact ⟨trivial, St.nw (St.init0 w) fun b w1 s1 _ _ => ⟨b, rfl, s1⟩⟩
theorem V117 (s : Sl) (xs : List Rc) (w : World) (h : RL w s xs) (hl : s.len ≤ 1000000) : Calls Tryz.prog 117 #[.slice s.a s.len s.cap] w
   (RetT [.c .any] fun r w' => ∃ b t, r = .func (.func 104) #[] #[.pointer (some ⟨b, 0, none⟩)] ∧ St noF w w' [BoxA b [slV t], SlA 1 t (ints (blocksV (xs.map rv)))]) := by
 refine F117_calls s _ _ ?_
 unfold F117
 rw [nw_def]
 have hsl := h.len
 have hgm : Grow w (w.alloc (.map #[] 0)) := (Mod.refl _ w).alloc _
 refine loop_of (fun i W => ∃ j : Nat, i = j ∧ j ≤ xs.length ∧ Grow w W ∧ ∃ es clock, MapI W w.heap.size es clock (setB ((xs.take j).map rv))) (fun i _ => xs.length - i.toNat)
   ⟨0, rfl, by omega, hgm, #[], 0, heap_alloc_new _ _, by simp, by simp, by simp [setB, ints], by simp [setB]⟩ ?_
 rintro _ W ⟨j, rfl, hj, hg, es, clock, hm⟩
 refine br_of (fun hlt => ?_) (fun hge => ?_)
 · simp only [decide_eq_true_eq] at hlt
   have hjl : j < xs.length := by omega
   have hstep : setB ((xs.take (j + 1)).map rv) = if xs[j].1.k = 1 then addB (setB ((xs.take j).map rv)) xs[j].1.b else setB ((xs.take j).map rv) := by
     rw [take_succ' hjl, List.map_append, List.map_cons, List.map_nil, setB_snoc]
     rfl
   refine jn_of (fun _ W' => Grow w W' ∧ ∃ es clock, MapI W' w.heap.size es clock (setB ((xs.take (j + 1)).map rv))) ?_ ?_
   rotate_left
   · rintro ⟨⟩ W' ⟨h1, h2⟩
     rw [wrap_succ (by omega)]
     exact ⟨⟨j + 1, rfl, hjl, h1, h2⟩, by omega⟩
   refine rec_of (⟨h.1.grow hg, fun x hx => (h.2 x hx).grow hg⟩ : RL _ s xs) hjl ?_
   refine nw_of fun r w2 g2 e2 s2 bx => ?_
   simp only [deref_some']
   have hgst : ∀ {w4 w5 : World}, Grow W w4 → Mod (· = r) w4 w5 → Grow W w5 := fun h4 h5 => Mod.trans h4 h5 fun c hc1 hc2 => by omega
   refine bx.st (by simp) trivial fun w3 k3 m3 s3 => ?_
   refine k3.st (by simp) trivial fun w4 k4 m4 s4 => ?_
   refine k4.st (by simp) trivial fun w5 k5 m5 s5 => ?_
   refine k5.st (by simp) trivial fun w6 k6 m6 s6 => ?_
   refine k6.st (by simp) trivial fun w7 k7 m7 s7 => ?_
   have g7 : Grow W w7 := hgst (hgst (hgst (hgst (hgst g2 m3) m4) m5) m6) m7
   have hmlt : w.heap.size < W.heap.size := by
     rcases Nat.lt_or_ge w.heap.size W.heap.size with h' | h'
     · exact h'
     · have := hm.heap; rw [Array.getElem?_eq_none h'] at this; cases this
   have hm7 : MapI w7 w.heap.size es clock (setB ((xs.take j).map rv)) := ⟨(g7.same _ hmlt fun h => h).trans hm.heap, hm.born, hm.nod, hm.keys, hm.knod⟩
   have hg7 := Grow.trans hg g7
   refine k7.ld (i := 0) (s := .int .i64) (p := xs[j].1.k) rfl ?_
   refine br_of (fun hk1 => ?_) (fun hk1 => ?_)
   · simp only [beq_iff_eq] at hk1
     refine k7.ld (i := 1) (s := .int .i64) (p := xs[j].1.b) rfl ?_
     refine put_int hm7 fun w8 es' clock' h8 m8 _ => ?_
     refine ⟨Mod.trans hg7 m8 fun c hc1 hc2 => by omega, es', clock', ?_⟩
     rw [hstep, if_pos hk1]
     exact h8
   · simp only [beq_eq_false_iff_ne] at hk1
     refine ⟨hg7, es, clock, ?_⟩
     rw [hstep, if_neg hk1]
     exact hm7
 · simp only [decide_eq_false_iff_not] at hge
   rw [List.take_of_length_le (by omega)] at hm
   refine callF_of (C66 (some w.heap.size) W) ?_
   rintro v W1 ⟨b, rfl, hb, g1⟩
   have hmlt : w.heap.size < W.heap.size := by
     rcases Nat.lt_or_ge w.heap.size W.heap.size with h' | h'
     · exact h'
     · have := hm.heap; rw [Array.getElem?_eq_none h'] at this; cases this
   have hsb := setB_len (xs.map rv)
   rw [List.length_map] at hsb
   refine callF_of (C65 (iter_keys ⟨b, 0, none⟩ w.heap.size es clock (setB (xs.map rv)) hm.born hm.nod hm.keys hm.knod) W1 (fun W' hg' => ⟨(hb.grow hg').row 0 _ rfl, ((Grow.trans g1 hg').same _ hmlt fun h => h).trans hm.heap⟩) (by omega)) ?_
   rintro t W2 ⟨ht, g2⟩
   have s2 := ((St.init0 w).grow (Grow.trans hg g1)).mksl g2 ht
   refine callF_of (V54s t W2) ?_
   rintro v W3 ⟨b3, rfl, k3⟩
   exact ⟨b3, t, rfl, s2.call0 k3⟩
theorem blocks_len (xs : List Rc) : (blocksV (xs.map rv)).length ≤ xs.length := by
 have hsb := setB_len (xs.map rv)
 rw [List.length_map] at hsb
 unfold blocksV
 rw [(sortI_perm _).length_eq]
 exact hsb
end Go.Proofs




namespace Go.Proofs
open Go.Eng
def fits (vs : List Rv) : Prop := ∀ v ∈ vs, v.2.2.1.toNat + v.2.2.2.2.length ≤ 256
def cov (blk : Int) (vs : List Rv) (i : Nat) : Prop := ∃ v ∈ vs, v.2.1 = blk ∧ v.2.2.1.toNat ≤ i ∧ i < v.2.2.1.toNat + v.2.2.2.2.length
theorem redoV_cons (blk : Int) (p : List UInt8) (v : Rv) (vs : List Rv) : redoV blk p (v :: vs) = redoV blk (if v.2.1 = blk then lay p v.2.2.1.toNat v.2.2.2.2 else p) vs := rfl
theorem redoV_len (blk : Int) : ∀ (vs : List Rv) (p : List UInt8), p.length = 256 → fits vs → (redoV blk p vs).length = 256
 | [], p, hp, _ => hp
 | v :: vs, p, hp, h => by
   rw [redoV_cons]
   refine redoV_len blk vs _ ?_ (fun x hx => h x (by simp [hx]))
   split
   · rw [lay_len (by have := h v (by simp); omega)]; exact hp
   · exact hp
theorem redoV_out (blk : Int) (i : Nat) : ∀ (vs : List Rv) (p : List UInt8), p.length = 256 → fits vs → ¬ cov blk vs i → (redoV blk p vs)[i]? = p[i]?
 | [], p, _, _, _ => rfl
 | v :: vs, p, hp, h, hc => by
   have hv := h v (by simp)
   rw [redoV_cons]
   have hc2 : ¬ cov blk vs i := fun ⟨x, hx, h2⟩ => hc ⟨x, by simp [hx], h2⟩
   split
   · rename_i hb
     rw [redoV_out blk i vs _ (by rw [lay_len (by omega)]; exact hp) (fun x hx => h x (by simp [hx])) hc2, lay_get (by omega), if_neg]
     exact fun h3 => hc ⟨v, by simp, hb, h3.1, h3.2⟩
   · exact redoV_out blk i vs _ hp (fun x hx => h x (by simp [hx])) hc2
theorem redoV_agree (blk : Int) : ∀ (vs : List Rv) (p q : List UInt8), p.length = 256 → q.length = 256 → fits vs → (∀ i : Nat, p[i]? = q[i]? ∨ cov blk vs i) → redoV blk p vs = redoV blk q vs
 | [], p, q, _, _, _, h => by
   refine List.ext_getElem? fun i => ?_
   rcases h i with h1 | ⟨v, hv, _⟩
   · exact h1
   · cases hv
 | v :: vs, p, q, hp, hq, hf, h => by
   have hv := hf v (by simp)
   rw [redoV_cons, redoV_cons]
   have hf2 : fits vs := fun x hx => hf x (by simp [hx])
   split
   · rename_i hb
     refine redoV_agree blk vs _ _ (by rw [lay_len (by omega)]; exact hp) (by rw [lay_len (by omega)]; exact hq) hf2 fun i => ?_
     rw [lay_get (by omega), lay_get (by omega)]
     split
     · exact .inl rfl
     · rename_i hn
       rcases h i with h1 | ⟨x, hx, h2, h3⟩
       · exact .inl h1
       · rcases List.mem_cons.1 hx with hxv | hx
         · subst hxv; exact absurd h3 hn
         · exact .inr ⟨x, hx, h2, h3⟩
   · rename_i hb
     refine redoV_agree blk vs _ _ hp hq hf2 fun i => ?_
     rcases h i with h1 | ⟨x, hx, h2, h3⟩
     · exact .inl h1
     · rcases List.mem_cons.1 hx with hxv | hx
       · subst hxv; exact absurd h2 hb
       · exact .inr ⟨x, hx, h2, h3⟩
theorem redoV_twice (blk : Int) (vs : List Rv) (p : List UInt8) (hp : p.length = 256) (hf : fits vs) : redoV blk (redoV blk p vs) vs = redoV blk p vs := by
 refine (redoV_agree blk vs _ _ (redoV_len blk vs p hp hf) hp hf fun i => ?_)
 rcases Classical.em (cov blk vs i) with h | h
 · exact .inr h
 · exact .inl (redoV_out blk i vs p hp hf h)
theorem redoE_of {p : List UInt8} {vs : List Rv} (h1 : p.length = 256) (h2 : ∀ v ∈ vs, okV v = true) : redoEV p vs = 0 := by
 unfold redoEV
 rw [if_neg (by omega), if_neg]
 rw [List.any_eq_true]
 rintro ⟨v, hv, hb⟩
 rw [h2 v hv] at hb
 cases hb
theorem okV_fits {v : Rv} (h : okV v = true) : v.2.2.1.toNat + v.2.2.2.2.length ≤ 256 ∧ (v.1 = 1 ∨ v.2.2.2.2 = []) := by
 unfold okV at h
 simp only [checkB, patchB, Bool.or_eq_true, Bool.and_eq_true, beq_iff_eq, decide_eq_true_eq] at h
 rcases h with h | h
 · exact ⟨by omega, .inl h.1⟩
 · exact ⟨by omega, .inr (List.eq_nil_of_length_eq_zero (by omega))⟩
theorem fits_ok {vs : List Rv} (h : ∀ v ∈ vs, okV v = true) : fits vs := fun v hv => (okV_fits (h v hv)).1
theorem mem_addB {ks : List Int} {k x : Int} : x ∈ addB ks k ↔ x ∈ ks ∨ x = k := by
 unfold addB
 split
 · constructor
   · exact .inl
   · rintro (h | rfl) <;> assumption
 · simp
theorem mem_setB {vs : List Rv} {b : Int} : b ∈ setB vs ↔ ∃ v ∈ vs, v.1 = 1 ∧ v.2.1 = b := by
 unfold setB
 suffices ∀ (vs : List Rv) (ks : List Int), b ∈ vs.foldl (fun ks v => if v.1 = 1 then addB ks v.2.1 else ks) ks ↔ b ∈ ks ∨ ∃ v ∈ vs, v.1 = 1 ∧ v.2.1 = b by simpa using this vs []
 intro vs
 induction vs with
 | nil => intro ks; simp
 | cons v vs ih =>
   intro ks
   rw [List.foldl_cons, ih]
   by_cases h1 : v.1 = 1
   · rw [if_pos h1, mem_addB]
     constructor
     · rintro ((h | rfl) | ⟨x, hx, h⟩)
       · exact .inl h
       · exact .inr ⟨v, by simp, h1, rfl⟩
       · exact .inr ⟨x, by simp [hx], h⟩
     · rintro (h | ⟨x, hx, h2, h3⟩)
       · exact .inl (.inl h)
       · rcases List.mem_cons.1 hx with rfl | hx
         · exact .inl (.inr h3.symm)
         · exact .inr ⟨x, hx, h2, h3⟩
   · rw [if_neg h1]
     constructor
     · rintro (h | ⟨x, hx, h⟩)
       · exact .inl h
       · exact .inr ⟨x, by simp [hx], h⟩
     · rintro (h | ⟨x, hx, h2, h3⟩)
       · exact .inl h
       · rcases List.mem_cons.1 hx with rfl | hx
         · exact absurd h2 h1
         · exact .inr ⟨x, hx, h2, h3⟩
theorem redoV_other (blk : Int) (vs : List Rv) (p : List UInt8) (hok : ∀ v ∈ vs, okV v = true) (hb : blk ∉ blocksV vs) : redoV blk p vs = p := by
 have hb2 : blk ∉ setB vs := fun h => hb ((sortI_perm _).symm.subset h)
 induction vs generalizing p with
 | nil => rfl
 | cons v vs ih =>
   rw [redoV_cons]
   have hv := okV_fits (hok v (by simp))
   have hp : (if v.2.1 = blk then lay p v.2.2.1.toNat v.2.2.2.2 else p) = p := by
     split
     · rename_i h1
       rcases hv.2 with h2 | h2
       · exact absurd (mem_setB.2 ⟨v, by simp, h2, h1⟩) hb2
       · rw [h2, lay_nil]
     · rfl
   rw [hp]
   have hb3 : blk ∉ setB vs := fun h => by
     obtain ⟨x, hx, h2⟩ := mem_setB.1 h
     exact hb2 (mem_setB.2 ⟨x, by simp [hx], h2⟩)
   exact ih p (fun x hx => hok x (by simp [hx])) (fun h => hb3 ((sortI_perm _).subset h)) hb3
end Go.Proofs


namespace Go.Proofs
open Go.Eng
theorem C16v (pg s : Sl) (blk : Int) (l : List UInt8) (xs : List Rc) (w : World) (hp : BS w pg l) (hs : RL w s xs) (hl : s.len ≤ 1000000) :
   Calls Tryz.prog 131 #[.slice pg.a pg.len pg.cap, .int .i64 blk, .slice s.a s.len s.cap] w (RetT [.c .slice, .c (.int .i64)] fun r w' =>
     r.2 = redoEV l (xs.map rv) ∧ OwnS w' w.heap.size 1 r.1 ((if redoEV l (xs.map rv) = 0 then redoV blk l (xs.map rv) else []).map ub) ∧ Grow w w') := by
 refine Calls.mono (C16 pg s blk l xs w hp hs hl) ?_
 rintro e w' ⟨r, he, h⟩
 refine ⟨r, he, ?_⟩
 rwa [redoE_rv hs, redoF_rv] at h
end Go.Proofs

set_option maxRecDepth 20000
namespace Go.Proofs
open Go.Eng
theorem IterI.L {v : Value} {M : World → Prop} {xs : List Int} (h : IterI v M (fun l => l = xs) false) : IterL Tryz.prog v [.c (.int .i64)] xs M := by
 obtain ⟨f, caps, e, hc, h⟩ := h
 refine ⟨f, caps, e, hc, fun y w I D hM hG h0 hr => ?_⟩
 refine Calls.mono (h y w (fun pre W => I pre.length W) D (hM _ _ h0) h0 (fun o => hG _ _ _ h0 ((Mod.refl _ w).alloc _)) (fun h => by cases h) (fun pre W hI => hG _ _ _ hI (Mod.refl _ W).drew) (fun pre W hI => hM _ _ hI) ?_) ?_
 · rintro pre k W hI _ ⟨suf, hs⟩
   have hk : xs[pre.length]? = some k := by rw [← hs]; simp
   refine callV_mono (fun b W' hb => ?_) (hr pre.length k W hk hI)
   by_cases hbt : b = true
   · rw [if_pos hbt] at hb ⊢
     exact ⟨by rw [List.length_append]; exact hb, fun h => by cases h⟩
   · rw [if_neg hbt] at hb ⊢
     exact hb
 · rintro e w' ⟨r, he, hp⟩
   refine ⟨r, he, ?_⟩
   rcases hp with ⟨l, rfl, hI⟩ | hD
   · exact .inl hI
   · exact .inr hD
def redoB (vs : List Rv) : List Int → DM → Int × DM
 | [], D => flushD D
 | k :: ks, D => if placeE D k ≠ 0 then (placeE D k, D) else if redoEV (rdD D k) vs ≠ 0 then (redoEV (rdD D k) vs, D) else if redoV k (rdD D k) vs = rdD D k then redoB vs ks D
   else if (writeD D k (redoV k (rdD D k) vs)).1 ≠ 0 then writeD D k (redoV k (rdD D k) vs) else redoB vs ks (writeD D k (redoV k (rdD D k) vs)).2
def redoD (vs : List Rv) (D : DM) : Int × DM := redoB vs (blocksV vs) D
theorem redoB_dg (vs : List Rv) : ∀ (ks : List Int) {D : DM} {N : Nat} (_ : DB N D), DG D (redoB vs ks D).2 N (2 * ks.length + 1)
 | [], _, _, h => flushD_dg h
 | k :: ks, D, N, h => by
   have h1 := writeD_dg h k (redoV k (rdD D k) vs)
   unfold redoB
   rw [List.length_cons]
   split
   · exact .refl h _
   · split
     · exact .refl h _
     · split
       · exact (redoB_dg vs ks h).mono (by omega)
       · split
         · exact h1.mono (by omega)
         · exact (h1.trans (redoB_dg vs ks h1.db)).mono (by omega)
theorem V76 {dp : Nat} {D : DM} {p : Sl} {xs : List Rc} {N : Nat} {w : World} {F : Nat → Prop} (hh : Has [DiskA dp D] w F) (hd : DB N D) (hN : N ≤ 1000000) (hr : RdL w F p xs) (hp : p.len ≤ 1000000) :
   Calls Tryz.prog 76 #[P0 dp, slV p] w (RetT [.c (.int .i64)] fun x w' => x = (redoD (xs.map rv) D).1 ∧ St F w w' [DiskA dp (redoD (xs.map rv) D).2]) := by
 refine F76_calls _ _ _ _ ?_
 unfold F76 redoD
 have hpl := hr.rl.len
 refine ⟨trivial, St.nw (St.init hh) fun r w1 s1 _ _ => ⟨by simp, St.nw s1 fun r1 w2 s2 _ _ => ⟨trivial, St.nw s2 fun r2 w3 s3 _ _ => ?_⟩⟩⟩
 have s3 : St F w w3 [BoxA r2 [iv 0], BoxA r1 [slV p], BoxA r [P0 dp], DiskA dp D] := s3
 refine s3.L 1 rfl (p := p) rfl ?_
 refine callF_of (V117 p xs w3 (hr.at s3) hp) ?_
 rintro _ w4 ⟨b, t, rfl, k4⟩
 have s4 : St F w w4 [BoxA b [slV t], SlA 1 t (ints (blocksV (xs.map rv))), BoxA r2 [iv 0], BoxA r1 [slV p], BoxA r [P0 dp], DiskA dp D] := s3.call0 k4
 have hbl := blocks_len xs
 obtain ⟨vs, hvs⟩ : ∃ vs, xs.map rv = vs := ⟨_, rfl⟩
 rw [hvs] at s4 hbl ⊢
 refine rng_st (shs := [.c (.int .i64)]) (IterI.L (iter_values ⟨b, 0, none⟩ t (blocksV vs) (by omega))) (F0 := F) (w0 := w)
   (fun D' : DM => [BoxA b [slV t], SlA 1 t (ints (blocksV vs)), BoxA r2 [iv 0], BoxA r1 [slV p], BoxA r [P0 dp], DiskA dp D'])
   (fun j D' => DB (N + 2 * j) D' ∧ redoB vs (blocksV vs) D = redoB vs ((blocksV vs).drop j) D')
   (fun e : Int × DM => [BoxA b [slV t], SlA 1 t (ints (blocksV vs)), BoxA r2 [iv e.1], BoxA r1 [slV p], BoxA r [P0 dp], DiskA dp e.2])
   (fun q e => q = none ∧ redoB vs (blocksV vs) D = e) D ⟨hd, rfl⟩ s4 ?_ ?_ ?_ ?_
 · intro j s W T _ hs
   have hs : St F w W (BoxA b [slV t] :: SlA 1 t (ints (blocksV vs)) :: BoxA r2 [iv 0] :: BoxA r1 [slV p] :: BoxA r [P0 dp] :: DiskA dp s :: T) := hs
   exact ⟨hs.box.row 0 _ rfl, owns_ints (hs.bring 1).sl⟩
 · rintro l m Ro j x s W bg nx lv hx ⟨hds, hX⟩ hs hbg hnx hlv
   refine hbg _ _ _ hs fun W2 _ s5 => ?_
   have s5 : St F w W2 [BoxA b [slV t], SlA 1 t (ints (blocksV vs)), BoxA r2 [iv 0], BoxA r1 [slV p], BoxA r [P0 dp], DiskA dp s, ObjA l (Ro .busy), ObjA m ddO] := s5
   have hlt : j < (blocksV vs).length := (List.getElem?_eq_some_iff.1 hx).1
   have hxe : (blocksV vs)[j] = x := (List.getElem?_eq_some_iff.1 hx).2
   rw [List.drop_eq_getElem_cons hlt, hxe, redoB] at hX
   refine s5.L 4 rfl (p := (some ⟨dp, 0, none⟩ : Option Addr)) rfl ?_
   have s6 : St F w W2 [DiskA dp s, BoxA b [slV t], SlA 1 t (ints (blocksV vs)), BoxA r2 [iv 0], BoxA r1 [slV p], BoxA r [P0 dp], ObjA l (Ro .busy), ObjA m ddO] := s5.sel [5, 0, 1, 2, 3, 4, 6, 7] 8
   refine rdC' s6 hds (by omega) fun u W3 s7 => ?_
   refine br_of (fun h => ?_) fun h => ?_
   · rw [if_pos (by simpa using h)] at hX
     refine s7.S 4 rfl (by simp) trivial fun W4 s8 => ?_
     exact hlv none (placeE s x, s) W4 ⟨rfl, hX⟩ (s8.sel [2, 3, 4, 5, 6, 1, 7, 8] 9)
   have h0 : placeE s x = 0 := by simpa using h
   rw [if_neg (fun h => h h0)] at hX
   rw [if_pos h0] at s7
   refine s7.L 5 rfl (p := p) rfl ?_
   refine callF_of (C16v u p x (rdD s x) xs W3 s7.sl.bs (hr.at s7) hp) ?_
   rw [hvs]
   rintro ⟨v, e⟩ W4 ⟨he, hv, g⟩
   dsimp only at he hv
   have s8 := s7.mksl g hv
   subst he
   refine br_of (fun h => ?_) fun h => ?_
   · rw [if_pos (by simpa using h)] at hX
     refine s8.S 5 rfl (by simp) trivial fun W5 s9 => ?_
     exact hlv none (redoEV (rdD s x) vs, s) W5 ⟨rfl, hX⟩ (s9.sel [3, 4, 5, 6, 7, 2, 8, 9] 10)
   have h1 : redoEV (rdD s x) vs = 0 := by simpa using h
   rw [if_neg (fun h => h h1)] at hX
   rw [if_pos h1] at s8
   refine callF_of (C18 u v _ _ W4 (s8.bring 1).sl.bs s8.sl.bs) ?_
   rintro q W5 ⟨rfl, rfl⟩
   refine br_of (fun h => ?_) fun h => ?_
   · have h : redoV x (rdD s x) vs = rdD s x := (eq_of_beq h).symm
     rw [if_pos h] at hX
     exact hnx s _ ⟨hds.le (by omega), hX⟩ (s8.sel [3, 4, 5, 6, 7, 2, 8, 9] 10)
   have h : redoV x (rdD s x) vs ≠ rdD s x := fun h' => by rw [h'] at h; simp at h
   rw [if_neg h] at hX
   refine s8.L 7 rfl (p := (some ⟨dp, 0, none⟩ : Option Addr)) rfl ?_
   have s9 := s8.sel [2, 0, 3, 4, 5, 6, 7, 8, 9] 10
   refine wrC' s9 hds (by omega) fun W6 s10 => ?_
   refine br_of (fun h => ?_) fun h => ?_
   · rw [if_pos (by simpa using h)] at hX
     refine s10.S 4 rfl (by simp) trivial fun W7 s11 => ?_
     exact hlv none _ W7 ⟨rfl, hX⟩ (s11.sel [2, 3, 4, 5, 6, 0, 7, 8] 9)
   · rw [if_neg (by simpa using h)] at hX
     exact hnx _ W6 ⟨(writeD_dg hds _ _).db, hX⟩ (s10.sel [2, 3, 4, 5, 6, 0, 7, 8] 9)
 · rintro m s W ⟨hds, hX⟩ hs
   have hs : St F w W [BoxA b [slV t], SlA 1 t (ints (blocksV vs)), BoxA r2 [iv 0], BoxA r1 [slV p], BoxA r [P0 dp], DiskA dp s, ObjA m ddO] := hs
   rw [List.drop_length, redoB] at hX
   refine hs.L 4 rfl (p := (some ⟨dp, 0, none⟩ : Option Addr)) rfl ?_
   have s6 : St F w W [DiskA dp s, BoxA b [slV t], SlA 1 t (ints (blocksV vs)), BoxA r2 [iv 0], BoxA r1 [slV p], BoxA r [P0 dp], ObjA m ddO] := hs.sel [5, 0, 1, 2, 3, 4, 6] 7
   refine flC' s6 hds (by omega) fun W2 s7 => ?_
   refine s7.S 3 rfl (by simp) trivial fun W3 s8 => ?_
   refine takesAt (V := [DiskA dp (flushD s).2, BoxA b [slV t], SlA 1 t (ints (blocksV vs)), BoxA r2 [iv (flushD s).1], BoxA r1 [slV p], BoxA r [P0 dp]]) (T := []) s8 fun W4 s9 => ?_
   refine s9.L 3 rfl (p := (flushD s).1) rfl ?_
   rw [hX]
   exact ⟨rfl, s9.sel [0] 6⟩
 · rintro m q e W ⟨rfl, hX⟩ hs
   refine takesAt (V := [BoxA b [slV t], SlA 1 t (ints (blocksV vs)), BoxA r2 [iv e.1], BoxA r1 [slV p], BoxA r [P0 dp], DiskA dp e.2]) (T := []) hs fun W4 s9 => ?_
   refine s9.L 2 rfl (p := e.1) rfl ?_
   rw [hX]
   exact ⟨rfl, s9.sel [5] 6⟩
end Go.Proofs

set_option maxRecDepth 20000
namespace Go.Proofs
open Go.Eng
theorem has_bts {w : World} : ∀ (ys : List Rc), (∀ x ∈ ys, OwnS w 0 1 x.1.s (x.2.map ub)) → (ys.Pairwise fun x y => Apart x.1.s y.1.s) → Has (ys.map fun x => bytA (x.1.s, x.2)) w (fun b => ∃ x ∈ ys, x.1.s.blk b)
 | [], _, _ => fun b ⟨_, h, _⟩ => by simp at h
 | x :: ys, h, hp => by
   rw [List.pairwise_cons] at hp
   refine ⟨fun b => x.1.s.blk b, _, ⟨h x (List.mem_cons_self ..), fun _ => Iff.rfl⟩, has_bts ys (fun y hy => h y (List.mem_cons_of_mem _ hy)) hp.2, fun b hb => ?_, fun b => ?_⟩
   · rintro ⟨y, hy, hyb⟩
     exact hp.1 y hy b hb hyb
   · constructor
     · rintro ⟨y, hy, hyb⟩
       rcases List.mem_cons.1 hy with rfl | hy
       · exact .inl hyb
       · exact .inr ⟨y, hy, hyb⟩
     · rintro (hb | ⟨y, hy, hyb⟩)
       · exact ⟨x, List.mem_cons_self .., hb⟩
       · exact ⟨y, List.mem_cons_of_mem _ hy, hyb⟩
theorem OwnRs.st {w w' : World} {a : Sl} {ys : List Rc} (h : OwnRs w' w.heap.size a ys) (g : Grow w w') : St noF w w' [SlA 5 a (rcs ys), bts ys] := by
 refine ⟨g, fun b => a.blk b ∨ ∃ x ∈ ys, x.1.s.blk b, ⟨fun b => a.blk b, fun b => ∃ x ∈ ys, x.1.s.blk b, ⟨h.own.weaken (Nat.zero_le _), fun _ => Iff.rfl⟩, ?_, ?_, fun b => Iff.rfl⟩, ?_⟩
 · exact ⟨_, noF, has_bts ys (fun x hx => (h.dat x hx).weaken (Nat.zero_le _)) h.pw, fun _ h => h, fun _ _ h => h, fun b => ⟨.inl, fun h => h.elim id fun h => h.elim⟩⟩
 · rintro b hb ⟨x, hx, hxb⟩
   exact h.dis x hx b hb hxb
 · rintro b (hb | ⟨x, hx, hxb⟩)
   · exact .inr (OwnS.blk_le h.own hb)
   · exact .inr (OwnS.blk_le (h.dat x hx) hxb)
theorem V73 (s : Sl) (xs : List Rc) (w : World) (h : RL w s xs) (hl : s.len ≤ 1000000) : Calls Tryz.prog 73 #[slV s] w (RetT [.c .slice, .c (.int .i64)] fun r w' => r.2 = (com (xs.map rv)).2 ∧ ∃ ys : List Rc, ys.map rv = (com (xs.map rv)).1 ∧ St noF w w' [SlA 5 r.1 (rcs ys), bts ys]) := by
 refine Calls.mono (C24 s xs w h hl) ?_
 rintro e w' ⟨r, he, h1, ⟨ys, h2, h3⟩, h4⟩
 exact ⟨r, he, h1, ys, h3, h2.st h4⟩
end Go.Proofs

set_option maxRecDepth 20000
namespace Go.Proofs
open Go.Eng
abbrev storeC (b dp : Nat) (S : Sup) (P : PlanT) (busy dead : Bool) (m : Nat) : List Value :=
 [P0 b, P0 dp, iv S.1, iv S.2.1, iv S.2.2.1, iv S.2.2.2.1, iv S.2.2.2.2.1, iv S.2.2.2.2.2, iv P.1, iv P.2.1, iv P.2.2.1, iv P.2.2.2.1, iv P.2.2.2.2.1, iv P.2.2.2.2.2, .bool busy, .bool dead, .map (some m)]
def lapE (D : DM) (s : Sup) (t : Int) : Int :=
 if (lapS s t).2 ≠ 0 then 6 else if openR D 3 s.2.2.1 (lapS s t).1.2.2.2.2.2 ≠ 0 then openR D 3 s.2.2.1 (lapS s t).1.2.2.2.2.2 else if 0 < (scanO D 3 s.2.2.1 (lapS s t).1.2.2.2.2.2).length then 50 else 0
def openT (D : DM) : Int × DM :=
 if D.off then (5, D) else if (chosenS D).2 ≠ 0 then ((chosenS D).2, D) else if (ofG (supG (chosenS D).1)).2 ≠ 0 then (50, D) else
 if openR D 3 (chosenS D).1.2.2.1 (chosenS D).1.2.2.2.2.2 ≠ 0 then (openR D 3 (chosenS D).1.2.2.1 (chosenS D).1.2.2.2.2.2, D) else
 let R := scanO D 3 (chosenS D).1.2.2.1 (chosenS D).1.2.2.2.2.2
 if (com R).1.all (fun v => decide (usableS (ofG (supG (chosenS D).1)).1 v.2.1)) = false then (50, D) else
 let t := (chosenS D).1.2.2.2.2.2 + R.length
 if lapE D (chosenS D).1 t ≠ 0 then (lapE D (chosenS D).1 t, D) else
 if (redoD (com R).1 D).1 ≠ 0 then redoD (com R).1 D else noteD (redoD (com R).1 D).2 (lapS (chosenS D).1 t).1
def StoreQ (dp : Nat) (D : DM) (F : Nat → Prop) (w : World) (r : Option Addr × Int) (w' : World) : Prop :=
 ((openT D).1 ≠ 0 ∧ r = (none, (openT D).1) ∧ St F w w' [DiskA dp (openT D).2]) ∨
 ((openT D).1 = 0 ∧ ∃ (x b g c m : Nat) (s : Sl) (S : Sup), r = (some ⟨x, 0, none⟩, 0) ∧ S = (lapS (chosenS D).1 ((chosenS D).1.2.2.2.2.2 + (scanO D 3 (chosenS D).1.2.2.1 (chosenS D).1.2.2.2.2.2).length)).1 ∧
   St F w w' ([BoxA x (storeC b dp S (ofG (supG (chosenS D).1)).1 false false m), BoxA b [P0 g, P0 c]] ++ ringO g dp 3 (chosenS D).1.2.2.1 S.2.2.2.2.2 s [] ++ [CacheA c dp ⟨256, 0, []⟩, MapA intKT m [], DiskA dp (openT D).2]))
def OpenL (D : DM) (dp : Nat) (st n h : Int) (o : Option Addr × Sl × Int) (L : List HA) : Prop :=
 (openR D st n h ≠ 0 ∧ o = (none, ⟨none, 0, 0⟩, openR D st n h) ∧ L = []) ∨
 (openR D st n h = 0 ∧ ∃ (b : Nat) (s t : Sl) (xs ys : List Rc), o = (some ⟨b, 0, none⟩, t, 0) ∧ xs.map rv = scanO D st n h ∧ ys.map rv = scanO D st n h ∧ t.len = ys.length ∧ L = ringO b dp st n h s xs ++ [SlA 5 t (rcs ys), bts ys])
theorem OpenQ.L {D : DM} {dp : Nat} {st n h : Int} {w w' : World} {o : Option Addr × Sl × Int} (k : OpenQ D dp st n h w o w') : ∃ L, St noF w w' L ∧ OpenL D dp st n h o L := by
 rcases k with ⟨h1, h2, h3⟩ | ⟨h1, b, s, t, xs, ys, h2, h3, h4, h5⟩
 · exact ⟨[], (St.init0 w).grow h3, .inl ⟨h1, h2, rfl⟩⟩
 · have h5' : St noF w w' [BoxA b (ringC dp st n h s), SlA 5 s (rcs xs), bts xs, SlA 5 t (rcs ys), bts ys] := h5
   have hl := (h5'.sel [3, 4] 5).rl.len
   exact ⟨_, h5, .inr ⟨h1, b, s, t, xs, ys, h2, h3, h4, hl, rfl⟩⟩
def LapsL (D : DM) (dp : Nat) (s : Sup) (t : Int) (x : Sup × (Option Addr) × Int) (L : List HA) : Prop :=
 ((lapS s t).2 ≠ 0 ∧ x = ((lapS s t).1, none, 6) ∧ L = []) ∨
 ((lapS s t).2 = 0 ∧ ∃ o, OpenL D dp 3 s.2.2.1 (lapS s t).1.2.2.2.2.2 o L ∧ x = ((lapS s t).1, o.1, if o.2.2 = 0 ∧ 0 < o.2.1.len then 50 else o.2.2))
theorem LapsQ.L {D : DM} {dp : Nat} {s : Sup} {t : Int} {w w' : World} {x : Sup × (Option Addr) × Int} (k : LapsQ D dp s t w x w') : ∃ L, St noF w w' L ∧ LapsL D dp s t x L := by
 rcases k with ⟨h1, h2, h3⟩ | ⟨h1, o, h2, h3⟩
 · exact ⟨[], (St.init0 w).grow h3, .inl ⟨h1, h2, rfl⟩⟩
 · obtain ⟨L, h4, h5⟩ := h2.L
   exact ⟨L, h4, .inr ⟨h1, o, h5, h3⟩⟩
theorem LapsL.e {D : DM} {dp : Nat} {s : Sup} {t : Int} {x : Sup × (Option Addr) × Int} {L : List HA} (k : LapsL D dp s t x L) : x.2.2 = lapE D s t ∧ x.1 = (lapS s t).1 := by
 unfold lapE
 rcases k with ⟨h1, rfl, _⟩ | ⟨h1, o, ho, rfl⟩
 · rw [if_pos h1]; exact ⟨rfl, rfl⟩
 · refine ⟨?_, rfl⟩
   rcases ho with ⟨h2, rfl, _⟩ | ⟨h2, b, s', t', xs, ys, rfl, _, hy, hl, _⟩
   · simp [h1, h2]
   · simp [h1, h2, hl, ← hy]
theorem LapsL.ok {D : DM} {dp : Nat} {s : Sup} {t : Int} {x : Sup × (Option Addr) × Int} {L : List HA} (k : LapsL D dp s t x L) (h0 : x.2.2 = 0) :
   ∃ g sr t2, x = ((lapS s t).1, some ⟨g, 0, none⟩, 0) ∧ L = ringO g dp 3 s.2.2.1 (lapS s t).1.2.2.2.2.2 sr [] ++ [SlA 5 t2 (rcs []), bts []] := by
 rcases k with ⟨h1, rfl, _⟩ | ⟨h1, o, ho, rfl⟩
 · cases h0
 · rcases ho with ⟨h2, rfl, _⟩ | ⟨h2, b, s', t', xs, ys, rfl, hx, hy, hl, rfl⟩
   · simp [h2] at h0
   · have hz : ys.length = 0 := by
       dsimp only at h0
       rw [hl] at h0
       by_cases h : 0 < ys.length
       · simp [h] at h0
       · omega
     have hy0 : ys = [] := List.eq_nil_of_length_eq_zero hz
     subst hy0
     have hx0 : xs = [] := by rw [← hy] at hx; simpa using hx
     subst hx0
     refine ⟨b, s', t', ?_, rfl⟩
     simp [hl]
theorem V24 {dp : Nat} {D : DM} {N : Nat} {w : World} {F : Nat → Prop} (hh : Has [DiskA dp D] w F) (hd : DB N D) (hN : N ≤ 900000) :
   Calls Tryz.prog 24 #[P0 dp] w (RetT [.c .ptr, .c (.int .i64)] (StoreQ dp D F w)) := by
 refine F24_calls _ _ _ ?_
 unfold F24
 have s0 := St.init hh
 have bad : ∀ {W : World} {e : Int} {D' : DM}, e ≠ 0 → openT D = (e, D') → St F w W [DiskA dp D'] → StoreQ dp D F w (none, e) W := fun he h1 h2 => .inl ⟨by rw [h1]; exact he, by rw [h1], by rw [h1]; exact h2⟩
 refine callF_of (V69 hh hd.ok) ?_
 rintro _ w ⟨rfl, rfl⟩
 unfold readyE
 refine br_of (fun h => ?_) fun h => ?_
 · have ho : D.off = true := by cases hx : D.off <;> simp_all
   refine bad (by rw [ho]; decide) (by unfold openT; rw [ho]; rfl) s0
 have ho : D.off = false := by cases hx : D.off <;> simp_all
 refine callF_of (V70 hh hd (by omega)) ?_
 rintro (C : Sup × Int) w1 ⟨hC, g1⟩
 have eT := openT.eq_1 D
 dsimp only at eT
 rw [ho, if_neg (by decide), ← hC] at eT
 refine ((St.init0 w).grow g1).nvs rfl (na_p C.1) fun r w2 s2 => ?_
 have s2 : St noF w w2 [BoxA r (pcells C.1)] := s2
 refine br_of (fun h => ?_) fun h => ?_
 · have h : C.2 ≠ 0 := by simpa using h
   exact bad h (by rw [eT, if_pos h]) (s0.grow s2.gro)
 have h : C.2 = 0 := by simpa using h
 rw [if_neg (fun h' => h' h)] at eT
 have hbr := s2.box
 have hgr : Row w2 (bA r 1) (valA [.int .i64, .int .i64, .int .i64, .int .i64] (supG C.1)) := (hbr.row.drop 1).take 4
 refine ldA_of (p := supG C.1) (readsAt_row.2 hgr) ?_
 refine callF_of (V71 (supG C.1) w2) ?_
 rintro (P : PlanT × Int) w3 ⟨hP, g3⟩
 rw [← hP] at eT
 refine (s2.grow g3).nvs rfl (na_p P.1) fun r1 w4 s4 => ?_
 have s4 : St noF w w4 [BoxA r1 (pcells P.1), BoxA r (pcells C.1)] := s4
 refine br_of (fun h => ?_) fun h => ?_
 · have h : P.2 ≠ 0 := by simpa using h
   exact bad (by decide) (by rw [eT, if_pos h]) (s0.grow s4.gro)
 have h : P.2 = 0 := by simpa using h
 rw [if_neg (fun h' => h' h)] at eT
 refine s4.L 1 rfl (p := C.1.2.2.1) rfl ?_
 refine s4.L 1 rfl (p := C.1.2.2.2.2.2) rfl ?_
 refine callF_of (V72 (hh.mod s4.gro fun _ _ h => h) hd (by omega)) ?_
 rintro o w5 ho5
 obtain ⟨L, k5, hL⟩ := ho5.split
 have g5 := (s4.call0 k5).gro
 rcases ho5 with ⟨e5, rfl, _⟩ | ⟨e5, q, sr, t, xs, ys, rfl, hxs, hys, k5⟩
 · exact br_t (by simpa using e5) (bad e5 (by rw [eT, if_pos e5]) (s0.grow g5))
 rw [if_neg (fun h' => h' e5)] at eT
 refine br_f rfl ?_
 have s5 : St noF w w5 [BoxA q (ringC dp 3 C.1.2.2.1 C.1.2.2.2.2.2 sr), SlA 5 sr (rcs xs), bts xs, SlA 5 t (rcs ys), bts ys, BoxA r1 (pcells P.1), BoxA r (pcells C.1)] := s4.call0 k5
 have hsc : (scanO D 3 C.1.2.2.1 C.1.2.2.2.2.2).length ≤ (4 * C.1.2.2.1).toNat := scanR_len _ _
 have hbO : ¬ badO D 3 C.1.2.2.1 C.1.2.2.2.2.2 := fun hb => by unfold openR at e5; rw [if_pos hb] at e5; cases e5
 unfold badO at hbO
 have rly := (s5.sel [3, 4] 7).rl
 have hyl : ys.length = (scanO D 3 C.1.2.2.1 C.1.2.2.2.2.2).length := by rw [← hys, List.length_map]
 have hxl : xs.length = (scanO D 3 C.1.2.2.1 C.1.2.2.2.2.2).length := by rw [← hxs, List.length_map]
 have htl := rly.len
 have hsrl := (s5.sel [1, 2] 7).rl.len
 refine callF_of (V73 t ys w5 rly (by omega)) ?_
 rw [hys]
 rintro ⟨u, nn⟩ w6 ⟨_, zs, hz, k6⟩
 dsimp only at hz k6
 obtain ⟨R, hR⟩ : ∃ R, scanO D 3 C.1.2.2.1 C.1.2.2.2.2.2 = R := ⟨_, rfl⟩
 rw [hR] at eT hz hsc hyl hxl
 have s6 : St noF w w6 [SlA 5 u (rcs zs), bts zs, BoxA q (ringC dp 3 C.1.2.2.1 C.1.2.2.2.2.2 sr), SlA 5 sr (rcs xs), bts xs, SlA 5 t (rcs ys), bts ys, BoxA r1 (pcells P.1), BoxA r (pcells C.1)] := s5.call0 k6
 have hzl : zs.length ≤ R.length := by have := com_size R; rw [← hz, List.length_map] at this; exact this
 have hul := s6.ss.len
 rw [List.length_map] at hul
 refine loop_of (fun i W => ∃ j : Nat, i = j ∧ j ≤ zs.length ∧ (∀ z ∈ zs.take j, usableS P.1 z.1.b) ∧ St noF w W [SlA 5 u (rcs zs), bts zs, BoxA q (ringC dp 3 C.1.2.2.1 C.1.2.2.2.2.2 sr), SlA 5 sr (rcs xs), bts xs, SlA 5 t (rcs ys), bts ys, BoxA r1 (pcells P.1), BoxA r (pcells C.1)]) (fun i _ => zs.length - i.toNat)
   ⟨0, rfl, by omega, by simp, s6⟩ ?_
 rintro _ W ⟨j, rfl, hj, hu, s6⟩
 refine br_of (fun hlt => ?_) fun hge => ?_
 · have hlt : j < zs.length := by simpa [hul] using hlt
   have hzj : zs[j]? = some zs[j] := by simp [hlt]
   refine SS.eld Rw.cells_len s6.ss (r := zs[j].1) (by rw [List.getElem?_map, hzj]; rfl) (by decide) (p := zs[j].1.p) rfl ?_
   refine s6.nvs rfl (fun v hv => by simp at hv; rcases hv with rfl | rfl | rfl | rfl | rfl <;> trivial) fun b2 W2 s7 => ?_
   refine s7.LA 8 rfl (p := P.1) rfl ?_
   refine s7.L 0 rfl (p := zs[j].1.b) rfl ?_
   refine callF_of (V74 P.1 zs[j].1.b W2) ?_
   rintro _ W3 ⟨rfl, g⟩
   have s8 := s7.grow g
   refine br_of (fun h => ?_) fun h => ?_
   · have h : ¬ usableS P.1 zs[j].1.b := by simpa using h
     refine bad (by decide) (by
       rw [eT, if_pos]
       rw [← hz, List.all_eq_false]
       exact ⟨rv zs[j], List.mem_map.2 ⟨_, List.getElem_mem hlt, rfl⟩, by rw [decide_eq_true_eq]; exact h⟩) (s0.grow s8.gro)
   · have h : usableS P.1 zs[j].1.b := by simpa using h
     rw [w64_succ (by omega)]
     refine ⟨⟨j + 1, rfl, hlt, ?_, s8.drop⟩, ?_⟩
     · intro z hz'
       rw [List.take_add_one, hzj, List.mem_append] at hz'
       rcases hz' with h' | h'
       · exact hu z h'
       · simp at h'; subst h'; exact h
     · show zs.length - (((j + 1 : Nat) : Int)).toNat < zs.length - ((j : Int)).toNat
       omega
 have hge : j = zs.length := by simp [hul] at hge; omega
 subst hge
 rw [List.take_length] at hu
 rw [if_neg (by
   rw [← hz, Bool.not_eq_false, List.all_eq_true]
   intro v hv
   obtain ⟨z, hz', rfl⟩ := List.mem_map.1 hv
   exact decide_eq_true (hu z hz'))] at eT
 obtain ⟨tl, htl⟩ : ∃ tl : Int, C.1.2.2.2.2.2 + R.length = tl := ⟨_, rfl⟩
 rw [htl] at eT
 have hsl : C.1.2.2.2.2.2 + (sr.len : Int) = tl := by rw [← htl, hsrl, hxl]
 refine jn_of (fun c W => ∃ b x L2, c = (x.2.2, x.2.1, (some ⟨b, 0, none⟩ : Option Addr)) ∧ LapsL D dp C.1 tl x L2 ∧ St noF w W (BoxA b (pcells x.1) :: SlA 5 u (rcs zs) :: bts zs :: BoxA r1 (pcells P.1) :: L2)) ?_ ?_
 · rw [drw_def]
   have s7 := s6.drew
   have hbr := (s7.bring 8).box
   have hbq := (s7.bring 2).box
   have hhW := hh.mod s7.gro fun _ _ h => h
   have s7 := s7.sel [0, 1, 7] 9
   generalize W.drew = W5 at s7 hbr hbq hhW
   refine jn_of (fun c W => ∃ b x L2, c = ((some ⟨b, 0, none⟩ : Option Addr), x.1, x.2.1, x.2.2) ∧ LapsL D dp C.1 tl x L2 ∧ St noF W5 W (BoxA b (pcells Sup0) :: L2)) ?_ ?_
   · generalize hRR : (fun (c : Option Addr × Sup × (Option Addr) × Int) W => ∃ b x L2, c = ((some ⟨b, 0, none⟩ : Option Addr), x.1, x.2.1, x.2.2) ∧ LapsL D dp C.1 tl x L2 ∧ St noF W5 W (BoxA b (pcells Sup0) :: L2)) = RR
     have fin1 : ∀ {b W L2} {x : Sup × (Option Addr) × Int}, LapsL D dp C.1 tl x L2 → St noF W5 W (BoxA b (pcells Sup0) :: (L2 ++ [])) → RR ((some ⟨b, 0, none⟩ : Option Addr), x.1, x.2.1, x.2.2) W := fun {b W L2 x} hl t => by rw [← hRR]; rw [List.append_nil] at t; exact ⟨b, x, L2, rfl, hl, t⟩
     have fin2 : ∀ {b W L2} {x : Sup × (Option Addr) × Int}, LapsL D dp C.1 tl x L2 → St noF W5 W (L2 ++ [BoxA b (pcells Sup0)]) → RR ((some ⟨b, 0, none⟩ : Option Addr), x.1, x.2.1, x.2.2) W := fun {b W L2 x} hl t => fin1 hl (t.perm (by rw [List.append_nil]; exact List.perm_append_comm))
     clear hRR
     have t0 := St.init0 W5
     have c57 : ∀ {W L} {k : Int → Pr}, St noF W5 W L → (∀ W', St noF W5 W' L → k tl W') → callF Tryz.prog 57 [RP q] [.c (.int .i64)] k W := fun {W L k} t hk => by
       refine callF_of (V57 (hbq.grow t.gro) (by omega) (by omega)) ?_
       rintro x W' ⟨hx, g⟩
       have : x = tl := hx.trans hsl
       subst this
       exact hk W' (t.grow g)
     have c75 : ∀ {W L} {k : Sup × (Option Addr) × Int → Pr}, St noF W5 W L → (∀ x L2 W', LapsL D dp C.1 tl x L2 → St noF W5 W' (L2 ++ L) → k x W') → callF Tryz.prog 75 [P0 dp, Sup.v C.1, iv tl] [.agg [.int .i64, .int .i64, .int .i64, .int .i64, .int .i64, .int .i64], .c .ptr, .c (.int .i64)] k W := fun {W L k} t hk => by
       refine callF_of (V75 (hhW.mod t.gro fun _ _ h => h) hd (by omega)) ?_
       rintro x W' hx
       obtain ⟨L2, h1, h2⟩ := hx.L
       exact hk x L2 W' h2 (t.call0 h1)
     have cnw : ∀ {W L} {k : Nat → Pr}, St noF W5 W L → (∀ b W', St noF W5 W' (BoxA b (pcells Sup0) :: L) → k b W') → nw (.cells #[iv 0, iv 0, iv 0, iv 0, iv 0, iv 0] 61) k W := fun u hk => St.nw u fun b W' t' _ _ => hk b W' t'
     have cld : ∀ {W L} {k : Sup → Pr}, St noF W5 W L → k C.1 W → ldA [.int .i64, .int .i64, .int .i64, .int .i64, .int .i64, .int .i64] (bA r 0) k W := fun {W L k} u hk => (hbr.grow u.gro).ldA hk
     repeat' first
       | with_reducible refine both_of ?_ ?_
       | with_reducible refine c57 (by assumption) fun _ _ => ?_
       | with_reducible refine c75 (by assumption) fun _ _ _ _ _ => ?_
       | with_reducible refine cnw (by assumption) fun _ _ _ => ?_
       | with_reducible refine cld (by assumption) ?_
       | exact fin1 (by assumption) (by assumption)
       | exact fin2 (by assumption) (by assumption)
   rintro _ W6 ⟨b, x, L2, rfl, hL2, t1⟩
   have s8 : St noF w W6 (BoxA b (pcells Sup0) :: (L2 ++ [SlA 5 u (rcs zs), bts zs, BoxA r1 (pcells P.1)])) := s7.call0 t1
   have s8 : St noF w W6 (BoxA b (pcells Sup0) :: ([SlA 5 u (rcs zs), bts zs, BoxA r1 (pcells P.1)] ++ L2)) := s8.perm (List.Perm.cons _ List.perm_append_comm)
   rw [deref_some']
   refine s8.S 0 rfl (by simp) trivial fun _ s9 => ?_
   refine s9.S 0 rfl (by simp [setA]) trivial fun _ s10 => ?_
   refine s10.S 0 rfl (by simp [setA]) trivial fun _ s11 => ?_
   refine s11.S 0 rfl (by simp [setA]) trivial fun _ s12 => ?_
   refine s12.S 0 rfl (by simp [setA]) trivial fun _ s13 => ?_
   refine s13.S 0 rfl (by simp [setA]) trivial fun _ s14 => ?_
   exact ⟨b, x, L2, rfl, hL2, s14⟩
 rintro _ w7 ⟨b, x, L2, rfl, hL2, s7⟩
 have hxe := hL2.e
 refine br_of (fun h => ?_) fun h => ?_
 · have h : x.2.2 ≠ 0 := by simpa using h
   exact bad h (by rw [eT, ← hxe.1, if_pos h]) (s0.grow s7.gro)
 have h : x.2.2 = 0 := by simpa using h
 rw [← hxe.1, if_neg (fun h' => h' h)] at eT
 obtain ⟨g, sg, t2, rfl, rfl⟩ := hL2.ok h
 obtain ⟨S, hS⟩ : ∃ S, (lapS C.1 tl).1 = S := ⟨_, rfl⟩
 rw [hS] at eT s7
 have s8 : St F w w7 [BoxA b (pcells S), SlA 5 u (rcs zs), bts zs, BoxA r1 (pcells P.1), BoxA g (ringC dp 3 C.1.2.2.1 S.2.2.2.2.2 sg), SlA 5 sg (rcs []), bts [], SlA 5 t2 (rcs []), bts [], DiskA dp D] := s0.call0 s7
 have s9 := s8.sel [9, 1, 2, 0, 3, 4, 5, 6] 10
 obtain ⟨G, H, g2, g3, g4, _, gc⟩ := St.call [DiskA dp D] s9
 refine callF_of (V76 g2 hd (by omega) (RdL.own g3 g4) (by show u.len ≤ 1000000; omega)) ?_
 rw [hz]
 rintro _ w8 ⟨rfl, s10⟩
 have s10 : St F w w8 [DiskA dp (redoD (com R).1 D).2, SlA 5 u (rcs zs), bts zs, BoxA b (pcells S), BoxA r1 (pcells P.1), BoxA g (ringC dp 3 C.1.2.2.1 S.2.2.2.2.2 sg), SlA 5 sg (rcs []), bts []] := gc _ _ s10
 have hdb := redoB_dg (com R).1 (blocksV (com R).1) hd
 have hbk := blocks_len zs
 rw [hz] at hbk
 change DG D (redoD (com R).1 D).2 N _ at hdb
 generalize redoD (com R).1 D = E at eT s10 hdb ⊢
 refine br_of (fun h => ?_) fun h => ?_
 · have h : E.1 ≠ 0 := by simpa using h
   exact bad h (by rw [eT, if_pos h]) (s10.sel [0] 8)
 have h : E.1 = 0 := by simpa using h
 rw [if_neg (fun h' => h' h)] at eT
 rw [deref_some']
 refine s10.LA 3 rfl (p := S) rfl ?_
 obtain ⟨G2, H2, g5, _, _, _, gc2⟩ := St.call [DiskA dp E.2] s10
 refine callF_of (V77 (s := S) g5 hdb.db (by omega)) ?_
 rintro _ w9 ⟨rfl, s11⟩
 have s11 := gc2 _ _ s11
 have hdb2 := noteD_dg hdb.db S
 generalize noteD E.2 S = E2 at eT s11 hdb2 ⊢
 have s11 : St F w w9 [DiskA dp E2.2, SlA 5 u (rcs zs), bts zs, BoxA b (pcells S), BoxA r1 (pcells P.1), BoxA g (ringC dp 3 C.1.2.2.1 S.2.2.2.2.2 sg), SlA 5 sg (rcs []), bts []] := s11
 refine br_of (fun h => ?_) fun h => ?_
 · have h : E2.1 ≠ 0 := by simpa using h
   exact bad h eT (s11.sel [0] 8)
 have h : E2.1 = 0 := by simpa using h
 obtain ⟨G3, H3, g6, _⟩ := St.call [DiskA dp E2.2] s11
 refine callF_of (C32 dp E2.2 256 w9 G3 g6 hdb2.db.ok) ?_
 rintro ⟨c, e⟩ w10 hc
 rw [if_pos (by decide)] at hc
 obtain ⟨rfl, c, rfl, k12⟩ := hc
 have s12 := s11.call0 k12
 refine br_f rfl ?_
 refine s12.nw fun b9 w11 s13 _ _ => ?_
 rw [deref_some']
 have s13 : St F w w11 [BoxA b9 [P0 g, P0 c], CacheA c dp ⟨256, 0, []⟩, DiskA dp E2.2, SlA 5 u (rcs zs), bts zs, BoxA b (pcells S), BoxA r1 (pcells P.1), BoxA g (ringC dp 3 C.1.2.2.1 S.2.2.2.2.2 sg), SlA 5 sg (rcs []), bts []] := s13
 refine s13.LA 5 rfl (p := S) rfl ?_
 refine s13.LA 6 rfl (p := P.1) rfl ?_
 refine s13.newMap (T := intKT) fun m w12 s14 => ?_
 refine s14.nw fun x w13 s15 _ _ => ?_
 have s15 : St F w w13 [BoxA x (storeC b9 dp S P.1 false false m), MapA intKT m [], BoxA b9 [P0 g, P0 c], CacheA c dp ⟨256, 0, []⟩, DiskA dp E2.2, SlA 5 u (rcs zs), bts zs, BoxA b (pcells S), BoxA r1 (pcells P.1), BoxA g (ringC dp 3 C.1.2.2.1 S.2.2.2.2.2 sg), SlA 5 sg (rcs []), bts []] := s15
 refine .inr ⟨by rw [eT]; exact h, x, b9, g, c, m, sg, S, rfl, ?_, ?_⟩
 · rw [← hC, hR, htl, hS]
 · rw [eT, ← hC, ← hP]
   exact s15.sel [0, 2, 9, 10, 11, 3, 1, 4] 12
end Go.Proofs

set_option maxRecDepth 20000
namespace Go.Proofs
open Go.Eng
theorem V56 {x b dp m : Nat} {S : Sup} {P : PlanT} {busy dead : Bool} {w : World} (hb : Box w x (storeC b dp S P busy dead m)) :
   Calls Tryz.prog 56 #[P0 x] w (RetT [.c .bool] fun r w' => r = false ∧ w = w') := by
 refine F56_calls _ _ _ ?_
 unfold F56
 refine ⟨trivial, br_f rfl ?_⟩
 rw [deref_some']
 refine hb.ld (i := 0) (s := .ptr) (p := some ⟨b, 0, none⟩) rfl ?_
 exact ⟨trivial, rfl, rfl⟩
def mayE (dead : Bool) (D : DM) : Int := if dead || D.off then 5 else 0
theorem V59 {x b dp m : Nat} {S : Sup} {P : PlanT} {busy dead : Bool} {D : DM} {w : World} {F : Nat → Prop} (hh : Has [BoxA x (storeC b dp S P busy dead m), DiskA dp D] w F) (hd : D.ok) :
   Calls Tryz.prog 59 #[P0 x] w (RetT [.c (.int .i64)] fun r w' => r = mayE dead D ∧ St F w w' [BoxA x (storeC b dp S P busy (dead || D.off) m), DiskA dp D]) := by
 refine F59_calls _ _ _ ?_
 unfold F59
 have s0 : St F w w [BoxA x (storeC b dp S P busy dead m), DiskA dp D] := St.init hh
 refine callF_of (V56 s0.box) ?_
 rintro _ _ ⟨rfl, rfl⟩
 refine br_f rfl ?_
 unfold mayE
 refine jn_of (fun c W => c = (dead || D.off) ∧ W = w) ?_ ?_
 · rw [deref_some']
   refine s0.L 0 rfl (p := dead) rfl ?_
   refine br_of (fun h => ⟨by rw [h]; rfl, rfl⟩) fun h => ?_
   rw [deref_some']
   refine s0.L 0 rfl (p := (some ⟨dp, 0, none⟩ : Option Addr)) rfl ?_
   obtain ⟨G, H, g2, _⟩ := St.call [DiskA dp D] (s0.sel [1, 0] 2)
   refine callF_of (V53 dp D w G g2 hd) ?_
   rintro _ _ ⟨rfl, rfl⟩
   exact ⟨by rw [h]; cases D.off <;> rfl, rfl⟩
 rintro _ w ⟨rfl, rfl⟩
 refine br_of (fun h => ?_) fun h => ?_
 · rw [if_pos h, h, deref_some']
   exact s0.S 0 rfl (by simp) trivial fun w2 s2 => ⟨rfl, s2⟩
 · rw [if_neg (by rw [h]; decide), h]
   have hdead : dead = false := by cases dead <;> simp_all
   subst hdead
   exact ⟨rfl, s0⟩
theorem V109 {x b dp m : Nat} {S : Sup} {P : PlanT} {busy dead : Bool} {e : Int} {w : World} {F : Nat → Prop} (hh : Has [BoxA x (storeC b dp S P busy dead m)] w F) :
   Calls Tryz.prog 109 #[P0 x, iv e] w (RetT [.c (.int .i64)] fun r w' => r = e ∧ St F w w' [BoxA x (storeC b dp S P busy (dead || e == 5) m)]) := by
 refine F109_calls _ _ _ _ ?_
 unfold F109
 have s0 : St F w w [BoxA x (storeC b dp S P busy dead m)] := St.init hh
 refine br_of (fun h => ?_) fun h => ?_
 · rw [deref_some']
   refine s0.S 0 rfl (by simp) trivial fun w2 s2 => ⟨rfl, ?_⟩
   rw [h, Bool.or_true]
   exact s2
 · refine ⟨rfl, ?_⟩
   rw [h, Bool.or_false]
   exact s0
def beginE (busy dead : Bool) (D : DM) : Int := if dead || D.off then 5 else if busy then 7 else 0
theorem V28 {x b dp m : Nat} {S : Sup} {P : PlanT} {busy dead : Bool} {D : DM} {w : World} {F : Nat → Prop} (hh : Has [BoxA x (storeC b dp S P busy dead m), DiskA dp D] w F) (hd : D.ok) :
   Calls Tryz.prog 28 #[P0 x] w (RetT [.c (.int .i64)] fun r w' => r = beginE busy dead D ∧ St F w w' [BoxA x (storeC b dp S P (busy || !(dead || D.off)) (dead || D.off) m), DiskA dp D]) := by
 refine F28_calls _ _ _ ?_
 unfold F28
 refine callF_of (V59 hh hd) ?_
 rintro _ w1 ⟨rfl, s1⟩
 unfold beginE mayE
 cases hx : (dead || D.off)
 · rw [hx] at s1
   refine br_f rfl ?_
   rw [deref_some']
   refine s1.L 0 rfl (p := busy) rfl ?_
   refine br_of (fun h => ?_) fun h => ?_
   · subst h
     exact ⟨rfl, s1⟩
   · rw [deref_some']
     refine s1.S 0 rfl (by simp) trivial fun w2 s2 => ?_
     subst h
     exact ⟨rfl, s2⟩
 · rw [hx] at s1
   refine br_t rfl ⟨rfl, ?_⟩
   rw [Bool.not_true, Bool.or_false]
   exact s1
end Go.Proofs

set_option maxRecDepth 20000
namespace Go.Proofs
open Go.Eng
def withinS (P : PlanT) (b o n : Int) : Prop := usableS P b ∧ 0 ≤ o ∧ o ≤ 256 ∧ 0 ≤ n ∧ n ≤ 256 - o
instance (P : PlanT) (b o n : Int) : Decidable (withinS P b o n) := by unfold withinS; exact inferInstance
theorem V80 {x b dp m : Nat} {S : Sup} {P : PlanT} {busy dead : Bool} {i o n : Int} {w : World} (hb : Box w x (storeC b dp S P busy dead m)) :
   Calls Tryz.prog 80 #[P0 x, iv i, iv o, iv n] w (RetT [.c .bool] fun r w' => r = decide (withinS P i o n) ∧ Grow w w') := by
 refine F80_calls _ _ _ _ _ _ ?_
 unfold F80
 rw [deref_some']
 have hg : Row w ((⟨x, 0, none⟩ : Addr).add 8) (valA [.int .i64, .int .i64, .int .i64, .int .i64, .int .i64, .int .i64] P) := (hb.row.drop 8).take 6
 refine ldA_of (p := P) (readsAt_row.2 hg) ?_
 refine callF_of (V74 P i w) ?_
 rintro _ w1 ⟨rfl, g⟩
 have no : ∀ {k : Prop} [Decidable k], ¬ k → false = decide k := fun h => (decide_eq_false h).symm
 refine br_of (fun h1 => ?_) fun h1 => ⟨no fun h => of_decide_eq_false h1 h.1, g⟩
 refine br_of (fun h2 => ?_) fun h2 => ⟨no fun h => of_decide_eq_false h2 h.2.1, g⟩
 refine br_of (fun h3 => ?_) fun h3 => ⟨no fun h => of_decide_eq_false h3 h.2.2.1, g⟩
 refine br_of (fun h4 => ?_) fun h4 => ⟨no fun h => of_decide_eq_false h4 h.2.2.2.1, g⟩
 have h1 := of_decide_eq_true h1
 have h2 := of_decide_eq_true h2
 have h3 := of_decide_eq_true h3
 have h4 := of_decide_eq_true h4
 rw [w64_of (n := 256 - o) ⟨by omega, by omega⟩]
 exact ⟨decide_eq_decide.2 ⟨fun h => ⟨h1, h2, h3, h4, h⟩, fun h => h.2.2.2.2⟩, g⟩
end Go.Proofs


set_option maxRecDepth 20000
namespace Go.Eng
section
variable {K : Type} [DecidableEq K] (T : KT K)
def MapDA (m it : Nat) (kv : List (K × Value)) : HA :=
 exA fun i : Array MapEntry × Nat × Array Nat => [pA (Ents T i.1 i.2.1 kv ∧ ∀ e ∈ i.1.toList, e.born ∉ i.2.2.toList), ObjA m (.map i.1 i.2.1), ObjA it (.mapIter (some m) i.2.1 i.2.2 i.2.1)]
def MapDC (m it : Nat) (kv : List (K × Value)) (c : Nat) : HA :=
 exA fun i : Array MapEntry × Nat × Array Nat × MapEntry => [pA (Ents T i.1 i.2.1 kv ∧ i.1.toList[c]? = some i.2.2.2 ∧ i.2.2.1.toList.getLast? = some i.2.2.2.born ∧ ∀ (j : Nat) e, j ≠ c → i.1.toList[j]? = some e → e.born ∉ i.2.2.1.toList), ObjA m (.map i.1 i.2.1), ObjA it (.mapIter (some m) i.2.1 i.2.2.1 i.2.1)]
variable {T}
variable {F0 : Nat → Prop} {w0 w : World} {L : List HA} {m it c : Nat} {kv : List (K × Value)}
theorem St.mrangeD (h : St F0 w0 w (MapA T m kv :: L)) {k : Nat → Pr} (hk : ∀ it w', St F0 w0 w' (MapDA T m it kv :: L) → k it w') : Eng.mrange (some m) k w := by
 obtain ⟨es, clock, he, h⟩ := h.mapOpen
 refine ⟨es, clock, h.obj, hk _ _ ?_⟩
 have h2 := h.mkobj (.mapIter (some m) clock #[] clock)
 exact St.mkex (f := fun i : Array MapEntry × Nat × Array Nat => [pA (Ents T i.1 i.2.1 kv ∧ ∀ e ∈ i.1.toList, e.born ∉ i.2.2.toList), ObjA m (.map i.1 i.2.1), ObjA w.heap.size (.mapIter (some m) i.2.1 i.2.2 i.2.1)]) (es, clock, #[]) ((h2.bring 1).mkp ⟨he, by simp⟩)
def mapSz (m : Nat) (w : World) : Nat := match w.heap[m]? with | some (.map es _) => es.size | _ => 0
theorem St.szD (h : St F0 w0 w (MapDA T m it kv :: L)) : mapSz m w = kv.length := by
 obtain ⟨⟨es, clock, seen⟩, h⟩ := h.ex
 obtain ⟨⟨he, _⟩, h⟩ := h.p
 unfold mapSz
 rw [h.obj]
 exact he.len
theorem St.mnextD {k0 : Pr} {k1 : MapEntry → Pr} (h : St F0 w0 w (MapDA T m it kv :: L)) (h0 : kv = [] → ∀ w', St F0 w0 w' (MapA T m [] :: L) → k0 w')
   (h1 : ∀ i en w', i < kv.length → St F0 w0 w' (MapDC T m it kv i :: L) → k1 en w') : Eng.mnext ⟨it, 0, none⟩ k0 k1 w := by
 obtain ⟨⟨es, clock, seen⟩, h⟩ := h.ex
 obtain ⟨⟨he, hs⟩, st⟩ := h.p
 have st : St F0 w0 w (ObjA m (.map es clock) :: ObjA it (.mapIter (some m) clock seen clock) :: L) := st
 dsimp only at he hs
 have hsz := he.len
 refine ⟨rfl, .inr ⟨m, clock, seen, clock, es, clock, (st.bring 1).obj, st.obj, ?_, fun w1 hw1 => ?_⟩⟩
 · cases hes : es.toList with
   | nil =>
     have : es = #[] := by apply Array.ext'; simpa using hes
     simp [this]
   | cons e l =>
     have h1 := he.born e (by rw [hes]; simp)
     have : es.all (fun x => decide (x.born ≥ clock)) = false := by
       rw [← Array.all_toList, hes, List.all_cons, decide_eq_false (by omega), Bool.false_and]
     rw [this, Bool.and_false]
 have st1 : St F0 w0 w1 (ObjA m (.map es clock) :: ObjA it (.mapIter (some m) clock seen clock) :: L) := by rcases hw1 with rfl | rfl; exact st; exact st.drew
 refine ⟨fun hall => ?_, fun e hes hns => ?_⟩
 · have hnil : es.toList = [] := by
     cases hes : es.toList with
     | nil => rfl
     | cons e l =>
       have hm : e ∈ es.toList := by rw [hes]; simp
       have := hall e hm (he.born e hm)
       rw [Array.contains_iff_mem, ← Array.mem_toList_iff] at this
       exact absurd this (hs e hm)
   have hkv : kv = [] := by
     have h2 := congrArg List.length hnil
     rw [Array.length_toList] at h2
     exact List.eq_nil_of_length_eq_zero (by rw [← hsz]; simpa using h2)
   refine h0 hkv w1 ?_
   rw [← hkv]
   exact (st1.del 1).mapClose he
 · obtain ⟨i, hi, hie⟩ := List.getElem_of_mem hes
   have hie2 : es.toList[i]? = some e := by rw [List.getElem?_eq_getElem hi, hie]
   have hil : i < kv.length := by simpa [hsz] using hi
   refine h1 i e _ hil ?_
   have st2 := ((st1.bring 1).putObj (.mapIter (some m) clock (seen.push e.born) clock)).bring 1
   refine St.mkex (es, clock, seen.push e.born, e) (st2.mkp ⟨he, hie2, by simp, fun j x hj hx => ?_⟩)
   rw [Array.toList_push, List.mem_append, List.mem_singleton]
   rintro (h4 | h4)
   · exact hs x (List.mem_of_getElem? hx) h4
   · refine hj ?_
     have h5 : (es.toList.map (·.born))[j]? = some e.born := by rw [List.getElem?_map, hx, ← h4]; rfl
     have h6 : (es.toList.map (·.born))[i]? = some e.born := by rw [List.getElem?_map, hie2]; rfl
     exact (List.getElem?_inj (split_at h5).2 he.nod).1 (h5.trans h6.symm)
theorem St.mentryD {k : MapEntry → Pr} (h : St F0 w0 w (MapDC T m it kv c :: L)) (hk : ∀ en x, kv[c]? = some x → en.key = T.enc x.1 → en.val = x.2 → k en w) : Eng.mentry ⟨it, 0, none⟩ k w := by
 obtain ⟨⟨es, clock, seen, e⟩, h⟩ := h.ex
 obtain ⟨⟨he, h1, h2, h3⟩, st⟩ := h.p
 have st : St F0 w0 w (ObjA m (.map es clock) :: ObjA it (.mapIter (some m) clock seen clock) :: L) := st
 dsimp only at he h1 h2 h3
 have hkve := congrArg (·[c]?) he.kvs
 simp only [List.getElem?_map, h1, Option.map_some] at hkve
 obtain ⟨x, hx, hxe⟩ := Option.map_eq_some_iff.1 hkve.symm
 simp only [Prod.mk.injEq] at hxe
 refine ⟨rfl, m, clock, seen, clock, es, clock, e.born, e, (st.bring 1).obj, ?_, st.obj, rfl, ?_, hk _ _ hx hxe.1.symm hxe.2.symm⟩
 · have : seen.back? = seen.toList.getLast? := by simp
   rw [this, h2]
 · rw [← Array.find?_toList]
   refine Go.Proofs.find_unique (List.mem_of_getElem? h1) (by simp) fun x hx hb => ?_
   obtain ⟨j, hj, hjx⟩ := List.getElem_of_mem hx
   have h4 : (es.toList.map (·.born))[j]? = some e.born := by
     rw [List.getElem?_map, List.getElem?_eq_getElem hj, hjx]
     simpa using hb
   have h5 : (es.toList.map (·.born))[c]? = some e.born := by rw [List.getElem?_map, h1]; rfl
   have := (List.getElem?_inj (split_at h4).2 he.nod).1 (h4.trans h5.symm)
   subst this
   rw [List.getElem?_eq_getElem hj, hjx] at h1
   exact Option.some.inj h1
theorem St.mapDelD (h : St F0 w0 w (MapDC T m it kv c :: L)) {x : K × Value} {f : Pr} (hx : kv[c]? = some x) (hn : (kv.map (·.1)).Nodup) (h1 : ∀ w', St F0 w0 w' (MapDA T m it (kv.eraseIdx c) :: L) → f w') : Eng.mapDel T.kd (some m) (T.enc x.1) f w := by
 obtain ⟨⟨es, clock, seen, e⟩, h⟩ := h.ex
 obtain ⟨⟨he, g1, g2, g3⟩, st⟩ := h.p
 have st : St F0 w0 w (ObjA m (.map es clock) :: ObjA it (.mapIter (some m) clock seen clock) :: L) := st
 dsimp only at he g1 g2 g3
 rcases find_kv x.1 es.toList kv 0 he.kvs with ⟨k1, _⟩ | ⟨j, v, k1, k2, _, k4⟩
 · exact absurd (List.mem_map.2 ⟨x, List.mem_of_getElem? hx, rfl⟩) k1
 · have hjc : j = c := by
     have h4 : (kv.map (·.1))[j]? = some x.1 := by rw [List.getElem?_map, k1]; rfl
     have h5 : (kv.map (·.1))[c]? = some x.1 := by rw [List.getElem?_map, hx]; rfl
     exact (List.getElem?_inj (split_at h4).2 hn).1 (h4.trans h5.symm)
   subst hjc
   refine ⟨m, es, clock, some (0 + j, v), rfl, st.obj, k4, h1 _ ?_⟩
   have hl : (es.eraseIdxIfInBounds (0 + j)).toList = es.toList.eraseIdx j := by rw [Nat.zero_add, Array.toList_eraseIdxIfInBounds]
   refine St.mkex (es.eraseIdxIfInBounds (0 + j), clock, seen) ((st.putObj (.map (es.eraseIdxIfInBounds (0 + j)) clock)).mkp ⟨⟨fun e he' => ?_, ?_, ?_⟩, fun y hy => ?_⟩)
   · rw [hl] at he'
     exact he.born e (List.mem_of_mem_eraseIdx he')
   · rw [hl, eraseIdx_map]
     exact he.nod.sublist (List.eraseIdx_sublist _ _)
   · rw [hl, eraseIdx_map, he.kvs, eraseIdx_map]
   · dsimp only at hy
     rw [hl] at hy
     obtain ⟨b, hb, hby⟩ := List.mem_eraseIdx_iff_getElem?.1 hy
     exact g3 b y hb hby
end
end Go.Eng
namespace Go.Proofs
open Go.Eng
theorem V106 {m : Nat} {kv : List (Int × Value)} {w : World} {F : Nat → Prop} (hh : Has [MapA intKT m kv] w F) (hn : (kv.map (·.1)).Nodup) :
   Calls Tryz.prog 106 #[.map (some m)] w (RetT [.c .any] fun r w' => Grow w w' ∧ ∃ M, IterI r M (fun xs => xs.Perm (kv.map (·.1))) true ∧ ∀ W, Grow w' W → M W) := by
 refine F106_calls _ _ _ ?_
 unfold F106
 refine ⟨trivial, nw_of fun b w1 g1 _ _ bx => ⟨g1, ?_⟩⟩
 obtain ⟨es, clock, he, st⟩ := (St.init hh).mapOpen
 have hm := st.obj
 have hlt : m < w.heap.size := by
   rcases Nat.lt_or_ge m w.heap.size with h' | h'
   · exact h'
   · rw [Array.getElem?_eq_none h'] at hm; cases hm
 refine ⟨fun W => W.cell? ⟨b, 0, none⟩ = some (.map (some m)) ∧ W.heap[m]? = some (.map es clock), ?_, fun W g => ⟨(bx.grow g).row 0 _ rfl, ((Grow.trans g1 g).same _ hlt fun h => h).trans hm⟩⟩
 refine ⟨163, _, rfl, by kernel_rfl, ?_⟩
 intro y w I D hM h0 hal hst hdr hMM hbody
 have hk : es.toList.map (·.key) = ints (kv.map (·.1)) := by
   have h1 := congrArg (List.map Prod.fst) he.kvs
   simp only [List.map_map] at h1
   unfold ints
   rw [List.map_map]
   exact h1
 refine F163_calls _ _ _ _ ?_
 have hF : ∀ Q, F163 y (some ⟨b, 0, none⟩) Q w = F205 y (some ⟨b, 0, none⟩) Q w := fun Q => by
   unfold F163 F205
   simp only [deref_some']
   rfl
 rw [hF]
 exact F205_ok y ⟨b, 0, none⟩ m es clock (kv.map (·.1)) w hM.1 ⟨hM.2, he.born, he.nod, hk, hn⟩ I D hal (hst rfl) hdr (fun pre W h => (hMM pre W h).2.trans hM.2.symm) fun pre k W h1 h2 h3 => callV_mono (fun b W' hb => by
   by_cases hbt : b = true
   · rw [if_pos hbt] at hb ⊢; exact ⟨hb.1, hb.2 rfl⟩
   · rw [if_neg hbt] at hb ⊢; exact hb) (hbody pre k W h1 (fun _ => h2) h3)
end Go.Proofs

namespace Go.Proofs
open Go.Eng
def cs (j : Nat) : CM := match j with
 | 0 => ⟨2, 0, []⟩
 | 1 => ⟨2, 1, [⟨5, zero256, false, 1⟩]⟩
 | 2 => ⟨2, 2, [⟨5, zero256, false, 1⟩, ⟨6, zero256, false, 2⟩]⟩
 | 3 => ⟨2, 3, [⟨5, zero256, false, 3⟩, ⟨6, zero256, false, 2⟩]⟩
 | _ => ⟨2, 4, [⟨5, zero256, false, 3⟩, ⟨7, zero256, false, 4⟩]⟩
structure Ow where
 d : Int
 k : Int
 o : Int
 b : Sl
def Ow.cells (x : Ow) : List Value := [.int .i64 x.d, .int .i64 x.k, .int .i64 x.o, slV x.b]
@[simp] theorem Ow.cells_len (x : Ow) : x.cells.length = 4 := rfl
abbrev Oc := Ow × List UInt8
def OL (w : World) (s : Sl) (xs : List Oc) : Prop := SS Ow.cells w s (xs.map (·.1)) ∧ ∀ x ∈ xs, BS w x.1.b x.2
theorem OL.grow {w w' : World} {s : Sl} {xs : List Oc} (h : OL w s xs) (hm : Grow w w') : OL w' s xs := ⟨h.1.grow hm, fun x hx => (h.2 x hx).grow hm⟩
theorem OL.len {w : World} {s : Sl} {xs : List Oc} (h : OL w s xs) : s.len = xs.length := by rw [h.1.len]; simp
end Go.Proofs

namespace Go.Proofs
open Go.Eng
def isD (C : CM) (k : Int) : Prop := ∃ x ∈ C.l, x.key = k ∧ x.dirty = true
theorem mem_set_self {α : Type} {l : List α} {j : Nat} {x : α} (a : α) (h : l[j]? = some x) : a ∈ l.set j a := List.mem_of_getElem? (i := j) (by rw [List.getElem?_set_self (split_at h).2])
theorem ComesQ.isD {C C' : CM} {D : DM} {i e : Int} {j : Nat} (h : ComesQ C D i e C' j) (k : Int) : isD C' k ↔ isD C k := by
 cases h with
 | hit _ x h1 h2 =>
   constructor
   · rintro ⟨y, hy, g1, g2⟩
     rcases set_getElem?_mem hy with h | rfl
     · exact ⟨y, h, g1, g2⟩
     · exact ⟨x, List.mem_of_getElem? h1, g1, g2⟩
   · rintro ⟨y, hy, g1, g2⟩
     obtain ⟨a, ha⟩ := List.getElem?_of_mem hy
     by_cases haj : j = a
     · subst haj
       rw [h1] at ha
       cases ha
       exact ⟨{ x with asked := C.asked + 1 }, mem_set_self _ h1, g1, g2⟩
     · exact ⟨y, List.mem_of_getElem? (i := a) (show (C.l.set j _)[a]? = some _ by rw [List.getElem?_set_ne haj]; exact ha), g1, g2⟩
 | full no hf hd => exact Iff.rfl
 | err no he hc => exact Iff.rfl
 | more no hp hf =>
   constructor
   · rintro ⟨y, hy, g1, g2⟩
     rcases List.mem_append.1 hy with h | h
     · exact ⟨y, h, g1, g2⟩
     · rw [List.mem_singleton] at h; subst h; cases g2
   · rintro ⟨y, hy, g1, g2⟩
     exact ⟨y, List.mem_append_left _ hy, g1, g2⟩
 | swap no hp hf a y h1 h2 h3 =>
   constructor
   · rintro ⟨z, hz, g1, g2⟩
     rcases List.mem_append.1 hz with h | h
     · exact ⟨z, List.mem_of_mem_eraseIdx h, g1, g2⟩
     · rw [List.mem_singleton] at h; subst h; cases g2
   · rintro ⟨z, hz, g1, g2⟩
     refine ⟨z, List.mem_append_left _ ?_, g1, g2⟩
     obtain ⟨b, hb⟩ := List.getElem?_of_mem hz
     have hne : b ≠ a := by
       rintro rfl
       rw [h1] at hb; cases hb
       rw [h2] at g2; cases g2
     rw [List.eraseIdx_eq_take_drop_succ]
     rcases Nat.lt_or_ge b a with h' | h'
     · exact List.mem_append_left _ (List.mem_of_getElem? (i := b) (by rw [List.getElem?_take, if_pos h']; exact hb))
     · exact List.mem_append_right _ (List.mem_of_getElem? (i := b - (a + 1)) (by rw [List.getElem?_drop, show a + 1 + (b - (a + 1)) = b by omega]; exact hb))
theorem WriteQ.ok {C C' : CM} {D : DM} {i off e : Int} {l : List UInt8} (h : WriteQ C D i off l e C') (hok : C.ok D.blocks.length) (hD : D.ok) : C'.ok D.blocks.length ∧ C'.asked ≤ C.asked + 1 := by
 rcases h with ⟨_, _, rfl⟩ | ⟨_, _, _, rfl⟩ | ⟨_, hlo, C1, j, hq, ⟨_, rfl⟩ | ⟨_, _, x, hx, rfl⟩⟩
 · exact ⟨hok, by omega⟩
 · exact ⟨hok, by omega⟩
 · exact ⟨hq.ok hok hD, by rw [hq.asked.1]; exact Int.le_refl _⟩
 · have h1 := hq.ok hok hD
   have hm := List.mem_of_getElem? hx
   refine ⟨⟨?_, ?_, ?_, h1.room, ?_, ?_, ?_, h1.small⟩, by show C1.asked ≤ _; rw [hq.asked.1]; exact Int.le_refl _⟩
   · show ((C1.l.set j _).map (·.key)).Nodup
     rw [map_set_same (·.key) (a := { x with b := lay x.b off.toNat l, dirty := true }) hx rfl]; exact h1.nod
   · intro y hy
     rcases set_getElem?_mem hy with h | rfl
     · exact h1.len y h
     · have := h1.len x hm
       show (lay x.b off.toNat l).length = 256
       rw [lay_len (by omega)]; exact this
   · intro y hy
     rcases set_getElem?_mem hy with h | rfl
     · exact h1.key y h
     · exact h1.key x hm
   · show (((C1.l.set j _).length : Nat) : Int) ≤ C1.room
     rw [List.length_set]; exact h1.le
   · intro y hy
     rcases set_getElem?_mem hy with h | rfl
     · exact h1.age y h
     · exact h1.age x hm
   · show ((C1.l.set j _).map (·.asked)).Nodup
     rw [map_set_same (·.asked) (a := { x with b := lay x.b off.toNat l, dirty := true }) hx rfl]; exact h1.ages
theorem WriteQ.isD {C C' : CM} {D : DM} {i off e : Int} {l : List UInt8} (h : WriteQ C D i off l e C') (k : Int) : isD C' k ↔ (isD C k ∨ (e = 0 ∧ l ≠ [] ∧ k = i)) := by
 rcases h with ⟨_, h1, rfl⟩ | ⟨_, _, h1, rfl⟩ | ⟨_, hlo, C1, j, hq, ⟨h1, rfl⟩ | ⟨he, hl, x, hx, rfl⟩⟩
 · exact ⟨.inl, fun h => h.elim id fun h => by omega⟩
 · exact ⟨.inl, fun h => h.elim id fun h => by omega⟩
 · rw [hq.isD]
   exact ⟨.inl, fun h => h.elim id fun h => by rcases h1 with h1 | h1; exact absurd h.1 h1; exact absurd h1 h.2.1⟩
 · subst he
   obtain ⟨x', hx', hk⟩ := hq.at
   rw [hx] at hx'; cases hx'
   rw [← hq.isD]
   constructor
   · rintro ⟨y, hy, g1, g2⟩
     rcases set_getElem?_mem hy with h | rfl
     · exact .inl ⟨y, h, g1, g2⟩
     · exact .inr ⟨rfl, hl, g1.symm.trans hk⟩
   · rintro (⟨y, hy, g1, g2⟩ | ⟨_, _, rfl⟩)
     · obtain ⟨a, ha⟩ := List.getElem?_of_mem hy
       by_cases haj : j = a
       · subst haj
         rw [hx] at ha; cases ha
         exact ⟨{ x with b := lay x.b off.toNat l, dirty := true }, mem_set_self _ hx, g1, rfl⟩
       · exact ⟨y, List.mem_of_getElem? (i := a) (show (C1.l.set j _)[a]? = some _ by rw [List.getElem?_set_ne haj]; exact ha), g1, g2⟩
     · exact ⟨{ x with b := lay x.b off.toNat l, dirty := true }, mem_set_self _ hx, hk, rfl⟩
theorem ReadQ.ok {C C' : CM} {D : DM} {i e : Int} {out : List UInt8} (h : ReadQ C D i e C' out) (hok : C.ok D.blocks.length) (hD : D.ok) : C'.ok D.blocks.length ∧ C'.asked ≤ C.asked + 1 ∧ ∀ k, isD C' k ↔ isD C k := by
 rcases h with ⟨_, _, rfl, _⟩ | ⟨_, j, hq, _⟩
 · exact ⟨hok, by omega, fun _ => Iff.rfl⟩
 · exact ⟨hq.ok hok hD, by rw [hq.asked.1]; exact Int.le_refl _, hq.isD⟩
theorem mem_dirtyK {C : CM} {k : Int} : k ∈ dirtyK C ↔ isD C k := by
 unfold dirtyK isD
 rw [(sortI_perm _).mem_iff, List.mem_map]
 constructor
 · rintro ⟨x, hx, rfl⟩
   exact ⟨x, (List.mem_filter.1 hx).1, rfl, (List.mem_filter.1 hx).2⟩
 · rintro ⟨x, hx, rfl, hd⟩
   exact ⟨x, List.mem_filter.2 ⟨hx, hd⟩, rfl⟩
theorem dirtyK_nodup {C : CM} (h : (C.l.map (·.key)).Nodup) : (dirtyK C).Nodup := by
 unfold dirtyK
 rw [(sortI_perm _).nodup_iff]
 exact h.sublist ((List.filter_sublist (l := C.l)).map _)
end Go.Proofs

namespace Go.Proofs
open Go.Eng
def coh (C : CM) (D : DM) : Prop := ∀ x ∈ C.l, x.dirty = false → x.b = rdD D x.key
def vis (C : CM) (D : DM) (k : Int) (v : List UInt8) : Prop := (∃ x ∈ C.l, x.key = k ∧ v = x.b) ∨ ((∀ x ∈ C.l, x.key ≠ k) ∧ v = rdD D k)
theorem key_uniq {C : CM} {n : Nat} (h : C.ok n) {x y : Bm} (hx : x ∈ C.l) (hy : y ∈ C.l) (hk : x.key = y.key) : x = y := by
 obtain ⟨a, ha⟩ := List.getElem?_of_mem hx
 obtain ⟨b, hb⟩ := List.getElem?_of_mem hy
 have := key_inj h ha hb hk
 subst this
 rw [ha] at hb
 exact Option.some.inj hb
theorem vis_of {C : CM} {D : DM} {n : Nat} (h : C.ok n) {x : Bm} (hx : x ∈ C.l) {v : List UInt8} (hv : vis C D x.key v) : v = x.b := by
 rcases hv with ⟨y, hy, hk, rfl⟩ | ⟨hno, _⟩
 · rw [key_uniq h hy hx hk]
 · exact absurd rfl (hno x hx)
theorem mem_set_iff {l : List Bm} {j : Nat} {x a y : Bm} (h : l[j]? = some x) (hn : (l.map (·.key)).Nodup) : y ∈ l.set j a ↔ y = a ∨ (y ∈ l ∧ y.key ≠ x.key) := by
 constructor
 · intro hy
   obtain ⟨b, hb⟩ := List.getElem?_of_mem hy
   rw [List.getElem?_set] at hb
   split at hb
   · rename_i hjb
     split at hb
     · exact .inl (Option.some.inj hb).symm
     · cases hb
   · rename_i hjb
     refine .inr ⟨List.mem_of_getElem? hb, fun hk => hjb ?_⟩
     have e1 : (l.map (·.key))[j]? = some x.key := by rw [List.getElem?_map, h]; rfl
     have e2 : (l.map (·.key))[b]? = some x.key := by rw [List.getElem?_map, hb, ← hk]; rfl
     exact (List.getElem?_inj (split_at e1).2 hn).1 (e1.trans e2.symm)
 · rintro (rfl | ⟨hy, hk⟩)
   · exact mem_set_self _ h
   · obtain ⟨b, hb⟩ := List.getElem?_of_mem hy
     have hjb : j ≠ b := by
       rintro rfl
       rw [h] at hb
       exact hk (by rw [Option.some.inj hb])
     exact List.mem_of_getElem? (i := b) (by rw [List.getElem?_set_ne hjb]; exact hb)
theorem mem_erase_iff {l : List Bm} {j : Nat} {x y : Bm} (h : l[j]? = some x) (hn : (l.map (·.key)).Nodup) : y ∈ l.eraseIdx j ↔ y ∈ l ∧ y.key ≠ x.key := by
 have h1 := split_at h
 have hn2 := hn
 rw [h1.1, List.map_append, List.map_cons, List.nodup_append, List.nodup_cons] at hn2
 rw [List.eraseIdx_eq_take_drop_succ]
 constructor
 · intro hy
   rcases List.mem_append.1 hy with h2 | h2
   · exact ⟨List.mem_of_mem_take h2, fun hk => hn2.2.2 y.key (List.mem_map.2 ⟨y, h2, rfl⟩) x.key (by simp) hk⟩
   · exact ⟨List.mem_of_mem_drop h2, fun hk => hn2.2.1.1 (List.mem_map.2 ⟨y, h2, hk⟩)⟩
 · rintro ⟨hy, hk⟩
   rw [h1.1] at hy
   rcases List.mem_append.1 hy with h2 | h2
   · exact List.mem_append_left _ h2
   · rcases List.mem_cons.1 h2 with rfl | h2
     · exact absurd rfl hk
     · exact List.mem_append_right _ h2
theorem ComesQ.coh {C C' : CM} {D : DM} {i e : Int} {j : Nat} (h : ComesQ C D i e C' j) (hok : C.ok D.blocks.length) (hc : coh C D) : coh C' D ∧ ∀ k v, vis C D k v → vis C' D k v := by
 cases h with
 | hit _ x h1 h2 =>
   have hm := List.mem_of_getElem? h1
   constructor
   · intro y hy hd
     rcases (mem_set_iff h1 hok.nod).1 hy with rfl | ⟨hy, _⟩
     · exact hc x hm hd
     · exact hc y hy hd
   · rintro k v (⟨y, hy, hk, rfl⟩ | ⟨hno, rfl⟩)
     · by_cases hyk : y.key = x.key
       · have := key_uniq hok hy hm hyk
         subst this
         exact .inl ⟨{ y with asked := C.asked + 1 }, mem_set_self _ h1, hk, rfl⟩
       · exact .inl ⟨y, (mem_set_iff h1 hok.nod).2 (.inr ⟨hy, hyk⟩), hk, rfl⟩
     · refine .inr ⟨fun y hy => ?_, rfl⟩
       rcases (mem_set_iff h1 hok.nod).1 hy with rfl | ⟨hy, _⟩
       · exact hno x hm
       · exact hno y hy
 | full no hf hd => exact ⟨hc, fun _ _ h => h⟩
 | err no he hc' => exact ⟨hc, fun _ _ h => h⟩
 | more no hp hf =>
   constructor
   · intro y hy hd
     rcases List.mem_append.1 hy with h | h
     · exact hc y h hd
     · rw [List.mem_singleton] at h; subst h; rfl
   · rintro k v (⟨y, hy, hk, rfl⟩ | ⟨hno, rfl⟩)
     · exact .inl ⟨y, List.mem_append_left _ hy, hk, rfl⟩
     · by_cases hki : i = k
       · subst hki
         exact .inl ⟨newB C D i, List.mem_append_right _ (by simp), rfl, rfl⟩
       · refine .inr ⟨fun y hy => ?_, rfl⟩
         rcases List.mem_append.1 hy with h | h
         · exact hno y h
         · rw [List.mem_singleton] at h; subst h; exact hki
 | swap no hp hf a y h1 h2 h3 =>
   have hm := List.mem_of_getElem? h1
   constructor
   · intro z hz hd
     rcases List.mem_append.1 hz with h | h
     · exact hc z (List.mem_of_mem_eraseIdx h) hd
     · rw [List.mem_singleton] at h; subst h; rfl
   · rintro k v (⟨z, hz, hk, rfl⟩ | ⟨hno, rfl⟩)
     · by_cases hzy : z.key = y.key
       · have := key_uniq hok hz hm hzy
         subst this
         refine .inr ⟨fun u hu => ?_, ?_⟩
         · rcases List.mem_append.1 hu with h | h
           · rw [← hk]; exact ((mem_erase_iff h1 hok.nod).1 h).2
           · rw [List.mem_singleton] at h; subst h
             exact fun hi => no z hz (hk.trans hi.symm)
         · rw [hc z hz h2, hk]
       · exact .inl ⟨z, List.mem_append_left _ ((mem_erase_iff h1 hok.nod).2 ⟨hz, hzy⟩), hk, rfl⟩
     · by_cases hki : i = k
       · subst hki
         exact .inl ⟨newB C D i, List.mem_append_right _ (by simp), rfl, rfl⟩
       · refine .inr ⟨fun u hu => ?_, rfl⟩
         rcases List.mem_append.1 hu with h | h
         · exact hno u (List.mem_of_mem_eraseIdx h)
         · rw [List.mem_singleton] at h; subst h; exact hki
theorem ReadQ.coh {C C' : CM} {D : DM} {i e : Int} {out : List UInt8} (h : ReadQ C D i e C' out) (hok : C.ok D.blocks.length) (hc : coh C D) : coh C' D ∧ ∀ k v, vis C D k v → vis C' D k v := by
 rcases h with ⟨_, _, rfl, _⟩ | ⟨_, j, hq, _⟩
 · exact ⟨hc, fun _ _ h => h⟩
 · exact hq.coh hok hc
theorem ReadQ.val {C C' : CM} {D : DM} {i : Int} {out : List UInt8} (h : ReadQ C D i 0 C' out) (hok : C.ok D.blocks.length) (hD : D.ok) (hc : Go.Proofs.coh C D) {v : List UInt8} (hv : vis C D i v) : out = v := by
 rcases h with ⟨_, he, _⟩ | ⟨_, j, hq, ⟨he, _⟩ | ⟨_, x, hx, rfl⟩⟩
 · cases he
 · exact absurd rfl he
 · obtain ⟨x', hx', hk⟩ := hq.at
   rw [hx] at hx'; cases hx'
   subst hk
   exact (vis_of (hq.ok hok hD) (List.mem_of_getElem? hx) ((hq.coh hok hc).2 _ _ hv)).symm
theorem WriteQ.coh {C C' : CM} {D : DM} {i off e : Int} {l : List UInt8} (h : WriteQ C D i off l e C') (hok : C.ok D.blocks.length) (hD : D.ok) (hc : Go.Proofs.coh C D) :
   Go.Proofs.coh C' D ∧ (∀ k v, vis C D k v → (e ≠ 0 ∨ k ≠ i) → vis C' D k v) ∧ (e = 0 → (0 ≤ off ∧ off + l.length ≤ 256) ∧ ∀ v, vis C D i v → vis C' D i (lay v off.toNat l)) := by
 rcases h with ⟨_, h1, rfl⟩ | ⟨_, _, h1, rfl⟩ | ⟨_, hlo, C1, j, hq, ⟨h1, rfl⟩ | ⟨he, hl, x, hx, rfl⟩⟩
 · exact ⟨hc, fun _ _ h _ => h, fun h => by omega⟩
 · exact ⟨hc, fun _ _ h _ => h, fun h => by omega⟩
 · obtain ⟨g1, g2⟩ := hq.coh hok hc
   refine ⟨g1, fun k v h _ => g2 k v h, fun he => ⟨hlo, fun v hv => ?_⟩⟩
   have : l = [] := h1.resolve_left fun h => h he
   subst this
   rw [lay_nil]
   exact g2 i v hv
 · subst he
   obtain ⟨g1, g2⟩ := hq.coh hok hc
   have h1 := hq.ok hok hD
   obtain ⟨x', hx', hk⟩ := hq.at
   rw [hx] at hx'; cases hx'
   subst hk
   have hm := List.mem_of_getElem? hx
   refine ⟨?_, ?_, fun _ => ⟨hlo, fun v hv => ?_⟩⟩
   · intro y hy hd
     rcases (mem_set_iff hx h1.nod).1 hy with rfl | ⟨hy, _⟩
     · cases hd
     · exact g1 y hy hd
   · intro k v hv hki
     have hki : k ≠ x.key := hki.resolve_left fun h => h rfl
     rcases g2 k v hv with ⟨y, hy, hk, rfl⟩ | ⟨hno, rfl⟩
     · exact .inl ⟨y, (mem_set_iff hx h1.nod).2 (.inr ⟨hy, by rw [hk]; exact hki⟩), hk, rfl⟩
     · refine .inr ⟨fun y hy => ?_, rfl⟩
       rcases (mem_set_iff hx h1.nod).1 hy with rfl | ⟨hy, _⟩
       · exact hno x hm
       · exact hno y hy
   · have := vis_of h1 hm (g2 _ _ hv)
     subst this
     exact .inl ⟨{ x with b := lay x.b off.toNat l, dirty := true }, mem_set_self _ hx, rfl, rfl⟩
theorem rdD_addW (D : DM) (i : Int) (l : List UInt8) (k : Int) : rdD (addW D i l) k = if i = k then l else rdD D k := by
 unfold rdD addW
 rw [List.reverse_append, List.reverse_singleton, List.singleton_append, List.find?_cons]
 by_cases h : i = k
 · rw [if_pos h, h]; simp
 · rw [if_neg h]
   have : ((i, l).1 == k) = false := by simpa using h
   rw [this]
structure Calm (D : DM) (n N : Nat) : Prop where
 ok : D.ok
 off : D.off = false
 armed : D.armed = 0
 len : D.blocks.length = n
 ops : 0 ≤ D.ops ∧ D.ops ≤ N
 wait : D.wait.length ≤ N
theorem Calm.bd {D : DM} {n N : Nat} (h : Calm D n N) : D.bd N := ⟨by rw [h.armed]; decide, h.ops, h.wait⟩
theorem Calm.place {D : DM} {n N : Nat} (h : Calm D n N) {i : Int} (hi : 0 ≤ i ∧ i < n) : placeE D i = 0 := by
 unfold placeE
 rw [h.off, if_neg (by simp), if_neg (by rw [h.len]; omega)]
theorem Calm.write {D : DM} {n N : Nat} (h : Calm D n N) {i : Int} (hi : 0 ≤ i ∧ i < n) {l : List UInt8} (hl : l.length = 256) :
   (writeD D i l).1 = 0 ∧ Calm (writeD D i l).2 n (N + 1) ∧ ∀ k, rdD (writeD D i l).2 k = if i = k then l else rdD D k := by
 have hg : goesD (addW D i l) = (false, { addW D i l with ops := D.ops + 1 }) := by
   unfold goesD
   rw [if_pos (show (addW D i l).armed = 0 from h.armed)]
   rfl
 unfold writeD
 rw [if_neg (by simp [h.place hi]), if_neg (by simp [hl]), hg]
 have h1 := addW_ok h.ok (i := i) (l := l) (by rw [h.len]; exact hi) hl
 have := h.ops
 have := h.wait
 refine ⟨rfl, ⟨⟨h1.len, h1.wlen, h1.pos, h1.le⟩, h.off, h.armed, h.len, ⟨by dsimp only; omega, by dsimp only; omega⟩, by show (D.wait ++ [_]).length ≤ _; rw [List.length_append, List.length_singleton]; omega⟩, fun k => ?_⟩
 exact rdD_addW D i l k
theorem bytesAt_of {C : CM} {n : Nat} (h : C.ok n) {x : Bm} (hx : x ∈ C.l) : bytesAt C x.key = x.b := by
 obtain ⟨i, hi⟩ := List.getElem?_of_mem hx
 unfold bytesAt
 rw [find_at h.nod hi]; rfl
theorem setClean_ok {C : CM} {n : Nat} (h : C.ok n) (k : Int) : (setClean C k).ok n := by
 have hm : ∀ y ∈ (setClean C k).l, ∃ x ∈ C.l, y.key = x.key ∧ y.b = x.b ∧ y.asked = x.asked := by
   intro y hy
   obtain ⟨x, hx, rfl⟩ := List.mem_map.1 hy
   refine ⟨x, hx, ?_⟩
   split <;> exact ⟨rfl, rfl, rfl⟩
 refine ⟨by rw [setClean_keys]; exact h.nod, ?_, ?_, h.room, ?_, ?_, ?_, h.small⟩
 · intro y hy; obtain ⟨x, hx, _, h2, _⟩ := hm y hy; rw [h2]; exact h.len x hx
 · intro y hy; obtain ⟨x, hx, h1, _, _⟩ := hm y hy; rw [h1]; exact h.key x hx
 · show (((C.l.map _).length : Nat) : Int) ≤ C.room
   rw [List.length_map]; exact h.le
 · intro y hy; obtain ⟨x, hx, _, _, h3⟩ := hm y hy; rw [h3]; exact h.age x hx
 · unfold setClean
   rw [List.map_map]
   have : C.l.map ((fun x => x.asked) ∘ fun x => if x.key = k then { x with dirty := false } else x) = C.l.map (·.asked) := List.map_congr_left fun x _ => by
     show (if x.key = k then _ else _ : Bm).asked = x.asked
     split <;> rfl
   rw [this]; exact h.ages
end Go.Proofs

set_option maxRecDepth 20000
namespace Go.Proofs
open Go.Eng
def sec (l : List UInt8) (k : Nat) : List UInt8 := (l.drop (64 * k)).take 64
theorem sec_get (l : List UInt8) (k o : Nat) (h : o < 64) : (sec l k)[o]? = l[64 * k + o]? := by
 unfold sec
 rw [List.getElem?_take_of_lt h, List.getElem?_drop]
theorem sec_len {l : List UInt8} (h : l.length = 256) {k : Nat} (hk : k < 4) : (sec l k).length = 64 := by
 unfold sec; rw [List.length_take, List.length_drop]; omega
theorem sec_ext {a b : List UInt8} (ha : a.length = 256) (hb : b.length = 256) (h : ∀ k, k < 4 → sec a k = sec b k) : a = b := by
 refine List.ext_getElem? fun i => ?_
 by_cases hi : i < 256
 · have h1 := h (i / 64) (by omega)
   have h2 := congrArg (·[i % 64]?) h1
   simp only [sec_get _ _ _ (Nat.mod_lt i (by decide : 64 > 0))] at h2
   rwa [show 64 * (i / 64) + i % 64 = i by omega] at h2
 · rw [List.getElem?_eq_none (by omega), List.getElem?_eq_none (by omega)]
theorem sec_reach {b l : List UInt8} {p : Int} (hb : b.length = 256) (hl : l.length = 256) {k : Nat} (hk : k < 4) : ∀ m, m ≤ 4 → sec (reachB b l p m) k = if k < m ∧ pbit p k = true then sec l k else sec b k
 | 0, _ => by simp [reachB]
 | m + 1, hm => by
   have ih := sec_reach hb hl (p := p) hk m (by omega)
   unfold reachB
   by_cases hp : pbit p m = true
   · rw [if_pos hp]
     have hlen := reachB_len (p := p) hb hl m (by omega)
     have hsl : (sec l m).length = 64 := sec_len hl (by omega)
     by_cases hkm : k = m
     · subst hkm
       rw [if_pos ⟨by omega, hp⟩]
       show sec (lay (reachB b l p k) (64 * k) (sec l k)) k = sec l k
       refine List.ext_getElem? fun i => ?_
       by_cases hi : i < 64
       · rw [sec_get _ _ _ hi, lay_get (by omega), if_pos ⟨by omega, by omega⟩]
         congr 1; omega
       · rw [List.getElem?_eq_none (by rw [sec_len (by rw [lay_len (by omega)]; exact hlen) hk]; omega), List.getElem?_eq_none (by omega)]
     · have : (k < m + 1 ∧ pbit p k = true) ↔ (k < m ∧ pbit p k = true) := ⟨fun h => ⟨by omega, h.2⟩, fun h => ⟨by omega, h.2⟩⟩
       rw [show (if k < m + 1 ∧ pbit p k = true then sec l k else sec b k) = sec (reachB b l p m) k by rw [ih]; simp only [this]]
       show sec (lay (reachB b l p m) (64 * m) (sec l m)) k = sec (reachB b l p m) k
       refine List.ext_getElem? fun i => ?_
       by_cases hi : i < 64
       · rw [sec_get _ _ _ hi, sec_get _ _ _ hi, lay_get (by omega), if_neg (by omega)]
       · rw [List.getElem?_eq_none (by rw [sec_len (by rw [lay_len (by omega)]; exact hlen) hk]; omega), List.getElem?_eq_none (by rw [sec_len hlen hk]; omega)]
   · rw [if_neg hp, ih]
     have : (k < m + 1 ∧ pbit p k = true) ↔ (k < m ∧ pbit p k = true) := ⟨fun h => ⟨by rcases Nat.lt_or_ge k m with h' | h'; exact h'; exact absurd (show pbit p m = true by rw [← show k = m by omega]; exact h.2) hp, h.2⟩, fun h => ⟨by omega, h.2⟩⟩
     simp only [this]
def Sv (D : DM) (b : Int) (k : Nat) (v : List UInt8) : Prop := (∃ l, D.blocks[b.toNat]? = some l ∧ v = sec l k) ∨ ∃ x ∈ D.wait, x.1 = b ∧ v = sec x.2 k
theorem fallGo_sv {b : Int} (h0 : 0 ≤ b) {k : Nat} (hk : k < 4) {l' : List UInt8} : ∀ (ws : List (Int × List UInt8)) (ps : List UInt8) (bl : List (List UInt8)), (∀ b ∈ bl, b.length = 256) → (∀ x ∈ ws, 0 ≤ x.1 ∧ x.1 < (bl.length : Int) ∧ x.2.length = 256) → (fallGo bl ws ps)[b.toNat]? = some l' →
   (∃ l, bl[b.toNat]? = some l ∧ sec l' k = sec l k) ∨ ∃ x ∈ ws, x.1 = b ∧ sec l' k = sec x.2 k
 | [], _, bl, _, _, h => by unfold fallGo at h; exact .inl ⟨l', h, rfl⟩
 | _ :: _, [], bl, _, _, h => by unfold fallGo at h; exact .inl ⟨l', h, rfl⟩
 | x :: ws, p :: ps, bl, hl, hw, h => by
   unfold fallGo at h
   have hx := hw x (by simp)
   have hi : x.1.toNat < bl.length := by omega
   have hb256 := hl _ (List.getElem_mem hi)
   rw [List.getElem?_eq_getElem hi] at h
   have hr := reachB_len (p := p.toNat) hb256 hx.2.2 4 (by omega)
   rcases fallGo_sv h0 hk ws ps _ (fun c hc => by
     rcases List.mem_or_eq_of_mem_set hc with h1 | rfl
     · exact hl c h1
     · exact hr) (fun y hy => by
     have := hw y (by simp [hy])
     rw [List.length_set]; exact this) h with ⟨l, h1, h2⟩ | ⟨y, h1, h2, h3⟩
   · rw [List.getElem?_set] at h1
     split at h1
     · rename_i he
       rw [Option.some.injEq] at h1
       subst h1
       have e := sec_reach (p := p.toNat) hb256 hx.2.2 hk 4 (by omega)
       change sec (reachB ((some bl[x.1.toNat]).getD []) x.2 p.toNat 4) k = _ at e
       rw [h2, e]
       have hbe : x.1 = b := by omega
       split
       · exact .inr ⟨x, by simp, hbe, rfl⟩
       · exact .inl ⟨bl[x.1.toNat], by rw [← hbe]; simp [hi], rfl⟩
     · exact .inl ⟨l, h1, h2⟩
   · exact .inr ⟨y, by simp [h1], h2, h3⟩
theorem falls_sv {D : DM} (hD : D.ok) {pl : List UInt8} {b : Int} (h0 : 0 ≤ b) {k : Nat} (hk : k < 4) {v : List UInt8} (h : Sv (fallsD D pl) b k v) : Sv D b k v := by
 rcases h with ⟨l, h1, rfl⟩ | ⟨x, h1, _⟩
 · exact fallGo_sv h0 hk _ _ _ hD.len (fun x hx => hD.wlen x hx) h1
 · cases h1
theorem rd_none {D : DM} (h : D.wait = []) (b : Int) : rdD D b = (D.blocks[b.toNat]?).getD [] := by
 unfold rdD; rw [h]; rfl
theorem sv_quiet {D : DM} (h : D.wait = []) {b : Int} {k : Nat} {v : List UInt8} (hs : Sv D b k v) : v = sec (rdD D b) k := by
 rcases hs with ⟨l, h1, rfl⟩ | ⟨x, h1, _⟩
 · rw [rd_none h, h1]; rfl
 · rw [h] at h1; cases h1
theorem rd_sv {D : DM} {b : Int} (h0 : 0 ≤ b ∧ b < D.blocks.length) (k : Nat) : Sv D b k (sec (rdD D b) k) := by
 unfold rdD
 cases hf : D.wait.reverse.find? (·.1 == b) with
 | none =>
   refine .inl ⟨D.blocks[b.toNat]'(by omega), by simp, ?_⟩
   rw [List.getElem?_eq_getElem (by omega)]; rfl
 | some x =>
   have h1 := List.mem_of_find?_eq_some hf
   have h2 := List.find?_some hf
   exact .inr ⟨x, List.mem_reverse.1 h1, by simpa using h2, rfl⟩
theorem goes_cases (D : DM) : ((goesD D).1 = false ∧ (∀ b k v, Sv (goesD D).2 b k v → Sv D b k v) ∧ (∀ b, rdD (goesD D).2 b = rdD D b) ∧ (goesD D).2.off = D.off) ∨
   ((goesD D).1 = true ∧ (D.ok → ∀ b k v, 0 ≤ b → k < 4 → Sv (goesD D).2 b k v → Sv D b k v) ∧ (goesD D).2.off = true ∧ (goesD D).2.wait = []) := by
 unfold goesD
 split
 · exact .inl ⟨rfl, fun _ _ _ h => h, fun _ => rfl, rfl⟩
 · split
   · exact .inl ⟨rfl, fun _ _ _ h => h, fun _ => rfl, rfl⟩
   · exact .inr ⟨rfl, fun hD b k v h0 hk h => falls_sv (D := { D with ops := D.ops + 1 }) ⟨hD.len, hD.wlen, hD.pos, hD.le⟩ h0 hk h, rfl, rfl⟩
theorem write_cases {D : DM} (hD : D.ok) {i : Int} {l : List UInt8} (ho : D.off = false) (hi : 0 ≤ i ∧ i < D.blocks.length) (hl : l.length = 256) :
   ((writeD D i l).1 = 0 ∧ (writeD D i l).2.off = false ∧ ∀ b, rdD (writeD D i l).2 b = if i = b then l else rdD D b) ∨ ((writeD D i l).1 = 5 ∧ (writeD D i l).2.off = true ∧ (writeD D i l).2.wait = []) := by
 have hp : placeE D i = 0 := by unfold placeE; rw [ho, if_neg (by simp), if_neg (by omega)]
 unfold writeD
 rw [if_neg (by simp [hp]), if_neg (by simp [hl])]
 rcases goes_cases (addW D i l) with ⟨h1, _, h3, h4⟩ | ⟨h1, _, h3, h4⟩
 · rw [h1]
   exact .inl ⟨rfl, h4.trans ho, fun b => (h3 b).trans (rdD_addW' D i l b)⟩
 · rw [h1]
   exact .inr ⟨rfl, h3, h4⟩
where
 rdD_addW' (D : DM) (i : Int) (l : List UInt8) (k : Int) : rdD (addW D i l) k = if i = k then l else rdD D k := by
   unfold rdD addW
   rw [List.reverse_append, List.reverse_singleton, List.singleton_append, List.find?_cons]
   by_cases h : i = k
   · rw [if_pos h, h]; simp
   · rw [if_neg h]
     have : ((i, l).1 == k) = false := by simpa using h
     rw [this]
theorem write_sv {D : DM} (hD : D.ok) {i : Int} {l : List UInt8} {b : Int} {k : Nat} {v : List UInt8} (h0 : 0 ≤ b) (hk : k < 4) (h : Sv (writeD D i l).2 b k v) : Sv D b k v ∨ (i = b ∧ v = sec l k) := by
 unfold writeD at h
 split at h
 · exact .inl h
 · rename_i hp
   split at h
   · exact .inl h
   · rename_i hl
     have hi := place0 (Classical.not_not.1 hp)
     have h2 : Sv (addW D i l) b k v := by
       rcases goes_cases (addW D i l) with ⟨_, h2, _⟩ | ⟨_, h2, _⟩
       · exact h2 _ _ _ h
       · exact h2 (addW_ok hD ⟨hi.2.1, hi.2.2⟩ (Classical.not_not.1 hl)) _ _ _ h0 hk h
     rcases h2 with h3 | ⟨x, h3, h4, h5⟩
     · exact .inl (.inl h3)
     · rcases List.mem_append.1 h3 with h6 | h6
       · exact .inl (.inr ⟨x, h6, h4, h5⟩)
       · rw [List.mem_singleton] at h6; subst h6; exact .inr ⟨h4, h5⟩
theorem flushB_get : ∀ (ws : List (Int × List UInt8)) (bs : List (List UInt8)) (b : Int), (∀ x ∈ ws, 0 ≤ x.1 ∧ x.1 < (bs.length : Int)) → 0 ≤ b → ((flushB bs ws)[b.toNat]?).getD [] = ((ws.reverse.find? (·.1 == b)).map (·.2)).getD ((bs[b.toNat]?).getD [])
 | [], bs, b, _, _ => rfl
 | x :: ws, bs, b, hw, h0 => by
   show ((flushB (bs.set x.1.toNat x.2) ws)[b.toNat]?).getD [] = _
   rw [flushB_get ws _ b (fun y hy => by rw [List.length_set]; exact hw y (by simp [hy])) h0, List.reverse_cons, List.find?_append]
   have hx := hw x (by simp)
   cases ws.reverse.find? (·.1 == b) with
   | some y => rfl
   | none =>
     by_cases h : x.1 = b
     · subst h
       simp [List.getElem?_set_self (show x.1.toNat < bs.length by omega)]
     · have : (x.1 == b) = false := beq_eq_false_iff_ne.2 h
       simp [this, List.getElem?_set_ne (show x.1.toNat ≠ b.toNat by omega)]
theorem flush_cases {D : DM} (hD : D.ok) (ho : D.off = false) :
   ((flushD D).1 = 0 ∧ (flushD D).2.off = false ∧ (flushD D).2.wait = [] ∧ ∀ b, 0 ≤ b → rdD (flushD D).2 b = rdD D b) ∨ ((flushD D).1 = 5 ∧ (flushD D).2.off = true ∧ (flushD D).2.wait = []) := by
 unfold flushD
 rw [ho, if_neg (by decide)]
 rcases goes_cases D with ⟨h1, _, h3, h4⟩ | ⟨h1, _, h3, h4⟩
 · rw [h1, if_neg (by decide)]
   refine .inl ⟨rfl, h4.trans ho, rfl, fun b hb => ?_⟩
   rw [rd_none rfl]
   exact flushB_get _ _ _ (fun x hx => let h := hD.wlen x hx; ⟨h.1, h.2.1⟩) hb
 · rw [h1, if_pos rfl]
   exact .inr ⟨rfl, h3, h4⟩
theorem flush_sv {D : DM} (hD : D.ok) {b : Int} {k : Nat} {v : List UInt8} (h0 : 0 ≤ b) (hk : k < 4) (h : Sv (flushD D).2 b k v) : Sv D b k v := by
 unfold flushD at h
 split at h
 · exact h
 · rcases goes_cases D with ⟨h1, h2, h3, _⟩ | ⟨h1, h2, _⟩
   · rw [h1, if_neg (by decide)] at h
     rcases h with ⟨l, h4, rfl⟩ | ⟨x, h4, _⟩
     · dsimp only at h4
       have hlen : b.toNat < D.blocks.length := by
         rw [← flushB_len D.wait D.blocks]; exact (split_at h4).2
       have h5 := flushB_get D.wait D.blocks b (fun x hx => let h := hD.wlen x hx; ⟨h.1, h.2.1⟩) h0
       rw [h4] at h5
       have h6 := rd_sv (D := D) (b := b) ⟨h0, by omega⟩ k
       unfold rdD at h6
       rw [← h5] at h6
       exact h6
     · cases h4
   · rw [h1, if_pos rfl] at h
     exact h2 hD _ _ _ h0 hk h
end Go.Proofs

set_option maxRecDepth 20000
namespace Go.Proofs
open Go.Eng
structure Pg where
 k : Int
 s : Sl
 b : List UInt8
def Pg.m (x : Pg) : Int × List UInt8 := (x.k, x.b)
def Pg.kv (x : Pg) : Int × Value := (x.k, slV x.s)
def Pg.A (x : Pg) : HA := SlA 1 x.s (x.b.map ub)
structure TM where
 D : DM
 S : Sup
 P : PlanT
 busy : Bool
 dead : Bool
 R : List Rv
 pg : List (Int × List UInt8)
abbrev TM.n (T : TM) : Int := T.S.2.2.1
abbrev TM.h (T : TM) : Int := T.S.2.2.2.2.2
structure TH where
 b : Nat
 g : Nat
 c : Nat
 m : Nat
 s : Sl
 xs : List Rc
 C : CM
 pl : List Pg
structure CC (N : Nat) (P : PlanT) (C : CM) (D : DM) : Prop where
 ok : C.ok D.blocks.length
 room : C.room = 256
 clean : ∀ x ∈ C.l, x.dirty = false
 coh : coh C D
 ask : C.asked ≤ N
 use : ∀ x ∈ C.l, usableS P x.key
structure TxP (N : Nat) (T : TM) (i : TH) : Prop where
 xs : i.xs.map rv = T.R
 pl : i.pl.map Pg.m = T.pg
 cc : T.dead = false → CC N T.P i.C T.D
abbrev txO (x dp : Nat) (T : TM) (i : TH) : List HA := [BoxA x (storeC i.b dp T.S T.P T.busy T.dead i.m), BoxA i.b [P0 i.g, P0 i.c], BoxA i.g (ringC dp 3 T.n T.h i.s), SlA 5 i.s (rcs i.xs), bts i.xs, CacheA i.c dp i.C, MapA intKT i.m (i.pl.map Pg.kv), bigA (i.pl.map Pg.A)]
def TxA (x dp N : Nat) (T : TM) : HA := exA fun i : TH => pA (TxP N T i) :: txO x dp T i
section
variable {F0 : Nat → Prop} {w0 w : World} {L : List HA} {x dp N : Nat} {T : TM}
theorem _root_.Go.Eng.St.tOpen (h : St F0 w0 w (TxA x dp N T :: L)) : ∃ i, TxP N T i ∧ St F0 w0 w (BoxA x (storeC i.b dp T.S T.P T.busy T.dead i.m) :: BoxA i.b [P0 i.g, P0 i.c] :: BoxA i.g (ringC dp 3 T.n T.h i.s) :: SlA 5 i.s (rcs i.xs) :: bts i.xs :: CacheA i.c dp i.C :: MapA intKT i.m (i.pl.map Pg.kv) :: bigA (i.pl.map Pg.A) :: L) := by
 obtain ⟨i, h⟩ := h.ex
 obtain ⟨h1, h⟩ := h.p
 exact ⟨i, h1, h⟩
theorem _root_.Go.Eng.St.tClose {i : TH} (h : St F0 w0 w (BoxA x (storeC i.b dp T.S T.P T.busy T.dead i.m) :: BoxA i.b [P0 i.g, P0 i.c] :: BoxA i.g (ringC dp 3 T.n T.h i.s) :: SlA 5 i.s (rcs i.xs) :: bts i.xs :: CacheA i.c dp i.C :: MapA intKT i.m (i.pl.map Pg.kv) :: bigA (i.pl.map Pg.A) :: L)) (hp : TxP N T i) : St F0 w0 w (TxA x dp N T :: L) :=
 St.mkex (f := fun i : TH => pA (TxP N T i) :: txO x dp T i) i (h.mkp hp)
theorem TxP.mono {N M : Nat} {T : TM} {i : TH} (h : TxP N T i) (hm : N ≤ M) : TxP M T i := ⟨h.xs, h.pl, fun hd => let c := h.cc hd; ⟨c.ok, c.room, c.clean, c.coh, by have := c.ask; omega, c.use⟩⟩
theorem _root_.Go.Eng.St.tMono {M : Nat} (h : St F0 w0 w (TxA x dp N T :: L)) (hm : N ≤ M) : St F0 w0 w (TxA x dp M T :: L) := by
 obtain ⟨i, hp, s⟩ := h.tOpen
 exact s.tClose (hp.mono hm)
end
structure TM.ok (T : TM) : Prop where
 D : T.D.ok
 P : T.P = (ofG (supG T.S)).1
 g : (ofG (supG T.S)).2 = 0
 len : (T.D.blocks.length : Int) = T.S.2.1
 h : 0 ≤ T.h ∧ T.h ≤ 1152921504606846976
 R : (T.R.length : Int) ≤ 4 * T.n
 ok : T.R.all okV = true
 nod : (T.pg.map (·.1)).Nodup
 pg : ∀ p ∈ T.pg, usableS T.P p.1 ∧ p.2.length = 256
 idle : T.busy = false → T.pg = []
def TM.mark (T : TM) : TM := { T with dead := T.dead || T.D.off }
def TM.told (T : TM) (e : Int) : TM := { T with dead := T.dead || e == 5 }
def TM.ends (T : TM) : TM := { T with busy := false, pg := [] }
def TM.page (T : TM) (i : Int) : List UInt8 := match T.pg.find? (·.1 == i) with | some p => p.2 | none => rdD T.D i
theorem pg_keys (pl : List Pg) : (pl.map Pg.kv).map (·.1) = (pl.map Pg.m).map (·.1) := by simp [List.map_map, Pg.kv, Pg.m, Function.comp_def]
theorem F60_ok {x dp N : Nat} {T : TM} {w : World} {F : Nat → Prop} (hh : Has [TxA x dp N T] w F) (hn : (T.pg.map (·.1)).Nodup) : F60 (some ⟨x, 0, none⟩) (fun _ w' => St F w w' [TxA x dp N T.ends]) w := by
 unfold F60
 obtain ⟨i, hp, s0⟩ := (St.init hh).tOpen
 simp only [deref_some']
 refine s0.S 0 rfl (by simp) trivial fun w1 s1 => ?_
 refine s1.L 0 rfl (p := some i.m) rfl ?_
 have hn0 : ((i.pl.map Pg.kv).map (·.1)).Nodup := by rw [pg_keys, hp.pl]; exact hn
 refine St.mrangeD (T := intKT) (s1.sel [6, 0, 1, 2, 3, 4, 5] 8) fun it w2 s2 => ?_
 refine loop_of (fun _ W => ∃ kv : List (Int × Value), (kv.map (·.1)).Nodup ∧ St F w W [MapDA intKT i.m it kv, BoxA x (storeC i.b dp T.S T.P false T.dead i.m), BoxA i.b [P0 i.g, P0 i.c], BoxA i.g (ringC dp 3 T.n T.h i.s), SlA 5 i.s (rcs i.xs), bts i.xs, CacheA i.c dp i.C]) (fun _ W => mapSz i.m W)
   ⟨_, hn0, s2⟩ ?_
 rintro _ W ⟨kv, hkn, s3⟩
 have hsz := s3.szD
 refine St.mnextD s3 (fun _ w' s4 => ?_) fun c en w' hc s4 => ?_
 · exact St.tClose (T := T.ends) (i := { i with pl := [] }) (s4.nobig.sel [2, 3, 4, 5, 6, 7, 1, 0] 8) ⟨hp.xs, rfl, hp.cc⟩
 · refine s4.mentryD fun en2 y hy hk _ => ?_
   refine ⟨y.1, hk, ?_⟩
   refine s4.L 1 rfl (p := some i.m) rfl ?_
   refine s4.mapDelD hy hkn fun w5 s5 => ⟨⟨_, ?_, s5⟩, ?_⟩
   · rw [eraseIdx_map]
     exact hkn.sublist (List.eraseIdx_sublist _ _)
   · rw [s5.szD, hsz, List.length_eraseIdx_of_lt hc]
     omega
theorem endsD {x dp N : Nat} {T : TM} {w w0 : World} {F0 : Nat → Prop} {L : List HA} {k : Pr} (h : St F0 w0 w (TxA x dp N T :: L)) (hn : (T.pg.map (·.1)).Nodup) (hk : ∀ w', St F0 w0 w' (TxA x dp N T.ends :: L) → k w') :
   callD Tryz.prog .returning 60 [P0 x] k w := by
 obtain ⟨G, H, _, g2, _, _, _, gc⟩ := h.call1
 refine CallsDIn.mono (F60_deferred _ .returning _ _ (F60_ok g2 hn)) ?_
 rintro e u' w' ⟨rfl, ⟨p, rfl, h'⟩⟩
 exact ⟨⟨_, rfl⟩, rfl, hk w' (gc _ _ h')⟩
theorem mayC {x dp N : Nat} {T : TM} {w w0 : World} {F0 : Nat → Prop} {L : List HA} {k : Int → Pr} (h : St F0 w0 w (TxA x dp N T :: DiskA dp T.D :: L)) (hd : T.D.ok) (hk : ∀ w', St F0 w0 w' (TxA x dp N T.mark :: DiskA dp T.D :: L) → k (mayE T.dead T.D) w') :
   callF Tryz.prog 59 [P0 x] [.c (.int .i64)] k w := by
 obtain ⟨i, hp, s0⟩ := h.tOpen
 obtain ⟨G, H, g2, _, _, _, gc⟩ := St.call [BoxA x (storeC i.b dp T.S T.P T.busy T.dead i.m), DiskA dp T.D] (s0.perm (m := BoxA x (storeC i.b dp T.S T.P T.busy T.dead i.m) :: DiskA dp T.D :: BoxA i.b [P0 i.g, P0 i.c] :: BoxA i.g (ringC dp 3 T.n T.h i.s) :: SlA 5 i.s (rcs i.xs) :: bts i.xs :: CacheA i.c dp i.C :: MapA intKT i.m (i.pl.map Pg.kv) :: bigA (i.pl.map Pg.A) :: L) (List.Perm.cons _ (bring_perm 7 _)))
 refine callF_of (V59 g2 hd) ?_
 rintro _ w1 ⟨rfl, s1⟩
 have s2 := gc _ _ s1
 refine hk w1 ((s2.perm (List.Perm.cons _ (bring_perm 7 (_ :: _ :: _ :: _ :: _ :: _ :: _ :: DiskA dp T.D :: L)).symm)).tClose (T := T.mark) (i := i) ⟨hp.xs, hp.pl, fun hd => hp.cc ?_⟩)
 have : (T.dead || T.D.off) = false := hd
 cases hx : T.dead <;> simp_all
theorem toldC {x dp N : Nat} {T : TM} {e : Int} {w w0 : World} {F0 : Nat → Prop} {L : List HA} {k : Int → Pr} (h : St F0 w0 w (TxA x dp N T :: L)) (hk : ∀ w', St F0 w0 w' (TxA x dp N (T.told e) :: L) → k e w') :
   callF Tryz.prog 109 [P0 x, iv e] [.c (.int .i64)] k w := by
 obtain ⟨i, hp, s0⟩ := h.tOpen
 obtain ⟨G, H, g1, g2, _, _, _, gc⟩ := s0.call1
 refine callF_of (V109 (e := e) g2) ?_
 rintro r w1 ⟨he, s1⟩
 rw [he]
 refine hk w1 ((gc _ _ s1).tClose (T := T.told e) (i := i) ⟨hp.xs, hp.pl, fun hd => hp.cc ?_⟩)
 have : (T.dead || e == 5) = false := hd
 cases hx : T.dead <;> simp_all
theorem lkp_pg (k : Int) : ∀ (pl : List Pg), (lkp k (pl.map Pg.kv) = none ∧ (pl.map Pg.m).find? (·.1 == k) = none) ∨ ∃ (j : Nat) (x : Pg), pl[j]? = some x ∧ x.k = k ∧ lkp k (pl.map Pg.kv) = some (slV x.s) ∧ (pl.map Pg.m).find? (·.1 == k) = some x.m
 | [] => .inl ⟨rfl, rfl⟩
 | x :: pl => by
   by_cases h : k = x.k
   · subst h
     exact .inr ⟨0, x, rfl, rfl, by simp [lkp, Pg.kv], by simp [Pg.m]⟩
   · have h' : (x.k == k) = false := beq_eq_false_iff_ne.2 fun e => h e.symm
     rcases lkp_pg k pl with ⟨h1, h2⟩ | ⟨j, y, h1, h2, h3, h4⟩
     · exact .inl ⟨by simp [lkp, Pg.kv, h]; exact h1, by rw [List.map_cons, List.find?_cons]; show (match (x.k == k) with | true => _ | false => _) = _; rw [h']; exact h2⟩
     · exact .inr ⟨j + 1, y, by simpa using h1, h2, by simp [lkp, Pg.kv, h]; exact h3, by rw [List.map_cons, List.find?_cons]; show (match (x.k == k) with | true => _ | false => _) = _; rw [h']; exact h4⟩
theorem ofG_ok {g : Geo} (h : (ofG g).2 = 0) : geoR g ∧ (planT g).2.2.2.2.2 ≤ g.1 ∧ g.1 ≤ 2048 ∧ (ofG g).1 = planT g := by
 unfold ofG at h ⊢
 by_cases hg : geoE g = 0
 · rw [if_pos hg]
   unfold geoE at hg
   by_cases h2 : geoR g ∧ (planT g).2.2.2.2.2 ≤ g.1 ∧ g.1 ≤ 2048
   · exact ⟨h2.1, h2.2.1, h2.2.2, rfl⟩
   · rw [if_neg h2] at hg; cases hg
 · rw [if_neg hg] at h; cases h
theorem usable_lt {T : TM} (ht : T.ok) {i : Int} (h : usableS T.P i) : 0 ≤ i ∧ i < T.D.blocks.length := by
 obtain ⟨⟨g1, g2, g3⟩, h2, h3, h4⟩ := ofG_ok ht.g
 rw [ht.P, h4] at h
 have hl := ht.len
 unfold planT at h h2
 unfold usableS at h
 dsimp only at h h2 g1 g2 g3
 omega
theorem CC.rd {N : Nat} {P : PlanT} {C : CM} {D : DM} (h : CC N P C D) (k : Int) : vis C D k (rdD D k) := by
 by_cases hk : ∀ x ∈ C.l, x.key ≠ k
 · exact .inr ⟨hk, rfl⟩
 · obtain ⟨x, hx⟩ := Classical.not_forall.1 hk
   obtain ⟨hx, hxk⟩ := Classical.not_imp.1 hx
   have hxk := Classical.not_not.1 hxk
   exact .inl ⟨x, hx, hxk, by rw [h.coh x hx (h.clean x hx), hxk]⟩
theorem clean_isD {C : CM} : (∀ x ∈ C.l, x.dirty = false) ↔ ∀ k, ¬ isD C k := by
 constructor
 · rintro h k ⟨x, hx, _, hd⟩
   rw [h x hx] at hd; cases hd
 · intro h x hx
   cases hd : x.dirty with
   | false => rfl
   | true => exact absurd ⟨x, hx, rfl, hd⟩ (h x.key)
theorem ComesQ.keys {C C' : CM} {D : DM} {k e : Int} {j : Nat} (hq : ComesQ C D k e C' j) : ∀ y ∈ C'.l, y.key = k ∨ ∃ z ∈ C.l, z.key = y.key := by
 intro y hy
 cases hq with
 | hit _ x h1 h2 =>
   rcases List.mem_or_eq_of_mem_set hy with h | rfl
   · exact .inr ⟨y, h, rfl⟩
   · exact .inl h2
 | full => exact .inr ⟨y, hy, rfl⟩
 | err => exact .inr ⟨y, hy, rfl⟩
 | more =>
   rcases List.mem_append.1 hy with h | h
   · exact .inr ⟨y, h, rfl⟩
   · rw [List.mem_singleton] at h; subst h; exact .inl rfl
 | swap =>
   rcases List.mem_append.1 hy with h | h
   · exact .inr ⟨y, List.mem_of_mem_eraseIdx h, rfl⟩
   · rw [List.mem_singleton] at h; subst h; exact .inl rfl
theorem CC.comes {N : Nat} {P : PlanT} {C C' : CM} {D : DM} {k e : Int} {j : Nat} (h : CC N P C D) (hD : D.ok) (ho : D.off = false) (hk : 0 ≤ k ∧ k < D.blocks.length) (hu : usableS P k) (hq : ComesQ C D k e C' j) : e = 0 ∧ CC (N + 1) P C' D := by
 have hpl : placeE D k = 0 := by unfold placeE; rw [ho, if_neg (by simp), if_neg (by omega)]
 have he : e = 0 := by
   cases hq with
   | hit => rfl
   | full no hf hd =>
     have h1 := h.room
     cases hl : C.l with
     | nil => rw [hl, h1] at hf; simp at hf
     | cons x l =>
       have h2 := hd x (by rw [hl]; simp)
       rw [h.clean x (by rw [hl]; simp)] at h2; cases h2
   | err no he => exact absurd hpl he
   | more => rfl
   | swap => rfl
 have h3 := hq.asked
 refine ⟨he, hq.ok h.ok hD, h3.2.trans h.room, clean_isD.2 fun i hi => clean_isD.1 h.clean i ((hq.isD i).1 hi), (hq.coh h.ok h.coh).1, by have := h.ask; rw [h3.1]; omega, fun y hy => by rcases hq.keys y hy with h | ⟨z, hz, he⟩; exact h ▸ hu; exact he ▸ h.use z hz⟩
theorem cacheRd {c dp N : Nat} {P : PlanT} {C : CM} {D : DM} {k : Int} {w w0 : World} {F0 : Nat → Prop} {L : List HA} {K : Sl × Int → Pr} (s0 : St F0 w0 w (CacheA c dp C :: DiskA dp D :: L)) (hc : CC N P C D) (hD : D.ok) (hw : D.wait.length ≤ 10000000) (hN : N ≤ 1000000000)
   (ho : D.off = false) (hk : 0 ≤ k ∧ k < D.blocks.length) (hu : usableS P k) (hK : ∀ t C' w', CC (N + 1) P C' D → St F0 w0 w' (SlA 1 t ((rdD D k).map ub) :: CacheA c dp C' :: DiskA dp D :: L) → K (t, 0) w') :
   callF Tryz.prog 108 [P0 c, iv k] [.c .slice, .c (.int .i64)] K w := by
 obtain ⟨G, H, g2, _, _, _, gc⟩ := St.call [CacheA c dp C, DiskA dp D] s0
 refine callF_of (C34 c dp C D k w G g2 hc.ok hD (by omega) (by have := hc.ask; omega)) ?_
 rintro ⟨t, e⟩ w1 ⟨C', out, hq, s1⟩
 dsimp only at hq s1
 have s1 := gc _ _ s1
 have h1 : e = 0 ∧ CC (N + 1) P C' D := by
   rcases hq with ⟨h1, _⟩ | ⟨_, j, h2, _⟩
   · exact absurd hk h1
   · exact hc.comes hD ho hk hu h2
 obtain ⟨rfl, h2⟩ := h1
 have h3 := ReadQ.val hq hc.ok hD hc.coh (hc.rd k)
 subst h3
 exact hK t C' w1 h2 s1
theorem cacheWr {c dp N M : Nat} {P : PlanT} {C : CM} {D : DM} {k : Int} {t : Sl} {l : List UInt8} {w w0 : World} {F0 : Nat → Prop} {L : List HA} {K : Int → Pr} (s0 : St F0 w0 w (CacheA c dp C :: DiskA dp D :: SlA 1 t (l.map ub) :: L)) (hc : CC N P C D) (hD : DB M D) (hM : M ≤ 1000000) (hN : N ≤ 1000000000)
   (ho : D.off = false) (hk : 0 ≤ k ∧ k < D.blocks.length) (hu : usableS P k) (hl : l.length = 256)
   (hK : ∀ C1 w1, St F0 w0 w1 (CacheA c dp C1 :: DiskA dp D :: SlA 1 t (l.map ub) :: L) → callF Tryz.prog 119 [P0 c] [.c (.int .i64)] (fun e w' => e = (writeD D k l).1 ∧ ∃ C2, ((writeD D k l).1 = 0 → CC (N + 1) P C2 (writeD D k l).2) ∧ St F0 w0 w' (CacheA c dp C2 :: DiskA dp (writeD D k l).2 :: SlA 1 t (l.map ub) :: L)) w1 → K 0 w1) :
   callF Tryz.prog 118 [P0 c, iv k, iv 0, slV t] [.c (.int .i64)] K w := by
 obtain ⟨G, H, g2, g3, g4, _, gc⟩ := St.call [CacheA c dp C, DiskA dp D] s0
 have hwl := hD.bd.wait
 refine callF_of (C33 c dp C D k 0 t l w G g2 (Rd.own g3 g4) hc.ok hD.ok (by omega) (by have := hc.ask; omega)) ?_
 rintro e w1 ⟨C1, hq, s1⟩
 have s1 := gc _ _ s1
 have hok := hq.ok hc.ok hD.ok
 have hd := hq.isD
 have hcoh := hq.coh hc.ok hD.ok hc.coh
 have he : e = 0 ∧ C1.room = 256 ∧ (∀ y ∈ C1.l, usableS P y.key) ∧ ∃ x ∈ C1.l, x.key = k ∧ x.b = l := by
   rcases hq with ⟨h1, _⟩ | ⟨_, h1, _⟩ | ⟨_, _, C0, j, h2, h3⟩
   · exact absurd hk h1
   · exact absurd ⟨by omega, by omega⟩ h1
   · obtain ⟨rfl, h4⟩ := hc.comes hD.ok ho hk hu h2
     rcases h3 with ⟨h3, _⟩ | ⟨_, _, x, hx, rfl⟩
     · rcases h3 with h3 | h3
       · exact absurd rfl h3
       · rw [h3] at hl; cases hl
     · obtain ⟨x', hx', hxk⟩ := h2.at
       rw [hx] at hx'; cases hx'
       refine ⟨rfl, h4.room, fun y hy => ?_, _, mem_set_self _ hx, hxk, ?_⟩
       · rcases List.mem_or_eq_of_mem_set hy with h | rfl
         · exact h4.use y h
         · exact h4.use x (List.mem_of_getElem? hx)
       have hxl := h4.ok.len x (List.mem_of_getElem? hx)
       show lay x.b 0 l = l
       unfold lay
       rw [List.take_zero, List.nil_append, List.drop_eq_nil_of_le (by omega), List.append_nil]
 obtain ⟨rfl, hroom, huse, x, hx, hxk, hxb⟩ := he
 have hask := hok.2
 have hok := hok.1
 refine hK C1 w1 s1 ?_
 have hne : l ≠ [] := fun h => by rw [h] at hl; cases hl
 have hdk : dirtyK C1 = [k] := by
   have h1 : ∀ q, q ∈ dirtyK C1 ↔ q = k := fun q => by
     rw [mem_dirtyK, hd]
     exact ⟨fun h => h.elim (fun h => absurd h (clean_isD.1 hc.clean q)) fun h => h.2.2, fun h => .inr ⟨rfl, hne, h⟩⟩
   have h2 := dirtyK_nodup hok.nod
   cases hds : dirtyK C1 with
   | nil => have := (h1 k).2 rfl; rw [hds] at this; simp at this
   | cons a ds =>
     rw [hds] at h1 h2
     have ha := (h1 a).1 (by simp)
     subst ha
     cases ds with
     | nil => rfl
     | cons b ds =>
       have hb := (h1 b).1 (by simp)
       subst hb
       simp at h2
 obtain ⟨G, H, g2, _, _, _, gc⟩ := St.call [CacheA c dp C1, DiskA dp D] s1
 have hlen : C1.l.length ≤ 1000 := by have := hok.le; omega
 refine callF_of (C42 c dp C1 D w1 G g2 hok.nod hlen hD.ok M hD.bd hM) ?_
 rw [hdk]
 have hba : bytesAt C1 k = l := by rw [← hxk, bytesAt_of hok hx, hxb]
 have hcg : cleanGo [k] C1 D = if (writeD D k l).1 ≠ 0 then ((writeD D k l).1, C1, (writeD D k l).2) else (0, setClean C1 k, (writeD D k l).2) := by
   rw [cleanGo_cons, hba]; rfl
 rw [hcg]
 rintro e w2 ⟨rfl, s2⟩
 have s2 := gc _ _ s2
 by_cases hw : (writeD D k l).1 ≠ 0
 · rw [if_pos hw] at s2 ⊢
   exact ⟨rfl, C1, fun h => absurd h hw, s2⟩
 · rw [if_neg hw] at s2 ⊢
   have hw := Classical.not_not.1 hw
   refine ⟨hw.symm, _, fun _ => ?_, s2⟩
   have hlen2 : (writeD D k l).2.blocks.length = D.blocks.length := (writeD_ok hD.ok hD.bd k l).2.2
   have hrd : ∀ b, rdD (writeD D k l).2 b = if k = b then l else rdD D b := by
     rcases write_cases hD.ok ho hk hl with ⟨_, _, h⟩ | ⟨h, _⟩
     · exact h
     · rw [hw] at h; cases h
   have hcl : ∀ y ∈ (setClean C1 k).l, y.dirty = false ∧ ∃ z ∈ C1.l, z.key = y.key ∧ z.b = y.b := by
     intro y hy
     obtain ⟨z, hz, rfl⟩ := List.mem_map.1 hy
     by_cases hzk : z.key = k
     · rw [if_pos hzk]; exact ⟨rfl, z, hz, rfl, rfl⟩
     · rw [if_neg hzk]
       refine ⟨?_, z, hz, rfl, rfl⟩
       cases hzd : z.dirty with
       | false => rfl
       | true =>
         have := mem_dirtyK.2 ⟨z, hz, rfl, hzd⟩
         rw [hdk, List.mem_singleton] at this
         exact absurd this hzk
   refine ⟨by rw [hlen2]; exact setClean_ok hok k, hroom, fun y hy => (hcl y hy).1, fun y hy _ => ?_, by have := hc.ask; show C1.asked ≤ _; omega, fun y hy => let ⟨_, z, hz, h1, _⟩ := hcl y hy; h1 ▸ huse z hz⟩
   obtain ⟨_, z, hz, h1, h2⟩ := hcl y hy
   rw [hrd, ← h1, ← h2]
   by_cases hzk : z.key = k
   · rw [if_pos hzk.symm, key_uniq hok hz hx (hzk.trans hxk.symm), hxb]
   · rw [if_neg fun h => hzk h.symm]
     refine hcoh.1 z hz ?_
     cases hzd : z.dirty with
     | false => rfl
     | true =>
       have := mem_dirtyK.2 ⟨z, hz, rfl, hzd⟩
       rw [hdk, List.mem_singleton] at this
       exact absurd this hzk
end Go.Proofs

set_option maxRecDepth 20000
namespace Go.Proofs
open Go.Eng
section
variable {x dp N : Nat} {T : TM} {w w0 : World} {F0 : Nat → Prop} {L : List HA}
theorem pgAt {pl : List Pg} {j : Nat} {p : Pg} {M : List HA} (hs : St F0 w0 w (bigA (pl.map Pg.A) :: M)) (hj : pl[j]? = some p) : BS w p.s p.b ∧ p.s.len ≤ p.s.cap := by
 have h1 := (hs.pick (i := j) (A := p.A) (by simp [hj])).sl
 exact ⟨h1.bs, h1.le⟩
theorem pageC {i : Int} {K : Sl × Int → Pr} (h : St F0 w0 w (TxA x dp N T :: DiskA dp T.D :: L)) (ht : T.ok) (hd : T.dead = false) (ho : T.D.off = false) (hu : usableS T.P i) (hw : T.D.wait.length ≤ 10000000) (hN : N ≤ 1000000000)
   (hK : ∀ t w', BS w' t (T.page i) → t.len ≤ t.cap → St F0 w0 w' (TxA x dp (N + 1) T :: DiskA dp T.D :: L) → K (t, 0) w') : callF Tryz.prog 81 [P0 x, iv i] [.c .slice, .c (.int .i64)] K w := by
 refine callF_of (post := K) (F81_calls _ _ _ _ ?_) fun _ _ h => h
 unfold F81
 obtain ⟨I, hp, s0⟩ := h.tOpen
 rw [deref_some']
 refine s0.L 0 rfl (p := some I.m) rfl ?_
 have hr := usable_lt ht hu
 have cc := hp.cc hd
 refine St.mapAt (T := intKT) (s0.bring 6) (k := i) (fun v hv => ?_) fun hv => ?_
 · rcases lkp_pg i I.pl with ⟨h1, _⟩ | ⟨j, p, h1, h2, h3, h4⟩
   · rw [h1] at hv; cases hv
   · rw [h3, Option.some.injEq] at hv
     refine ⟨p.s, hv.symm, br_t rfl ?_⟩
     have hb := pgAt (s0.bring 7) h1
     have hpg : T.page i = p.b := by unfold TM.page; rw [← hp.pl, h4]; rfl
     refine hK p.s w (by rw [hpg]; exact hb.1) hb.2 (s0.tClose (hp.mono (by omega)))
 · rcases lkp_pg i I.pl with ⟨_, h1⟩ | ⟨j, p, h1, h2, h3, h4⟩
   · refine ⟨⟨none, 0, 0⟩, rfl, br_f rfl ?_⟩
     have hpg : T.page i = rdD T.D i := by unfold TM.page; rw [← hp.pl, h1]
     rw [deref_some']
     refine s0.L 0 rfl (p := some ⟨I.b, 0, none⟩) rfl ?_
     rw [deref_some']
     refine s0.L 1 rfl (p := some ⟨I.c, 0, none⟩) rfl ?_
     have s1 := (s0.bring 8).bring 6
     refine cacheRd s1 cc ht.D hw hN ho hr hu fun t C' w1 hc s2 => ?_
     have s3 := s2.sel [3, 4, 5, 6, 7, 1, 8, 9, 0, 2] 10
     have s4 : St F0 w0 w1 (TxA x dp (N + 1) T :: SlA 1 t ((rdD T.D i).map ub) :: DiskA dp T.D :: L) := St.tClose (i := { I with C := C' }) s3 ⟨hp.xs, hp.pl, fun _ => hc⟩
     refine toldC s4 fun w2 s5 => ?_
     have e0 : T.told 0 = T := by unfold TM.told; simp
     rw [e0] at s5
     have hb := (s5.bring 1).sl
     exact hK t w2 (by rw [hpg]; exact hb.bs) hb.le (s5.sel [0, 2] 3)
   · rw [h3] at hv; cases hv
theorem TM.page_len (ht : T.ok) {i : Int} (hu : usableS T.P i) : (T.page i).length = 256 := by
 have hr := usable_lt ht hu
 unfold TM.page
 cases hf : T.pg.find? (·.1 == i) with
 | none => exact rdD_len ht.D hr.1 hr.2
 | some p => exact (ht.pg p (List.mem_of_find?_eq_some hf)).2
def TM.read (T : TM) (i o n : Int) : Int × List UInt8 :=
 if mayE T.dead T.D ≠ 0 then (mayE T.dead T.D, []) else if withinS T.P i o n then (0, ((T.page i).take (o + n).toNat).drop o.toNat) else (1, [])
theorem may0 {T : TM} (h : mayE T.dead T.D = 0) : T.dead = false ∧ T.D.off = false ∧ T.mark = T := by
 unfold mayE at h
 cases h1 : T.dead <;> cases h2 : T.D.off <;> simp [h1, h2] at h
 refine ⟨rfl, rfl, ?_⟩
 unfold TM.mark
 rw [h1, h2, Bool.or_false, ← h1]
theorem withinC {T' : TM} {i o n : Int} {K : Bool → Pr} (h : St F0 w0 w (TxA x dp N T' :: L)) (hK : ∀ w', St F0 w0 w' (TxA x dp N T' :: L) → K (decide (withinS T'.P i o n)) w') : callF Tryz.prog 80 [P0 x, iv i, iv o, iv n] [.c .bool] K w := by
 obtain ⟨I, hp, s0⟩ := h.tOpen
 refine callF_of (V80 s0.box) ?_
 rintro _ w1 ⟨rfl, g⟩
 exact hK w1 ((s0.grow g).tClose hp)
theorem V27 {i o n : Int} {F : Nat → Prop} (hh : Has [TxA x dp N T, DiskA dp T.D] w F) (ht : T.ok) (hw : T.D.wait.length ≤ 10000000) (hN : N ≤ 1000000000) :
   Calls Tryz.prog 27 #[P0 x, iv i, iv o, iv n] w (RetT [.c .slice, .c (.int .i64)] fun r w' => r.2 = (T.read i o n).1 ∧ St F w w' [TxA x dp (N + 1) T.mark, DiskA dp T.D, SlA 1 r.1 ((T.read i o n).2.map ub)]) := by
 refine F27_calls _ _ _ _ _ _ ?_
 unfold F27 TM.read
 refine mayC (St.init hh) ht.D fun w1 s1 => ?_
 refine br_of (fun h => ?_) fun h => ?_
 · rw [if_pos (by simpa using h)]
   exact ⟨rfl, ((s1.tMono (M := N + 1) (by omega)).nosl 1).sel [1, 2, 0] 3⟩
 have h : mayE T.dead T.D = 0 := by simpa using h
 rw [if_neg (by simpa using h)]
 obtain ⟨hd, ho, hm⟩ := may0 h
 rw [hm] at s1 ⊢
 refine withinC s1 fun w2 s2 => ?_
 by_cases hwi : withinS T.P i o n
 rotate_left
 · rw [if_neg hwi]
   exact br_t (by simp [hwi]) ⟨rfl, ((s2.tMono (M := N + 1) (by omega)).nosl 1).sel [1, 2, 0] 3⟩
 rw [if_pos hwi]
 refine br_f (by simp [hwi]) ?_
 have hpl := TM.page_len ht hwi.1
 refine pageC s2 ht hd ho hwi.1 hw hN fun t w3 hb hle s3 => br_f rfl ?_
 obtain ⟨hu, h1, h2, h3, h4⟩ := hwi
 have htl := hb.len
 rw [w64_of (n := o + n) ⟨by omega, by omega⟩]
 dsimp only
 refine slc_bsc hb hle h1 (by omega) (by omega) fun r hr hrc => ?_
 have hrl := hr.len
 rw [List.length_drop, List.length_take] at hrl
 refine callF_of (C15 r _ w3 hr (by omega)) ?_
 rintro u w4 ⟨hu, _, g5⟩
 exact ⟨rfl, (s3.mksl g5 hu).sel [1, 2, 0] 3⟩
def putP (i : Int) (b : List UInt8) : List (Int × List UInt8) → List (Int × List UInt8)
 | [] => [(i, b)]
 | p :: l => if p.1 = i then (i, b) :: l else p :: putP i b l
theorem putP_set (i : Int) (b : List UInt8) : ∀ (l : List (Int × List UInt8)) (j : Nat) (u : List UInt8), l[j]? = some (i, u) → (∀ k x, k < j → l[k]? = some x → x.1 ≠ i) → putP i b l = l.set j (i, b)
 | [], _, _, h, _ => by simp at h
 | p :: l, 0, u, h, _ => by simp at h; subst h; simp [putP]
 | p :: l, j + 1, u, h, hn => by
   have := hn 0 p (by omega) rfl
   rw [putP, if_neg this, putP_set i b l j u (by simpa using h) fun k x hk hx => hn (k + 1) x (by omega) (by simpa using hx), List.set_cons_succ]
theorem putP_new (i : Int) (b : List UInt8) : ∀ (l : List (Int × List UInt8)), i ∉ l.map (·.1) → putP i b l = l ++ [(i, b)]
 | [], _ => rfl
 | p :: l, h => by
   simp only [List.map_cons, List.mem_cons, not_or] at h
   rw [putP, if_neg fun e => h.1 e.symm, putP_new i b l h.2]; rfl
def TM.write (T : TM) (i o : Int) (l : List UInt8) : Int × TM :=
 if mayE T.dead T.D ≠ 0 then (mayE T.dead T.D, T.mark) else if T.busy = false then (100, T) else if withinS T.P i o l.length then (0, if l = [] then T else { T with pg := putP i (lay (T.page i) o.toNat l) T.pg }) else (1, T)
theorem V31 {i o : Int} {p : Sl} {l : List UInt8} {F : Nat → Prop} (hh : Has [TxA x dp N T, DiskA dp T.D] w F) (ht : T.ok) (hw : T.D.wait.length ≤ 10000000) (hN : N ≤ 1000000000) (hb : Rd w F p l) :
   Calls Tryz.prog 31 #[P0 x, iv i, iv o, slV p] w (RetT [.c (.int .i64)] fun r w' => r = (T.write i o l).1 ∧ St F w w' [TxA x dp (N + 1) (T.write i o l).2, DiskA dp T.D]) := by
 refine F31_calls _ _ _ _ _ _ ?_
 unfold F31 TM.write
 have hpl := hb.bs.len
 refine mayC (St.init hh) ht.D fun w1 s1 => ?_
 refine br_of (fun h => ?_) fun h => ?_
 · rw [if_pos (by simpa using h)]
   exact ⟨rfl, s1.tMono (M := N + 1) (by omega)⟩
 have h : mayE T.dead T.D = 0 := by simpa using h
 rw [if_neg (by simpa using h)]
 obtain ⟨hd, ho, hm⟩ := may0 h
 rw [hm] at s1
 obtain ⟨I, hp, s2⟩ := s1.tOpen
 rw [deref_some']
 refine s2.L 0 rfl (p := T.busy) rfl ?_
 refine br_of (fun h => ?_) fun h => ?_
 · rw [if_pos (by simpa using h)]
   exact ⟨rfl, s1.tMono (M := N + 1) (by omega)⟩
 rw [if_neg (by simpa using h), hpl]
 refine withinC s1 fun w2 s2 => ?_
 by_cases hwi : withinS T.P i o l.length
 rotate_left
 · rw [if_neg hwi]
   exact br_t (by simp [hwi]) ⟨rfl, s2.tMono (M := N + 1) (by omega)⟩
 rw [if_pos hwi]
 refine br_f (by simp [hwi]) ?_
 by_cases hl : l = []
 · rw [if_pos hl]
   exact br_t (by simp [hl]) ⟨rfl, s2.tMono (M := N + 1) (by omega)⟩
 rw [if_neg hl]
 refine br_f (by simp [hl]) ?_
 have hgl := TM.page_len ht hwi.1
 refine pageC s2 ht hd ho hwi.1 hw hN fun t w3 hb3 hle s3 => br_f rfl ?_
 obtain ⟨hu, h1, h2, h3, h4⟩ := hwi
 have htl := hb3.len
 refine callF_of (C15 t _ w3 hb3 (by omega)) ?_
 rintro u w4 ⟨hu4, _, g5⟩
 have s4 := s3.mksl g5 hu4
 obtain ⟨o, rfl⟩ := Int.eq_ofNat_of_zero_le h1
 have hul := slA_len1 s4.sl
 rw [List.length_map] at hul
 refine slc_sub (by omega) ?_
 refine cpy_sub s4 (hb.at s4) (by omega) fun w5 s5 => ?_
 rw [Int.toNat_natCast]
 obtain ⟨I, hp, s6⟩ := (s5.bring 1).tOpen
 rw [deref_some']
 refine s6.L 0 rfl (p := some I.m) rfl ?_
 have hkv : ∀ {j : Nat} {v : Value}, (I.pl.map Pg.kv)[j]? = some (i, v) → ∃ q : Pg, I.pl[j]? = some q ∧ q.k = i := fun {j v} hj => by
   rw [List.getElem?_map] at hj
   obtain ⟨q, h1, h2⟩ := Option.map_eq_some_iff.1 hj
   exact ⟨q, h1, congrArg Prod.fst h2⟩
 refine St.mapPut (T := intKT) (k := i) (s6.bring 6) (fun j v w7 hj hn s7 => ?_) fun hno w7 s7 => ?_
 · obtain ⟨q, hq, hqk⟩ := hkv hj
   have hjl := (split_at hq).2
   have hjm : T.pg[j]? = some (i, q.b) := by rw [← hp.pl, List.getElem?_map, hq, ← hqk]; rfl
   rw [putP_set i _ T.pg j q.b hjm fun k y hk hy => by
     rw [← hp.pl, List.getElem?_map] at hy
     obtain ⟨z, h1, rfl⟩ := Option.map_eq_some_iff.1 hy
     exact hn k z.kv hk (by rw [List.getElem?_map, h1]; rfl)]
   have s8 := (s7.bring 7).pick (i := j) (A := q.A) (by simp [hq])
   have s9 := s8.sel [9, 1, 2, 3, 4, 5, 6, 7, 8, 10] 11
   have s10 := St.unpick (A := SlA 1 u ((lay (T.page i) o l).map ub)) s9 (by simpa using hjl)
   have e1 : (I.pl.map Pg.A).set j (SlA 1 u ((lay (T.page i) o l).map ub)) = (I.pl.set j ⟨i, u, lay (T.page i) o l⟩).map Pg.A := by rw [List.map_set]; rfl
   have e2 : (I.pl.map Pg.kv).set j (i, slV u) = (I.pl.set j ⟨i, u, lay (T.page i) o l⟩).map Pg.kv := by rw [List.map_set]; rfl
   rw [e1, e2] at s10
   exact ⟨rfl, St.tClose (T := { T with pg := _ }) (i := { I with pl := I.pl.set j ⟨i, u, lay (T.page i) o l⟩ }) (s10.sel [2, 3, 4, 5, 6, 7, 1, 0, 8] 9) ⟨hp.xs, by show _ = T.pg.set j _; rw [← hp.pl, List.map_set]; rfl, hp.cc⟩⟩
 · rw [pg_keys, hp.pl] at hno
   rw [putP_new i _ T.pg hno]
   have s8 := (s7.sel [8, 7, 0, 1, 2, 3, 4, 5, 6, 9] 10).push
   have e1 : I.pl.map Pg.A ++ [SlA 1 u ((lay (T.page i) o l).map ub)] = (I.pl ++ [(⟨i, u, lay (T.page i) o l⟩ : Pg)]).map Pg.A := by rw [List.map_append]; rfl
   have e2 : I.pl.map Pg.kv ++ [(i, slV u)] = (I.pl ++ [(⟨i, u, lay (T.page i) o l⟩ : Pg)]).map Pg.kv := by rw [List.map_append]; rfl
   rw [e1, e2] at s8
   exact ⟨rfl, St.tClose (T := { T with pg := _ }) (i := { I with pl := I.pl ++ [⟨i, u, lay (T.page i) o l⟩] }) (s8.sel [2, 3, 4, 5, 6, 7, 1, 0, 8] 9) ⟨hp.xs, by show _ = T.pg ++ _; rw [← hp.pl, List.map_append]; rfl, hp.cc⟩⟩
end
end Go.Proofs

set_option maxRecDepth 100000
namespace Go.Proofs
open Go.Eng
def an11 : An := (.sq .z (.sq .z (.sq (.sq (.jn [(21, .c .bool)] .z) (.br (.sq .z .z) .z)) (.sq .z (.sq (.sq (.jn [(64, .c .bool)] .z) (.br (.sq .z .z) .z)) (.sq .z (.sq (.sq (.jn [(75, .c .bool)] .z) (.br (.sq .z .z) .z)) (.sq .z (.sq .z .z)))))))))
def F11  (Q : Bool → Pr) : Pr :=
 callF Tryz.prog 44 [(iv 18)] [.c .ptr, .c I64] fun (t7 : (Option Addr) × Int) =>
 jn (S:=Bool) (fun R =>
 br (t7.2 != 0) (
 R true) (
 owe True <|
 br (Option.isNone t7.1) (
 R true) (
 callF Tryz.prog 47 [] [.agg [I64, I64, I64, I64]] fun (t18 : Int × Int × Int × Int) =>
 callF Tryz.prog 37 [(.pointer t7.1), (.agg #[(iv t18.1), (iv t18.2.1), (iv t18.2.2.1), (iv t18.2.2.2)])] [.c I64] fun (t19 : Int) =>
 R ((t19 != 0))))) fun s =>
 br s (
 Q false) (
 callF Tryz.prog 24 [(.pointer t7.1)] [.c .ptr, .c I64] fun (t24 : (Option Addr) × Int) =>
 jn (S:=Bool) (fun R_1 =>
 br (t24.2 != 0) (
 R_1 true) (
 owe True <|
 br (Option.isNone t24.1) (
 R_1 true) (
 callF Tryz.prog 28 [(.pointer t24.1)] [.c I64] fun (t35 : Int) =>
 br (t35 != 0) (
 R_1 true) (
 nw (.cells #[(uv 97), (uv 98)] 5) fun r =>
 markS (bA r 0) <|
 callF Tryz.prog 31 [(.pointer t24.1), (iv 2), (iv 0), (.slice (some (bA r 0)) 2 2)] [.c I64] fun (t42 : Int) =>
 br (t42 != 0) (
 R_1 true) (
 callF Tryz.prog 20 [(.pointer t24.1)] [.c I64] fun (t47 : Int) =>
 br (t47 != 0) (
 R_1 true) (
 callF Tryz.prog 19 [(.pointer t24.1)] [.c I64] fun (t52 : Int) =>
 br (t52 != 2) (
 R_1 true) (
 callF Tryz.prog 22 [(.pointer t7.1), (.slice none 0 0)] [.c I64] fun (t57 : Int) =>
 br (t57 != 0) (
 R_1 true) (
 callF Tryz.prog 23 [(.pointer t7.1)] [.c I64] fun (t62 : Int) =>
 R_1 ((t62 != 0)))))))))) fun s_1 =>
 br s_1 (
 Q false) (
 callF Tryz.prog 24 [(.pointer t7.1)] [.c .ptr, .c I64] fun (t67 : (Option Addr) × Int) =>
 jn (S:=Bool) (fun R_2 =>
 br (t67.2 != 0) (
 R_2 true) (
 owe True <|
 R_2 ((Option.isNone t67.1)))) fun s_2 =>
 br s_2 (
 Q false) (
 callF Tryz.prog 27 [(.pointer t67.1), (iv 2), (iv 0), (iv 3)] [.c .slice, .c I64] fun (t78 : Sl × Int) =>
 br (t78.2 == 0) (
 nw (.cells #[(uv 97), (uv 98), (uv 0)] 5) fun r_1 =>
 callF Tryz.prog 26 [(slV t78.1), (.slice (some ⟨r_1, 0, none⟩) 3 3)] [.c .bool] fun (t86 : Bool) =>
 Q t86) (
 Q false))))
theorem F11_calls  (Q : Bool → Pr) (w : World) (h : F11 Q w) : Calls Tryz.prog 11 #[] w (RetT [.c .bool] Q) := cF (an := an11) Tryz.func11 (by kernel_rfl) h
end Go.Proofs

set_option maxRecDepth 20000
namespace Go.Proofs
open Go.Eng
def TM.changed (T : TM) : List Int := if T.busy then sortI (T.pg.map (·.1)) else []
theorem changed_len (T : TM) : T.changed.length ≤ T.pg.length := by
 unfold TM.changed
 split
 · rw [(sortI_perm _).length_eq, List.length_map]; exact Nat.le_refl _
 · simp
theorem nodup_range {l : List Int} {n : Nat} (h : l.Nodup) (hl : ∀ i ∈ l, 0 ≤ i ∧ i < n) : l.length ≤ n := by
 have h1 : (l.map Int.toNat).Nodup := by
   refine List.pairwise_map.2 (h.imp_of_mem fun {a b} ha hb hne e => hne ?_)
   have := hl a ha; have := hl b hb; omega
 have := nodup_le h1 (n := n) fun j hj => by
   obtain ⟨i, hi, rfl⟩ := List.mem_map.1 hj
   have := hl i hi; omega
 rwa [List.length_map] at this
theorem TM.ok.pgl {T : TM} (ht : T.ok) : T.pg.length ≤ 2048 := by
 have h := nodup_range ht.nod (n := T.D.blocks.length) fun i hi => by
   obtain ⟨p, hp, rfl⟩ := List.mem_map.1 hi
   exact usable_lt ht (ht.pg p hp).1
 rw [List.length_map] at h
 have := ht.D.le
 omega
section
variable {x dp N : Nat} {T : TM} {w w0 : World} {F0 : Nat → Prop} {L : List HA}
theorem changedC {K : Sl → Pr} (h : St F0 w0 w (TxA x dp N T :: L)) (ht : T.ok) (hK : ∀ t w', St F0 w0 w' (SlA 1 t (ints T.changed) :: TxA x dp N T :: L) → K t w') : callF Tryz.prog 55 [P0 x] [.c .slice] K w := by
 refine callF_of (post := K) (F55_calls _ _ _ ?_) fun _ _ h => h
 unfold F55
 obtain ⟨I, hp, s0⟩ := h.tOpen
 refine jn_of (fun c W => c = !T.busy ∧ W = w) ?_ ?_
 · refine callF_of (V56 s0.box) ?_
   rintro _ _ ⟨rfl, rfl⟩
   refine br_f rfl ?_
   rw [deref_some']
   exact s0.L 0 rfl (p := T.busy) rfl ⟨rfl, rfl⟩
 rintro _ _ ⟨rfl, rfl⟩
 refine br_of (fun hb => ?_) fun hb => ?_
 · have hb : T.busy = false := by simpa using hb
   have h1 := h.nosl 1
   refine hK _ _ ?_
   unfold TM.changed
   rw [hb]
   exact h1
 have hb : T.busy = true := by simpa using hb
 rw [deref_some']
 refine s0.L 0 rfl (p := some I.m) rfl ?_
 obtain ⟨G, H, _, g2, _⟩ := (s0.bring 6).call1
 have hk : ((I.pl.map Pg.kv).map (·.1)) = T.pg.map (·.1) := by rw [pg_keys, hp.pl]
 refine callF_of (V106 g2 (by rw [hk]; exact ht.nod)) ?_
 rintro v w1 ⟨g1, M, hM, hMW⟩
 rw [hk] at hM
 have hpl := ht.pgl
 refine callF_of (C65 hM w1 hMW (by rw [List.length_map]; omega)) ?_
 rintro t w2 ⟨hs, g3⟩
 refine hK t w2 ?_
 unfold TM.changed
 rw [hb, if_pos rfl]
 exact (h.grow g1).mksl g3 hs
end
end Go.Proofs

set_option maxRecDepth 20000
namespace Go.Proofs
open Go.Eng
section
variable {F0 : Nat → Prop} {w0 w : World} {L : List HA}
theorem elI {s : Sl} {xs : List Int} {j : Nat} {x : Int} {k : Int → Pr} (h : St F0 w0 w (SlA 1 s (ints xs) :: L)) (hx : xs[j]? = some x) (hk : k x w) : el s (j : Int) 1 (fun a => ldC (.int .i64) a k) w := by
 have hlt := (split_at hx).2
 refine h.elA (by unfold ints; rw [List.length_map]; exact hlt) fun ad ha => ?_
 obtain ⟨ad', h1, h2⟩ := h.get (i := j) (c := .int .i64) (p := x) (k := k) (by unfold ints; rw [List.getElem?_map, hx]; rfl) hk
 rw [ha] at h1; cases h1
 rw [Nat.mul_one]; exact h2
end
def TM.patV (T : TM) : List Rv := T.changed.flatMap fun i => cutV i (rdD T.D i) (T.page i)
theorem cutV_len (i : Int) (o n : List UInt8) : (cutV i o n).length ≤ 6 := pieces_len i o n 6
theorem changed_mem {T : TM} {i : Int} (h : i ∈ T.changed) : T.busy = true ∧ ∃ p ∈ T.pg, p.1 = i := by
 unfold TM.changed at h
 split at h
 · rename_i hb
   obtain ⟨p, hp, hpi⟩ := List.mem_map.1 ((sortI_perm _).subset h)
   exact ⟨hb, p, hp, hpi⟩
 · cases h
section
variable {x dp N : Nat} {T : TM} {w w0 : World} {F0 : Nat → Prop} {L : List HA}
theorem patC {K : Sl × Int → Pr} (h : St F0 w0 w (TxA x dp N T :: DiskA dp T.D :: L)) (ht : T.ok) (hd : T.dead = false) (ho : T.D.off = false) (hw : T.D.wait.length ≤ 10000000) (hN : N ≤ 100000000)
   (hK : ∀ t ys w', ys.map rv = T.patV → St F0 w0 w' (SlA 5 t (rcs ys) :: bts ys :: TxA x dp (N + 2048) T :: DiskA dp T.D :: L) → K (t, 0) w') : callF Tryz.prog 61 [P0 x] [.c .slice, .c (.int .i64)] K w := by
 refine callF_of (post := K) (F61_calls _ _ _ ?_) fun _ _ h => h
 unfold F61
 have hcl := changed_len T
 have hpl := ht.pgl
 refine changedC h ht fun t w1 s1 => ?_
 have hmem : ∀ i ∈ T.changed, ∃ p ∈ T.pg, p.1 = i := fun i hi => (changed_mem hi).2
 obtain ⟨ch, hch⟩ : ∃ ch, T.changed = ch := ⟨_, rfl⟩
 have hpat : T.patV = ch.flatMap fun i => cutV i (rdD T.D i) (T.page i) := by unfold TM.patV; rw [hch]
 rw [hch] at s1 hcl hmem
 have htl := slA_len1 s1.sl
 unfold ints at htl
 rw [List.length_map] at htl
 refine loop_of (fun c W => ∃ (j : Nat) (ys : List Rc), c.2 = j ∧ j ≤ ch.length ∧ ys.length ≤ 6 * j ∧ ys.map rv = (ch.take j).flatMap (fun i => cutV i (rdD T.D i) (T.page i)) ∧ St F0 w0 W (SlA 1 t (ints ch) :: SlA 5 c.1 (rcs ys) :: bts ys :: TxA x dp (N + j) T :: DiskA dp T.D :: L)) (fun c _ => ch.length - c.2.toNat)
   ⟨0, [], rfl, by omega, by simp, by simp, ((s1.nobig).nosl 5).sel [2, 0, 1, 3, 4] 5⟩ ?_
 rintro ⟨q, z⟩ W ⟨j, ys, rfl, hj, hyl, hys, s2⟩
 dsimp only at s2 ⊢
 refine br_of (fun hlt => ?_) fun hge => ?_
 · have hlt : j < ch.length := by simpa [htl] using hlt
   have hx : ch[j]? = some ch[j] := by simp [hlt]
   refine elI s2 hx ?_
   obtain ⟨p0, hp0, hpi⟩ := hmem _ (List.getElem_mem hlt)
   generalize ch[j] = i at hx hpi
   have hu : usableS T.P i := by rw [← hpi]; exact (ht.pg p0 hp0).1
   have hr := usable_lt ht hu
   obtain ⟨I, hp, s3⟩ := (s2.sel [3, 0, 1, 2, 4] 5).tOpen
   have cc := hp.cc hd
   rw [deref_some']
   refine s3.L 0 rfl (p := some ⟨I.b, 0, none⟩) rfl ?_
   rw [deref_some']
   refine s3.L 1 rfl (p := some ⟨I.c, 0, none⟩) rfl ?_
   have s4 := s3.sel [5, 11, 0, 1, 2, 3, 4, 6, 7, 8, 9, 10] 12
   refine cacheRd s4 cc ht.D hw (by omega) ho hr hu fun u C' W2 hc s5 => ?_
   refine br_f rfl ?_
   rw [deref_some']
   refine s5.L 3 rfl (p := some I.m) rfl ?_
   refine St.mapAt (T := intKT) (s5.bring 8) (k := i) (fun v hv => ?_) fun hv => ?_
   rotate_left
   · rcases lkp_pg i I.pl with ⟨_, h1⟩ | ⟨_, p, _, _, h3, _⟩
     · rw [hp.pl, List.find?_eq_none] at h1
       exact absurd (by simpa using hpi) (h1 p0 hp0)
     · rw [h3] at hv; cases hv
   rcases lkp_pg i I.pl with ⟨h1, _⟩ | ⟨jj, p, h1, h2, h3, h4⟩
   · rw [h1] at hv; cases hv
   rw [h3, Option.some.injEq] at hv
   refine ⟨p.s, hv.symm, ?_⟩
   have hb := pgAt (s5.bring 9) h1
   have hpg : T.page i = p.b := by unfold TM.page; rw [← hp.pl, h4]; rfl
   have hol : (rdD T.D i).length = 256 := rdD_len ht.D hr.1 hr.2
   have hnl : p.b.length = 256 := by rw [← hpg]; exact TM.page_len ht hu
   refine callF_of (C19 i u p.s (rdD T.D i) p.b W2 s5.sl.bs hb.1 hb.2) ?_
   have hce : cutE i (rdD T.D i) p.b = 0 := by
     unfold cutE
     rw [if_pos ⟨hr.1, by have := ht.D.le; omega, hol, hnl⟩]
   rw [hce]
   rintro ⟨v2, e⟩ W3 ⟨he, ⟨zs, hos, hz⟩, g3⟩
   dsimp only at he hos
   subst he
   rw [if_pos rfl] at hz
   have hzl : zs.length ≤ 6 := by
     have := congrArg List.length hz
     rw [List.length_map] at this
     have := cutV_len i (rdD T.D i) p.b
     omega
   have s6 := s5.call0 (hos.st g3)
   refine br_f rfl ?_
   have s7 : St F0 w0 W3 (SlA 5 v2 (rcs zs) :: bts zs :: SlA 5 q (rcs ys) :: bts ys :: BoxA x (storeC I.b dp T.S T.P T.busy T.dead I.m) :: BoxA I.b [P0 I.g, P0 I.c] :: BoxA I.g (ringC dp 3 T.n T.h I.s) :: SlA 5 I.s (rcs I.xs) :: bts I.xs :: CacheA I.c dp C' :: MapA intKT I.m (I.pl.map Pg.kv) :: bigA (I.pl.map Pg.A) :: SlA 1 t (ints ch) :: DiskA dp T.D :: L) :=
     s6.sel [0, 1, 13, 14, 5, 6, 7, 8, 9, 3, 10, 11, 12, 4] 15
   have tl := s7.sl.len
   have tr := s7.sl.reads
   have tn : v2.a = none → v2.len = 0 := fun ha => by
     have := s7.ss.none_len Rw.cells_len (by decide) ha
     exact this
   rw [rcs_len] at tl
   have ql := (s7.sel [2, 0, 1] 3).sl.len
   rw [rcs_len] at ql
   dsimp only
   refine St.app (s7.sel [2, 0, 1, 3] 4) (new := rcs zs) (fun _ => by rw [rcs_len]; exact tl) tn tr (rcs_na zs) rfl (by decide) (by omega) fun r2 W4 s8 _ => ?_
   rw [← rcs_append] at s8
   have s9 := two_big (s8.sel [3, 2, 0] 4)
   rw [← List.map_append] at s9
   have s9 : St F0 w0 W4 (bts (ys ++ zs) :: SlA 5 r2 (rcs (ys ++ zs)) :: BoxA x (storeC I.b dp T.S T.P T.busy T.dead I.m) :: BoxA I.b [P0 I.g, P0 I.c] :: BoxA I.g (ringC dp 3 T.n T.h I.s) :: SlA 5 I.s (rcs I.xs) :: bts I.xs :: CacheA I.c dp C' :: MapA intKT I.m (I.pl.map Pg.kv) :: bigA (I.pl.map Pg.A) :: SlA 1 t (ints ch) :: DiskA dp T.D :: L) := s9
   have s10 := s9.sel [2, 3, 4, 5, 6, 7, 8, 9, 10, 1, 0, 11] 12
   have s11 := St.tClose (N := N + j + 1) (T := T) (i := { I with C := C' }) s10 ⟨hp.xs, hp.pl, fun _ => hc⟩
   rw [w64_succ (by omega)]
   refine ⟨⟨j + 1, ys ++ zs, rfl, hlt, by rw [List.length_append]; omega, ?_, s11.sel [1, 2, 3, 0, 4] 5⟩, by show ch.length - (((j + 1 : Nat) : Int)).toNat < ch.length - ((j : Int)).toNat; omega⟩
   rw [List.take_add_one, hx, List.flatMap_append, List.map_append, hys, hz]
   simp [hpg]
 · have hge : j = ch.length := by simp [htl] at hge; omega
   subst hge
   rw [List.take_length] at hys
   exact hK q ys W (by rw [hpat]; exact hys) ((s2.drop.sel [2, 0, 1, 3] 4).tMono (M := N + 2048) (by omega) |>.sel [1, 2, 0, 3] 4)
end
end Go.Proofs

set_option maxRecDepth 20000
namespace Go.Proofs
open Go.Eng
theorem u8_of {n : Int} (h : 0 ≤ n ∧ n ≤ 255) : ((UInt8.ofNat n.toNat).toNat : Int) = n := by
 rw [UInt8.toNat_ofNat']; omega
theorem num_back {n : Nat} {v : Int} (h : 0 ≤ v) (hl : v.toNat < 2 ^ (8 * n)) : ((leN (numB n v.toNat) : Nat) : Int) = v := by
 rw [leN_numB, Nat.mod_eq_of_lt hl]; omega
theorem w64_num {v : Int} (h : 0 ≤ v ∧ v ≤ 2305843009213693952) : w64 ((leN (numB 8 v.toNat) : Nat) : Int) = v := by
 rw [num_back h.1 (by have : v.toNat ≤ 2305843009213693952 := by omega
                      exact Nat.lt_of_le_of_lt this (by decide))]
 exact w64_of ⟨by omega, by omega⟩
theorem rec_ok {n : Int} {x : Rv} : recEx n x = 0 ↔ mayL n ∧ okV x = true := by
 unfold recEx recE okV
 by_cases h1 : mayL n
 · rw [if_neg (not_not_intro h1)]
   by_cases h2 : checkB x.1 x.2.1 x.2.2.1 x.2.2.2.1 x.2.2.2.2.length = true
   · simp [h1, h2]
   · simp [h2]
 · rw [if_pos h1]; simp [h1]
theorem rec_back {n : Int} {x : Rv} (hn : mayL n) (hx : okV x = true) : takeR (secX n x) n = (x, 0) := by
 have hr : recEx n x = 0 := rec_ok.2 ⟨hn, hx⟩
 have hc : checkB x.1 x.2.1 x.2.2.1 x.2.2.2.1 x.2.2.2.2.length = true := hx
 obtain ⟨k, b, o, m, d⟩ := x
 dsimp only at hc
 obtain ⟨c1, c2, c3, c4, c5⟩ := checkB_num hc
 have hlen : (secX n (k, b, o, m, d)).length = 64 := secX_len hr
 obtain ⟨B, hB⟩ : ∃ B, secX n (k, b, o, m, d) = B := ⟨_, rfl⟩
 obtain ⟨S, hS⟩ : ∃ S, numB 4 (sumM (secB n k b o m d)) = S := ⟨_, rfl⟩
 have hBe : B = [UInt8.ofNat k.toNat, UInt8.ofNat d.length] ++ (numB 8 n.toNat ++ (numB 4 (imax b m).toNat ++ ([UInt8.ofNat o.toNat, 0] ++ (d ++ (List.replicate (44 - d.length) 0 ++ S))))) := by
   rw [← hB]
   show secB n k b o m d ++ numB 4 (sumM (secB n k b o m d)) = _
   rw [hS]
   unfold secB
   simp only [List.append_assoc]
 have e2 : B.drop 2 = numB 8 n.toNat ++ (numB 4 (imax b m).toNat ++ ([UInt8.ofNat o.toNat, 0] ++ (d ++ (List.replicate (44 - d.length) 0 ++ S)))) := by rw [hBe]; rfl
 have e10 : B.drop 10 = numB 4 (imax b m).toNat ++ ([UInt8.ofNat o.toNat, 0] ++ (d ++ (List.replicate (44 - d.length) 0 ++ S))) := by
   rw [show B.drop 10 = (B.drop 2).drop 8 by rw [List.drop_drop], e2, List.drop_left' (by simp)]
 have e14 : B.drop 14 = [UInt8.ofNat o.toNat, 0] ++ (d ++ (List.replicate (44 - d.length) 0 ++ S)) := by
   rw [show B.drop 14 = (B.drop 10).drop 4 by rw [List.drop_drop], e10, List.drop_left' (by simp)]
 have e16 : B.drop 16 = d ++ (List.replicate (44 - d.length) 0 ++ S) := by
   rw [show B.drop 16 = (B.drop 14).drop 2 by rw [List.drop_drop], e14]; rfl
 have b0 : byteN B 0 = k := by
   unfold byteN; rw [hBe]; exact u8_of ⟨by omega, by omega⟩
 have b1 : byteN B 1 = d.length := by
   unfold byteN; rw [hBe]
   exact u8_of (n := (d.length : Int)) ⟨by omega, by omega⟩
 have b14 : byteN B 14 = o := by
   unfold byteN
   have : B[14]? = some (UInt8.ofNat o.toNat) := by
     have h := congrArg (·[0]?) e14
     simpa [List.getElem?_drop] using h
   rw [this]
   exact u8_of ⟨by omega, by omega⟩
 have hL : recLsn B = n := by
   unfold recLsn; rw [e2, List.take_left' (by simp)]
   exact w64_num hn
 have hN : recNum B = imax b m := by
   unfold recNum; rw [e10, List.take_left' (by simp)]
   have : 0 ≤ imax b m ∧ imax b m ≤ 65536 := by unfold imax; split <;> omega
   exact num_back this.1 (by have h2 : (imax b m).toNat ≤ 65536 := by omega
                             exact Nat.lt_of_le_of_lt h2 (by decide))
 have hF : recF B = (k, b, o, m, d) := by
   unfold recF
   rw [b0, b1, b14, hN, e16, Int.toNat_natCast, List.take_left' rfl]
   unfold checkB patchB at hc
   simp only [Bool.or_eq_true, Bool.and_eq_true, beq_iff_eq, decide_eq_true_eq] at hc
   rcases hc with ⟨rfl, h2⟩ | ⟨rfl, h2⟩
   · rw [if_pos rfl]
     have : imax b m = b := by unfold imax; split <;> omega
     rw [this, h2.1]
   · rw [if_neg (by decide)]
     obtain ⟨h3, h4, h5, h6, h7⟩ := h2
     have : imax b m = m := by unfold imax; split <;> omega
     have hd : d = [] := List.eq_nil_of_length_eq_zero (by omega)
     rw [this, h5, h6, hd]
 have hP : parseR B = ((k, b, o, m, d), n, 0) := by
   unfold parseR
   rw [if_pos ⟨by rw [← hB]; exact hlen, by rw [b1]; omega, by rw [hL, hF]; exact hr, by rw [hL, hF]; exact hB⟩, hF, hL]
 rw [hB]
 unfold takeR
 rw [if_neg (not_not_intro hn), hP, if_neg (by simp)]
theorem take_ok {B : List UInt8} {n : Int} (h : (takeR B n).2 = 0) : mayL n ∧ okV (takeR B n).1 = true ∧ B = secX n (takeR B n).1 ∧ parseR B = ((takeR B n).1, n, 0) := by
 unfold takeR at h ⊢
 by_cases h1 : ¬ mayL n
 · rw [if_pos h1] at h; cases h
 · rw [if_neg h1] at h ⊢
   by_cases h2 : (parseR B).2.2 = 0 ∧ (parseR B).2.1 ≠ n
   · rw [if_pos h2] at h; cases h
   · rw [if_neg h2] at h ⊢
     dsimp only at h ⊢
     have h3 : (parseR B).2.1 = n := Classical.byContradiction fun h' => h2 ⟨h, h'⟩
     unfold parseR at h h3 ⊢
     by_cases h4 : B.length = 64 ∧ byteN B 1 ≤ 44 ∧ recEx (recLsn B) (recF B) = 0 ∧ secX (recLsn B) (recF B) = B
     · rw [if_pos h4] at h3 ⊢
       dsimp only at h3 ⊢
       refine ⟨Classical.not_not.1 h1, (rec_ok.1 h4.2.2.1).2, by rw [← h3]; exact h4.2.2.2.symm, by rw [h3]⟩
     · rw [if_neg h4] at h; cases h
theorem take_one {B : List UInt8} {n m : Int} (h : (takeR B n).2 = 0) (h' : (takeR B m).2 = 0) : n = m := by
 have h1 := (take_ok h).2.2.2
 rw [(take_ok h').2.2.2] at h1
 exact (congrArg (·.2.1) h1).symm
theorem super_back {s : Sup} (h : supE s = 0) : parseS (bytesS s) = (s, 0) := by
 obtain ⟨a1, a2, a3, a4, a5, a6⟩ := supE_num h
 obtain ⟨E, b, l, d, x, H⟩ := s
 dsimp only at a1 a2 a3 a4 a5 a6
 have hf : fieldS ((bytesS (E, b, l, d, x, H)).drop 8) = (E, b, l, d, x, H) := by
   obtain ⟨S, hS⟩ : ∃ S, numB 4 (sumM (superL (E, b, l, d, x, H) ++ List.replicate 20 0)) = S := ⟨_, rfl⟩
   obtain ⟨R, hR⟩ : ∃ R, List.replicate 20 0 ++ (S ++ List.replicate 192 (0 : UInt8)) = R := ⟨_, rfl⟩
   have e0 : (bytesS (E, b, l, d, x, H)).drop 8 = numB 8 E.toNat ++ (numB 4 b.toNat ++ (numB 4 l.toNat ++ (numB 4 d.toNat ++ (numB 4 x.toNat ++ (numB 8 H.toNat ++ R))))) := by
     unfold bytesS sealM
     rw [hS]
     unfold superL
     simp only [List.append_assoc, hR]
     exact List.drop_left' rfl
   rw [e0]
   have n4 : ∀ {v : Int}, 0 ≤ v ∧ v ≤ 2048 → ((leN (numB 4 v.toNat) : Nat) : Int) = v := fun {v} hv => num_back hv.1 (by
     have h2 : v.toNat ≤ 2048 := by omega
     exact Nat.lt_of_le_of_lt h2 (by decide))
   have f0 : ∀ (A : List UInt8) (i : Nat) (v : Int) (Z : List UInt8), A.length = 8 + 4 * i → 0 ≤ v ∧ v ≤ 2048 → fldS (A ++ (numB 4 v.toNat ++ Z)) i = v := fun A i v Z hA hv => by
     unfold fldS
     rw [List.drop_left' hA, List.take_left' (by simp), n4 hv]
   unfold fieldS
   have g1 := f0 (numB 8 E.toNat) 0 b (numB 4 l.toNat ++ (numB 4 d.toNat ++ (numB 4 x.toNat ++ (numB 8 H.toNat ++ R)))) (by simp) a2
   have g2 := f0 (numB 8 E.toNat ++ numB 4 b.toNat) 1 l (numB 4 d.toNat ++ (numB 4 x.toNat ++ (numB 8 H.toNat ++ R))) (by simp) a3
   have g3 := f0 (numB 8 E.toNat ++ numB 4 b.toNat ++ numB 4 l.toNat) 2 d (numB 4 x.toNat ++ (numB 8 H.toNat ++ R)) (by simp) a4
   have g4 := f0 (numB 8 E.toNat ++ numB 4 b.toNat ++ numB 4 l.toNat ++ numB 4 d.toNat) 3 x (numB 8 H.toNat ++ R) (by simp) a5
   simp only [List.append_assoc] at g2 g3 g4
   rw [g1, g2, g3, g4, List.take_left' (by simp), w64_num ⟨by omega, by omega⟩]
   have e24 : (numB 8 E.toNat ++ (numB 4 b.toNat ++ (numB 4 l.toNat ++ (numB 4 d.toNat ++ (numB 4 x.toNat ++ (numB 8 H.toNat ++ R)))))).drop 24 = numB 8 H.toNat ++ R := by
     simp only [← List.append_assoc]
     rw [List.append_assoc]
     exact List.drop_left' (by simp)
   rw [e24, List.take_left' (by simp), w64_num ⟨by omega, by omega⟩]
 unfold parseS
 rw [hf, if_pos ⟨bytesS_len _, h, rfl⟩]
theorem super_sec (s : Sup) {k : Nat} (hk : 1 ≤ k ∧ k < 4) : sec (bytesS s) k = ZZ 64 := by
 have h64 : (sealM (superL s ++ List.replicate 20 0)).length = 64 := by simp [sealM, superL_len]
 unfold sec bytesS ZZ
 rw [List.drop_append, h64, List.drop_eq_nil_of_le (by omega), List.nil_append, List.drop_replicate, List.take_replicate]
 congr 1; omega
theorem super_whole {A : List UInt8} (hA : A.length = 256) {s : Sup} (h0 : sec A 0 = sec (bytesS s) 0) (hz : ∀ k, 1 ≤ k → k < 4 → sec A k = ZZ 64) : A = bytesS s :=
 sec_ext hA (bytesS_len s) fun k hk => by
   rcases Nat.eq_zero_or_pos k with rfl | h
   · exact h0
   · rw [hz k h hk, super_sec s ⟨h, hk⟩]
end Go.Proofs

set_option maxRecDepth 20000
namespace Go.Proofs
open Go.Eng
def At (n b : Int) (k : Nat) (q : Int) : Prop := 4 * (b - 3) + (k : Int) = q % (4 * n)
theorem at_place (n q : Int) : At n (placeB 3 n q) (q % (4 * n) % 4).toNat q ∧ placeO n q = 64 * ((q % (4 * n) % 4).toNat : Int) := by
 unfold At placeB placeO
 omega
theorem at_iff {n b : Int} {k : Nat} (hk : k < 4) {q : Int} : At n b k q ↔ b = placeB 3 n q ∧ placeO n q = 64 * (k : Int) := by
 unfold At placeB placeO
 omega
theorem at_one {n b : Int} {k : Nat} {q q' : Int} (h : At n b k q) (h' : At n b k q') (hd : q - q' < 4 * n) (hd' : q' - q < 4 * n) : q = q' := by
 unfold At at h h'
 have h1 : q % (4 * n) = q' % (4 * n) := by omega
 have h2 := Int.emod_emod_of_dvd (q - q') (Int.dvd_refl (4 * n))
 have h3 : (q - q') % (4 * n) = 0 := Int.emod_eq_emod_iff_emod_sub_eq_zero.1 h1
 obtain ⟨c, hc⟩ := Int.dvd_of_emod_eq_zero h3
 have : c = 0 := by
   rcases Int.lt_trichotomy c 0 with h | h | h
   · exfalso
     have : 4 * n * c ≤ 4 * n * (-1) := Int.mul_le_mul_of_nonneg_left (by omega) (by omega)
     omega
   · exact h
   · exfalso
     have : 4 * n * 1 ≤ 4 * n * c := Int.mul_le_mul_of_nonneg_left (by omega) (by omega)
     omega
 rw [this, Int.mul_zero] at hc
 omega
theorem at_blk {n b : Int} {k : Nat} (hk : k < 4) {q : Int} (hn : 1 ≤ n) (h : At n b k q) : 3 ≤ b ∧ b < 3 + n := by
 unfold At at h
 have h2 := Int.emod_nonneg q (b := 4 * n) (by omega)
 have h3 := Int.emod_lt_of_pos q (b := 4 * n) (by omega)
 omega
theorem mod_add {M q i : Int} (hi : 0 ≤ i) (h : q % M + i < M) (hM : 0 < M) : (q + i) % M = q % M + i := by
 have h2 := Int.emod_nonneg q (b := M) (by omega)
 rw [Int.add_emod, Int.emod_eq_of_lt (a := i) hi (by omega), Int.emod_eq_of_lt (by omega) h]
theorem slot_sec {D : DM} {n b : Int} {k : Nat} (hk : k < 4) {q : Int} (h : At n b k q) : slotR D 3 n q = sec (rdD D b) k := by
 obtain ⟨rfl, h2⟩ := (at_iff hk).1 h
 unfold slotR sec
 rw [h2, List.drop_take]
 congr 1
 omega
theorem layR_ok (n : Int) : ∀ (xs : List Rv) (q : Int) (l : List UInt8), l.length = 256 → (∀ i x, xs[i]? = some x → recEx (q + (i : Nat)) x = 0) →
   (layR n q l xs).1 = 0 ∧ (layR n q l xs).2.length = 256 ∧ ∀ k, k < 4 → (sec (layR n q l xs).2 k = sec l k ∧ ∀ i : Nat, i < xs.length → placeO n (q + i) ≠ 64 * (k : Int)) ∨ ∃ (i : Nat) (x : Rv), xs[i]? = some x ∧ placeO n (q + i) = 64 * (k : Int) ∧ sec (layR n q l xs).2 k = secX (q + i) x
 | [], q, l, hl, _ => ⟨rfl, hl, fun k _ => .inl ⟨rfl, fun i hi => by simp at hi⟩⟩
 | x :: xs, q, l, hl, hr => by
   have h0 := hr 0 x rfl
   rw [show q + ((0 : Nat) : Int) = q by omega] at h0
   have hs := secX_len h0
   have hpo := placeO_le n q
   have hl1 : (lay l (placeO n q).toNat (secX q x)).length = 256 := by rw [lay_len (by rw [hs]; omega)]; exact hl
   obtain ⟨g1, g2, g3⟩ := layR_ok n xs (q + 1) _ hl1 fun i y hy => by
     have := hr (i + 1) y (by simpa using hy)
     rwa [show q + ((i + 1 : Nat) : Int) = q + 1 + i by push_cast; omega] at this
   rw [layR, if_neg (not_not_intro h0)]
   refine ⟨g1, g2, fun k hk => ?_⟩
   rcases g3 k hk with ⟨e1, e2⟩ | ⟨i, y, e1, e2, e3⟩
   · by_cases hq : placeO n q = 64 * (k : Int)
     · refine .inr ⟨0, x, rfl, by simpa using hq, ?_⟩
       rw [e1, show q + ((0 : Nat) : Int) = q by omega, show (placeO n q).toNat = 64 * k by omega]
       refine List.ext_getElem? fun o => ?_
       by_cases ho : o < 64
       · rw [sec_get _ _ _ ho, lay_get (by rw [hs]; omega), if_pos ⟨by omega, by rw [hs]; omega⟩]
         congr 1; omega
       · rw [List.getElem?_eq_none (by rw [sec_len (by rw [lay_len (by rw [hs]; omega)]; exact hl) hk]; omega), List.getElem?_eq_none (by rw [hs]; omega)]
     · refine .inl ⟨?_, fun i hi => ?_⟩
       · rw [e1]
         refine List.ext_getElem? fun o => ?_
         by_cases ho : o < 64
         · rw [sec_get _ _ _ ho, sec_get _ _ _ ho, lay_get (by rw [hs]; omega), if_neg (by rw [hs]; omega)]
         · rw [List.getElem?_eq_none (by rw [sec_len hl1 hk]; omega), List.getElem?_eq_none (by rw [sec_len hl hk]; omega)]
       · cases i with
         | zero => simpa using hq
         | succ i =>
           have := e2 i (by simpa using hi)
           rwa [show q + ((i + 1 : Nat) : Int) = q + 1 + i by push_cast; omega]
   · exact .inr ⟨i + 1, y, by simpa using e1, by rw [show q + ((i + 1 : Nat) : Int) = q + 1 + i by push_cast; omega]; exact e2, by rw [show q + ((i + 1 : Nat) : Int) = q + 1 + i by push_cast; omega]; exact e3⟩
structure Ap (n : Int) (D D' : DM) (q : Int) (ys : List Rv) (e : Int) : Prop where
 sv : ∀ b k v, 0 ≤ b → k < 4 → Sv D' b k v → Sv D b k v ∨ ∃ (i : Nat) (x : Rv), ys[i]? = some x ∧ At n b k (q + i) ∧ v = secX (q + i) x
 res : (e = 0 ∧ D'.off = false ∧ ∀ b k, 0 ≤ b → k < 4 → (sec (rdD D' b) k = sec (rdD D b) k ∧ ∀ i : Nat, i < ys.length → ¬ At n b k (q + i)) ∨ ∃ (i : Nat) (x : Rv), ys[i]? = some x ∧ At n b k (q + i) ∧ sec (rdD D' b) k = secX (q + i) x) ∨ (e = 5 ∧ D'.off = true ∧ D'.wait = [])
theorem layD_ap {D : DM} {n q : Int} {ys : List Rv} (hD : D.ok) (ho : D.off = false) (hn : 1 ≤ n ∧ n + 3 ≤ D.blocks.length) (hr : ∀ i x, ys[i]? = some x → recEx (q + (i : Nat)) x = 0) (hl : q % (4 * n) % 4 + ys.length ≤ 4) :
   Ap n D (layD D n (placeB 3 n q) q ys).2 q ys (layD D n (placeB 3 n q) q ys).1 := by
 have hb := placeB_le (st := 3) (q := q) hn.1
 have hp : placeE D (placeB 3 n q) = 0 := by unfold placeE; rw [ho, if_neg (by simp), if_neg (by omega)]
 have hrl : (rdD D (placeB 3 n q)).length = 256 := rdD_len hD (by omega) (by omega)
 obtain ⟨g1, g2, g3⟩ := layR_ok n ys q _ hrl hr
 have hB : ∀ i : Nat, i < ys.length → placeB 3 n (q + i) = placeB 3 n q := fun i hi => by
   have h2 := Int.emod_nonneg q (b := 4 * n) (by omega)
   have h3 := Int.emod_lt_of_pos q (b := 4 * n) (by omega)
   unfold placeB
   rw [mod_add (by omega) (by omega) (by omega)]
   omega
 have hat : ∀ {b : Int} {k : Nat} (i : Nat), k < 4 → i < ys.length → (At n b k (q + i) ↔ b = placeB 3 n q ∧ placeO n (q + i) = 64 * (k : Int)) := fun i hk hi => by rw [at_iff hk, hB i hi]
 have hi : 0 ≤ placeB 3 n q ∧ placeB 3 n q < D.blocks.length := by omega
 have hw : layD D n (placeB 3 n q) q ys = writeD D (placeB 3 n q) (layR n q (rdD D (placeB 3 n q)) ys).2 := by
   unfold layD
   rw [if_neg (not_not_intro hp), if_neg (not_not_intro g1)]
 rw [hw]
 refine ⟨fun b k v h0 hk hs => ?_, ?_⟩
 · rcases write_sv hD h0 hk hs with h | ⟨rfl, rfl⟩
   · exact .inl h
   · rcases g3 k hk with ⟨e1, _⟩ | ⟨i, x, e1, e2, e3⟩
     · rw [e1]; exact .inl (rd_sv hi k)
     · exact .inr ⟨i, x, e1, (hat i hk (split_at e1).2).2 ⟨rfl, e2⟩, e3⟩
 · rcases write_cases hD ho hi g2 with ⟨h1, h2, h3⟩ | h
   · refine .inl ⟨h1, h2, fun b k h0 hk => ?_⟩
     rw [h3]
     by_cases hbe : placeB 3 n q = b
     · rw [if_pos hbe]
       rcases g3 k hk with ⟨e1, e2⟩ | ⟨i, x, e1, e2, e3⟩
       · exact .inl ⟨by rw [e1, hbe], fun i hi h => e2 i hi ((hat i hk hi).1 h).2⟩
       · exact .inr ⟨i, x, e1, (hat i hk (split_at e1).2).2 ⟨hbe.symm, e2⟩, e3⟩
     · rw [if_neg hbe]
       exact .inl ⟨rfl, fun i hi h => hbe ((hat i hk hi).1 h).1.symm⟩
   · exact .inr h
theorem appD_ap {n : Int} {N0 : Nat} (hn : 1 ≤ n ∧ n + 3 ≤ (N0 : Int)) : ∀ (f : Nat) (D : DM) (q : Int) (ys : List Rv) (N : Nat), DB N D → D.blocks.length = N0 → D.off = false → ys.length ≤ f → (∀ i x, ys[i]? = some x → recEx (q + (i : Nat)) x = 0) →
   Ap n D (appD n 3 f D q ys).2 q ys (appD n 3 f D q ys).1 ∧ DG D (appD n 3 f D q ys).2 N (2 * f)
 | 0, D, q, ys, N, hD, _, ho, hl, _ => by
   have : ys = [] := List.eq_nil_of_length_eq_zero (by omega)
   subst this
   exact ⟨⟨fun b k v _ _ h => .inl h, .inl ⟨rfl, ho, fun b k _ _ => .inl ⟨rfl, fun i hi => by simp at hi⟩⟩⟩, .refl hD _⟩
 | f + 1, D, q, ys, N, hD, hN, ho, hl, hr => by
   by_cases hy : ys = []
   · subst hy
     rw [appD, if_pos rfl]
     exact ⟨⟨fun b k v _ _ h => .inl h, .inl ⟨rfl, ho, fun b k _ _ => .inl ⟨rfl, fun i hi => by simp at hi⟩⟩⟩, .refl hD _⟩
   · obtain ⟨m, hm⟩ : ∃ m : Nat, imin ys.length (4 - placeO n q / 64) = (m : Int) := ⟨(imin ys.length (4 - placeO n q / 64)).toNat, by
       have := placeO_le n q
       unfold imin; split <;> omega⟩
     have hyl : 0 < ys.length := List.length_pos_iff.2 hy
     have hpo := placeO_le n q
     have hpe : placeO n q / 64 = q % (4 * n) % 4 := by unfold placeO; omega
     have hm1 : 1 ≤ m ∧ m ≤ ys.length ∧ q % (4 * n) % 4 + m ≤ 4 := by
       unfold imin at hm
       split at hm <;> omega
     rw [appD_succ hy hm]
     have htl : (ys.take m).length = m := by rw [List.length_take]; omega
     have h1 := layD_ap (D := D) (n := n) (q := q) (ys := ys.take m) hD.ok ho ⟨hn.1, by rw [hN]; exact hn.2⟩ (fun i x hx => hr i x (by
       rw [List.getElem?_take] at hx
       split at hx
       · exact hx
       · cases hx)) (by rw [htl]; omega)
     have hg : DG D (layD D n (placeB 3 n q) q (ys.take m)).2 N 2 := by
       refine ⟨layD_db hD, ?_⟩
       unfold layD
       split
       · rfl
       · split
         · rfl
         · exact (writeD_dg hD _ _).len
     generalize layD D n (placeB 3 n q) q (ys.take m) = E at h1 hg ⊢
     have up : ∀ {b : Int} {k : Nat} {v : List UInt8}, (∃ (i : Nat) (x : Rv), (ys.take m)[i]? = some x ∧ At n b k (q + i) ∧ v = secX (q + i) x) → ∃ (i : Nat) (x : Rv), ys[i]? = some x ∧ At n b k (q + i) ∧ v = secX (q + i) x := by
       rintro b k v ⟨i, x, e1, e2⟩
       refine ⟨i, x, ?_, e2⟩
       rw [List.getElem?_take] at e1
       split at e1
       · exact e1
       · cases e1
     rcases h1.res with ⟨e0, e1, e2⟩ | ⟨e0, e1⟩
     · rw [if_neg (not_not_intro e0)]
       obtain ⟨k1, k2⟩ := appD_ap hn f E.2 (q + m) (ys.drop m) (N + 2) hg.db (hg.len.trans hN) e1 (by rw [List.length_drop]; omega) fun i x hx => by
         have := hr (m + i) x (by rw [List.getElem?_drop] at hx; exact hx)
         rwa [show q + ((m + i : Nat) : Int) = q + m + i by push_cast; omega] at this
       generalize appD n 3 f E.2 (q + m) (ys.drop m) = G at k1 k2 ⊢
       have up2 : ∀ {b : Int} {k : Nat} {v : List UInt8}, (∃ (i : Nat) (x : Rv), (ys.drop m)[i]? = some x ∧ At n b k (q + m + i) ∧ v = secX (q + m + i) x) → ∃ (i : Nat) (x : Rv), ys[i]? = some x ∧ At n b k (q + i) ∧ v = secX (q + i) x := by
         rintro b k v ⟨i, x, e1, e2⟩
         refine ⟨m + i, x, ?_, ?_⟩
         · rw [List.getElem?_drop] at e1; exact e1
         · rw [show q + ((m + i : Nat) : Int) = q + m + i by push_cast; omega]; exact e2
       refine ⟨⟨fun b k v h0 hk hs => ?_, ?_⟩, (hg.trans k2).mono (by omega)⟩
       · rcases k1.sv b k v h0 hk hs with h | h
         · rcases h1.sv b k v h0 hk h with h | h
           · exact .inl h
           · exact .inr (up h)
         · exact .inr (up2 h)
       · rcases k1.res with ⟨f0, f1, f2⟩ | h
         · refine .inl ⟨f0, f1, fun b k h0 hk => ?_⟩
           rcases f2 b k h0 hk with ⟨g1, g2⟩ | h
           · rw [g1]
             rcases e2 b k h0 hk with ⟨g3, g4⟩ | h
             · refine .inl ⟨g3, fun i hi hat => ?_⟩
               rcases Nat.lt_or_ge i m with h | h
               · exact g4 i (by omega) hat
               · refine g2 (i - m) (by rw [List.length_drop]; omega) ?_
                 rwa [show q + (m : Int) + ((i - m : Nat) : Int) = q + i by omega]
             · exact .inr (up h)
           · exact .inr (up2 h)
         · exact .inr h
     · rw [if_pos (by rw [e0]; decide)]
       exact ⟨⟨fun b k v h0 hk hs => (h1.sv b k v h0 hk hs).imp id up, .inr ⟨e0, e1⟩⟩, hg.mono (by omega)⟩
theorem scan_is {D : DM} {n : Int} (hn : 1 ≤ n) : ∀ (R : List Rv) (f : Nat) (q : Int), R.length ≤ f → (∀ i x, R[i]? = some x → (∀ b k, k < 4 → At n b k (q + (i : Nat)) → sec (rdD D b) k = secX (q + (i : Nat)) x) ∧ recEx (q + (i : Nat)) x = 0) →
   (R.length = f ∨ ∀ b k, k < 4 → At n b k (q + R.length) → (takeR (sec (rdD D b) k) (q + R.length)).2 ≠ 0) → scanR D 3 n f q = R
 | [], 0, q, _, _, _ => rfl
 | [], f + 1, q, _, _, h => by
   have h1 := h.resolve_left (by simp)
   have h2 := (at_place n q).1
   have hk : (q % (4 * n) % 4).toNat < 4 := by omega
   rw [scanR, slot_sec hk h2, if_pos]
   have := h1 _ _ hk (by simpa using h2)
   simpa using this
 | x :: R, 0, q, hl, _, _ => by simp at hl
 | x :: R, f + 1, q, hl, hr, h => by
   obtain ⟨h0, h0'⟩ := hr 0 x rfl
   rw [show q + ((0 : Nat) : Int) = q by omega] at h0 h0'
   have h2 := (at_place n q).1
   have hk : (q % (4 * n) % 4).toNat < 4 := by omega
   obtain ⟨hm, hok⟩ := rec_ok.1 h0'
   rw [scanR, slot_sec hk h2, h0 _ _ hk h2, rec_back hm hok, if_neg (by simp)]
   congr 1
   refine scan_is hn R f (q + 1) (by simpa using hl) (fun i y hy => ?_) ?_
   · have := hr (i + 1) y (by simpa using hy)
     rwa [show q + ((i + 1 : Nat) : Int) = q + 1 + i by push_cast; omega] at this
   · rw [List.length_cons] at h
     rw [show q + ((R.length + 1 : Nat) : Int) = q + 1 + R.length by push_cast; omega] at h
     exact h.imp (by omega) id
end Go.Proofs

set_option maxRecDepth 20000
namespace Go.Proofs
open Go.Eng
def Whole (R L : List Rv) : Prop := ∀ B, comGo (R ++ B) [] [] 0 0 = comGo B L [] R.length R.length
theorem whole_nil : Whole [] [] := fun _ => rfl
theorem Whole.eq {R L : List Rv} (h : Whole R L) : (com R).1 = L := by
 have := h []
 rw [List.append_nil] at this
 unfold com; rw [this]; rfl
theorem comGo_wait : ∀ (P B out wait : List Rv) (n i : Nat), (∀ v ∈ P, okV v = true ∧ v.1 = 1) → comGo (P ++ B) out wait n i = comGo B out (wait ++ P) n (i + P.length)
 | [], B, out, wait, n, i, _ => by simp
 | v :: P, B, out, wait, n, i, h => by
   obtain ⟨h1, h2⟩ := h v (by simp)
   rw [List.cons_append, comGo, if_neg (by simp [h1]), if_pos h2, comGo_wait P B out _ n _ fun x hx => h x (by simp [hx])]
   simp only [List.append_assoc, List.singleton_append, List.length_cons]
   congr 1; omega
abbrev cmt (m : Nat) : Rv := (2, 0, 0, m, [])
theorem cmt_ok {m : Nat} (h : m ≤ 65536) : okV (cmt m) = true := by
 simp [okV, checkB]; omega
theorem Whole.part {R L P : List Rv} (h : Whole R L) (hp : ∀ v ∈ P, okV v = true ∧ v.1 = 1) : (com (R ++ P)).1 = L := by
 unfold com
 rw [h P]
 have := comGo_wait P [] L [] R.length R.length hp
 rw [List.append_nil] at this
 rw [this]; rfl
theorem Whole.snoc {R L P : List Rv} (h : Whole R L) (hp : ∀ v ∈ P, okV v = true ∧ v.1 = 1) (hl : P.length ≤ 65536) : Whole (R ++ (P ++ [cmt P.length])) (L ++ P) := by
 intro B
 rw [List.append_assoc, h, List.append_assoc, comGo_wait P _ L [] _ _ hp, List.singleton_append, comGo, if_neg (by rw [cmt_ok hl]; simp), if_neg (show ¬ (2 : Int) = 1 by decide), if_neg (by simp)]
 simp only [List.nil_append, List.length_append, List.length_cons, List.length_nil]
 congr 1 <;> omega
theorem comGo_mem : ∀ (R out wait : List Rv) (n i : Nat), (∀ v ∈ out ++ wait, v.1 = 1) → ∀ v ∈ (comGo R out wait n i).1, v.1 = 1 ∧ (v ∈ R ∨ v ∈ out ++ wait)
 | [], out, wait, n, i, h, v, hv => ⟨h v (List.mem_append_left _ hv), .inr (List.mem_append_left _ hv)⟩
 | x :: R, out, wait, n, i, h, v, hv => by
   rw [comGo] at hv
   by_cases h1 : okV x = false
   · rw [if_pos h1] at hv
     exact ⟨h v (List.mem_append_left _ hv), .inr (List.mem_append_left _ hv)⟩
   · rw [if_neg h1] at hv
     by_cases h2 : x.1 = 1
     · rw [if_pos h2] at hv
       have := comGo_mem R out (wait ++ [x]) n (i + 1) (by
         intro y hy
         rw [← List.append_assoc, List.mem_append, List.mem_singleton] at hy
         rcases hy with hy | rfl
         · exact h y hy
         · exact h2) v hv
       refine ⟨this.1, ?_⟩
       rcases this.2 with h3 | h3
       · exact .inl (List.mem_cons_of_mem _ h3)
       · rw [← List.append_assoc, List.mem_append, List.mem_singleton] at h3
         rcases h3 with h3 | rfl
         · exact .inr h3
         · exact .inl (List.mem_cons_self ..)
     · rw [if_neg h2] at hv
       by_cases h3 : x.2.2.2.1 ≠ (wait.length : Int)
       · rw [if_pos h3] at hv
         exact ⟨h v (List.mem_append_left _ hv), .inr (List.mem_append_left _ hv)⟩
       · rw [if_neg h3] at hv
         have := comGo_mem R (out ++ wait) [] (i + 1) (i + 1) (by rw [List.append_nil]; exact h) v hv
         rw [List.append_nil] at this
         exact ⟨this.1, this.2.imp (List.mem_cons_of_mem _) id⟩
theorem com_mem {R : List Rv} {v : Rv} (h : v ∈ (com R).1) : v.1 = 1 ∧ v ∈ R := by
 have := comGo_mem R [] [] 0 0 (by simp) v h
 exact ⟨this.1, this.2.resolve_right (by simp)⟩
structure Law where
 S : Sup
 R : List Rv
 U : Int
 C : Int → List UInt8
namespace Law
abbrev n (l : Law) : Int := l.S.2.2.1
abbrev h (l : Law) : Int := l.S.2.2.2.2.2
abbrev P (l : Law) : PlanT := planT (supG l.S)
abbrev L (l : Law) : List Rv := (com l.R).1
structure ok (l : Law) (len : Nat) : Prop where
 S : supE l.S = 0
 len : (len : Int) = l.S.2.1
 R : (l.R.length : Int) ≤ 4 * l.n
 rok : ∀ v ∈ l.R, okV v = true
 use : ∀ v ∈ l.L, usableS l.P v.2.1
 U : l.U ≤ l.h + 4 * l.n
 clen : ∀ b, usableS l.P b → (l.C b).length = 256
 fix : ∀ b, usableS l.P b → redoV b (l.C b) l.L = l.C b
def log (l : Law) (b : Int) (k : Nat) (v : List UInt8) : Prop :=
 (∀ (i : Nat) x, l.R[i]? = some x → At l.n b k (l.h + i) → v = secX (l.h + i) x) ∧ ((∀ i : Nat, i < l.R.length → ¬ At l.n b k (l.h + i)) → ∀ q, (takeR v q).2 = 0 → q < l.U ∧ q ≠ l.h + l.R.length)
def home (l : Law) (b : Int) (k : Nat) (v : List UInt8) : Prop := v.length = 64 ∧ ∀ o : Nat, o < 64 → cov b l.L (64 * k + o) ∨ v[o]? = (l.C b)[64 * k + o]?
def old (l : Law) (k : Nat) (v : List UInt8) : Prop := (1 ≤ k → v = ZZ 64) ∧ (k = 0 → ∀ s, supE s = 0 → v = sec (bytesS s) 0 → s.1 < l.S.1)
structure sector (l : Law) (b : Int) (k : Nat) (v : List UInt8) : Prop where
 sup : b = slotS l.S → v = sec (bytesS l.S) k
 old : b = 1 - slotS l.S → l.old k v
 log : 3 ≤ b → b < 3 + l.n → l.log b k v
 home : usableS l.P b → l.home b k v
end Law
def Al (D : DM) (A : Int → Nat → List UInt8 → Prop) : Prop := ∀ (b : Int) (k : Nat) (v : List UInt8), 0 ≤ b → b < D.blocks.length → k < 4 → Sv D b k v → A b k v
theorem Al.mono {D : DM} {A B : Int → Nat → List UInt8 → Prop} (h : Al D A) (hab : ∀ b k v, A b k v → B b k v) : Al D B := fun b k v h0 h1 hk hs => hab b k v (h b k v h0 h1 hk hs)
theorem Al.rd {D : DM} {A : Int → Nat → List UInt8 → Prop} (h : Al D A) {b : Int} (hb : 0 ≤ b ∧ b < D.blocks.length) {k : Nat} (hk : k < 4) : A b k (sec (rdD D b) k) := h b k _ hb.1 hb.2 hk (rd_sv hb k)
theorem Al.write {D : DM} {A : Int → Nat → List UInt8 → Prop} (h : Al D A) (hD : D.ok) {N : Nat} (hb : D.bd N) {i : Int} {l : List UInt8} (hl : ∀ k, k < 4 → A i k (sec l k)) : Al (writeD D i l).2 A := by
 intro b k v h0 h1 hk hs
 rw [(writeD_ok hD hb i l).2.2] at h1
 rcases write_sv hD h0 hk hs with h2 | ⟨rfl, rfl⟩
 · exact h b k v h0 h1 hk h2
 · exact hl k hk
theorem Al.flush {D : DM} {A : Int → Nat → List UInt8 → Prop} (h : Al D A) {N : Nat} (hD : DB N D) : Al (flushD D).2 A := by
 intro b k v h0 h1 hk hs
 rw [(flushD_dg hD).len] at h1
 exact h b k v h0 h1 hk (flush_sv hD.ok h0 hk hs)
theorem Al.quiet {D : DM} {A : Int → Nat → List UInt8 → Prop} (hw : D.wait = []) (h : ∀ (b : Int) (k : Nat), 0 ≤ b → b < D.blocks.length → k < 4 → A b k (sec (rdD D b) k)) : Al D A := by
 intro b k v h0 h1 hk hs
 rw [sv_quiet hw hs]
 exact h b k h0 h1 hk
theorem slot_01 (s : Sup) : slotS s = 0 ∨ slotS s = 1 := by unfold slotS; split <;> omega
section
variable {l : Law} {len : Nat}
theorem Law.ok.g (hl : l.ok len) : geoR (supG l.S) ∧ (planT (supG l.S)).2.2.2.2.2 ≤ l.S.2.1 ∧ l.S.2.1 ≤ 2048 ∧ ofG (supG l.S) = (planT (supG l.S), 0) := by
 have h1 := (supE_ok hl.S).1
 have h2 : ofG (supG l.S) = (planT (supG l.S), 0) := by unfold ofG; rw [if_pos h1]
 have h3 := ofG_ok (g := supG l.S) (by rw [h2])
 exact ⟨h3.1, h3.2.1, h3.2.2.1, h2⟩
theorem Law.ok.n1 (hl : l.ok len) : 8 ≤ l.n ∧ l.n ≤ 256 := hl.g.1.1
theorem usable_ge {g : Geo} (hg : geoR g) {b : Int} (h : usableS (planT g) b) : b = 2 ∨ 3 + g.2.1 ≤ b ∧ b < (planT g).2.2.2.2.2 := by
 unfold usableS planT at h
 unfold planT
 dsimp only at h ⊢
 omega
theorem plan_gt {g : Geo} (hg : geoR g) : 3 + g.2.1 < (planT g).2.2.2.2.2 := by
 obtain ⟨g1, g2, g3⟩ := hg
 have h1 : 0 ≤ (g.2.2.2 + 31) / 32 := Int.ediv_nonneg (by omega) (by omega)
 have h2 : 0 ≤ (g.2.2.2 + 63) / 64 := Int.ediv_nonneg (by omega) (by omega)
 unfold planT
 dsimp only
 omega
theorem Law.ok.ub (hl : l.ok len) {b : Int} (h : usableS l.P b) : 0 ≤ b ∧ b < len := by
 obtain ⟨g1, g2, g3, _⟩ := hl.g
 have := usable_ge g1 h
 have h2 := hl.len
 have h3 : 8 ≤ (supG l.S).2.1 := g1.1.1
 have h4 : (planT (supG l.S)).2.2.2.2.2 ≤ len := by omega
 have h5 : 0 ≤ (supG l.S).2.2.2 ∧ 0 ≤ (supG l.S).2.2.1 := ⟨by have := g1.2.2.1; omega, by have := g1.2.1.1; omega⟩
 have h6 : 3 + (supG l.S).2.1 < (planT (supG l.S)).2.2.2.2.2 := plan_gt g1
 omega
theorem Law.ok.lb (hl : l.ok len) : 3 + l.n < len := by
 obtain ⟨g1, g2, g3, _⟩ := hl.g
 have h2 := hl.len
 have h4 : 3 + l.n < (planT (supG l.S)).2.2.2.2.2 := plan_gt g1
 omega
theorem Law.ok.lok (hl : l.ok len) : ∀ v ∈ l.L, okV v = true := fun v hv => hl.rok v (com_mem hv).2
theorem Law.ok.fits (hl : l.ok len) : fits l.L := fits_ok hl.lok
theorem Law.ok.may (hl : l.ok len) {i : Int} (h : 0 ≤ i ∧ i ≤ 1000000) : mayL (l.h + i) := by
 obtain ⟨_, _, _, h1, h2⟩ := supE_ok hl.S
 unfold mayL
 have e : l.h = l.S.2.2.2.2.2 := rfl
 omega
theorem chosen_is {D : DM} (hl : l.ok D.blocks.length) (hD : D.ok) (ho : D.off = false) (ha : Al D l.sector) : chosenS D = (l.S, 0) := by
 have hlb := hl.lb
 have hn := hl.n1
 have h256 : ∀ b : Int, 0 ≤ b → b < 2 → (rdD D b).length = 256 := fun b h0 h1 => rdD_len hD h0 (by omega)
 have hpos : 1 ≤ l.S.1 := (supE_ok hl.S).2.1
 have hs : ∀ b : Int, 0 ≤ b → b < 2 → b = slotS l.S → parseS (rdD D b) = (l.S, 0) := fun b h0 h1 hb => by
   rw [sec_ext (h256 b h0 h1) (bytesS_len l.S) fun k hk => (ha.rd ⟨h0, by omega⟩ hk).sup hb]
   exact super_back hl.S
 have hold : ∀ b : Int, 0 ≤ b → b < 2 → b = 1 - slotS l.S → (parseS (rdD D b)).2 = 0 → (parseS (rdD D b)).1.1 < l.S.1 := fun b h0 h1 hb hp => by
   have h2 := parseS_ok hp
   exact ((ha.rd (b := b) ⟨h0, by omega⟩ (k := 0) (by decide)).old hb).2 rfl _ h2.1 (by rw [h2.2.2])
 have hc : chooseS (rdD D 0) (rdD D 1) = (l.S, 0) := by
   rw [choose_best]
   have : bestS (rdD D 1) 1 (bestS (rdD D 0) 0 Sup0) = l.S := by
     rcases slot_01 l.S with h | h
     · have h1 : bestS (rdD D 0) 0 Sup0 = l.S := by
         rw [bestS_eq, hs 0 (by decide) (by decide) h.symm, if_pos ⟨⟨rfl, h⟩, by show l.S.1 > 0; omega⟩]
       rw [h1, bestS_eq, if_neg]
       rintro ⟨⟨h2, _⟩, h3⟩
       have := hold 1 (by decide) (by decide) (by omega) h2
       omega
     · have h1 : (bestS (rdD D 0) 0 Sup0).1 < l.S.1 := by
         rw [bestS_eq]
         by_cases h2 : ((parseS (rdD D 0)).2 = 0 ∧ slotS (parseS (rdD D 0)).1 = 0) ∧ (parseS (rdD D 0)).1.1 > Sup0.1
         · rw [if_pos h2]; exact hold 0 (by decide) (by decide) (by omega) h2.1.1
         · rw [if_neg h2]; show (0 : Int) < _; omega
       rw [bestS_eq (rdD D 1), hs 1 (by decide) (by decide) h.symm, if_pos ⟨⟨rfl, h⟩, h1⟩]
   rw [this, if_neg (by omega)]
 unfold chosenS
 rw [if_neg (by omega), ho, if_neg (by decide), hc, if_neg]
 rintro ⟨_, h⟩
 exact h hl.len
theorem scanned {D : DM} (hl : l.ok D.blocks.length) (ha : Al D l.sector) : scanO D 3 l.n l.h = l.R := by
 have hlb := hl.lb
 have hn := hl.n1
 have hR := hl.R
 refine scan_is (by omega) l.R _ l.h (by omega) (fun i x hx => ⟨fun b k hk hat => ?_, rec_ok.2 ⟨hl.may ⟨by omega, by have := (split_at hx).2; omega⟩, hl.rok x (List.mem_of_getElem? hx)⟩⟩) ?_
 · have hb := at_blk hk (by omega) hat
   exact ((ha.rd ⟨by omega, by omega⟩ hk).log hb.1 hb.2).1 i x hx hat
 · rcases Int.lt_or_eq_of_le hR with h | h
   · refine .inr fun b k hk hat h0 => ?_
     have hb := at_blk hk (by omega) hat
     refine (((ha.rd (b := b) ⟨by omega, by omega⟩ hk).log hb.1 hb.2).2 (fun i hi h' => ?_) _ h0).2 rfl
     have := at_one hat h' (by omega) (by omega)
     omega
   · exact .inl (by omega)
theorem scan_next {D : DM} (hl : l.ok D.blocks.length) (ha : Al D l.sector) {t : Int} (ht : l.h + 4 * l.n ≤ t) : scanO D 3 l.n t = [] := by
 have hlb := hl.lb
 have hn := hl.n1
 have hR := hl.R
 refine scan_is (by omega) [] _ t (by simp) (fun i x hx => by simp at hx) (.inr fun b k hk hat h0 => ?_)
 rw [show t + (([] : List Rv).length : Int) = t by simp] at hat h0
 have hb := at_blk hk (by omega) hat
 have hlog := (ha.rd (b := b) ⟨by omega, by omega⟩ hk).log hb.1 hb.2
 by_cases hex : ∃ i : Nat, i < l.R.length ∧ At l.n b k (l.h + i)
 · obtain ⟨i, hi, hat2⟩ := hex
   have hx : l.R[i]? = some l.R[i] := by simp [hi]
   have he := hlog.1 i _ hx hat2
   rw [he] at h0
   have h1 := rec_back (hl.may (i := (i : Int)) ⟨by omega, by omega⟩) (hl.rok _ (List.mem_of_getElem? hx))
   have h2 := take_one h0 (by rw [h1])
   omega
 · have := (hlog.2 (fun i hi h' => hex ⟨i, hi, h'⟩) t h0).1
   have := hl.U
   omega
theorem redone {D : DM} (hl : l.ok D.blocks.length) (hD : D.ok) (ha : Al D l.sector) {b : Int} (hb : usableS l.P b) : redoV b (rdD D b) l.L = l.C b := by
 have hu := hl.ub hb
 rw [← hl.fix b hb]
 refine redoV_agree b _ _ _ (rdD_len hD hu.1 hu.2) (hl.clen b hb) hl.fits fun i => ?_
 by_cases hi : i < 256
 · have := ((ha.rd hu (k := i / 64) (by omega)).home hb).2 (i % 64) (by omega)
   rw [sec_get _ _ _ (by omega), show 64 * (i / 64) + i % 64 = i by omega] at this
   exact this.symm
 · rw [List.getElem?_eq_none (by rw [rdD_len hD hu.1 hu.2]; omega), List.getElem?_eq_none (by rw [hl.clen b hb]; omega)]
   exact .inl rfl
end
end Go.Proofs

set_option maxRecDepth 20000
namespace Go.Proofs
open Go.Eng
structure Nx (l : Law) (S : Sup) : Prop where
 s : supE S = 0
 g : supG S = supG l.S
 e : S.1 = l.S.1 + 1
 U : l.U ≤ S.2.2.2.2.2
 h : l.h + l.R.length ≤ S.2.2.2.2.2
def Law.nx (l : Law) (S : Sup) : Law := ⟨S, [], S.2.2.2.2.2, l.C⟩
section
variable {l : Law} {S : Sup}
theorem Nx.slot (h : Nx l S) (hs : supE l.S = 0) : slotS S = 1 - slotS l.S := by
 have h1 := (supE_ok hs).2.1
 have h2 := h.e
 unfold slotS
 rw [if_neg (by omega), if_neg (by omega)]
 omega
theorem Nx.P (h : Nx l S) : (l.nx S).P = l.P := congrArg planT h.g
theorem Nx.n (h : Nx l S) : S.2.2.1 = l.S.2.2.1 := congrArg (·.2.1) h.g
theorem Nx.ok {len : Nat} (h : Nx l S) (hl : l.ok len) : (l.nx S).ok len where
 S := h.s
 len := by rw [hl.len]; exact (congrArg (·.1) h.g).symm
 R := by
   have := hl.n1.1
   have := h.n
   show ((0 : Nat) : Int) ≤ 4 * S.2.2.1
   have e : l.n = l.S.2.2.1 := rfl
   omega
 rok := fun v hv => by cases hv
 use := fun v hv => by cases hv
 U := by
   have := hl.n1.1
   have := h.n
   have e : l.n = l.S.2.2.1 := rfl
   show S.2.2.2.2.2 ≤ S.2.2.2.2.2 + 4 * S.2.2.1
   omega
 clen := fun b hb => hl.clen b (by rw [← h.P]; exact hb)
 fix := fun b _ => rfl
theorem super_inj {s t : Sup} (hs : supE s = 0) (ht : supE t = 0) (h : sec (bytesS s) 0 = sec (bytesS t) 0) : s = t := by
 have h1 : bytesS s = bytesS t := super_whole (bytesS_len s) h fun k h1 h2 => super_sec s ⟨h1, h2⟩
 have h2 := super_back hs
 rw [h1, super_back ht] at h2
 exact (congrArg (·.1) h2).symm
theorem Nx.sector {D : DM} (h : Nx l S) (hl : l.ok D.blocks.length) (hc : ∀ b, usableS l.P b → rdD D b = l.C b) (hD : D.ok) {b : Int} {k : Nat} (h0 : 0 ≤ b) (h1 : b < D.blocks.length) (hk : k < 4) (hv : l.sector b k (sec (rdD D b) k)) (hb : b ≠ slotS S) : (l.nx S).sector b k (sec (rdD D b) k) := by
 have hsl := h.slot hl.S
 refine ⟨fun h2 => absurd h2 hb, fun h2 => ?_, fun h2 h3 => ?_, fun h2 => ?_⟩
 · have h2 : b = 1 - slotS S := h2
   have h3 := hv.sup (by omega)
   rw [h3]
   refine ⟨fun h4 => super_sec _ ⟨h4, hk⟩, fun h4 s hs he => ?_⟩
   subst h4
   rw [← super_inj hl.S hs he]
   show l.S.1 < S.1
   rw [h.e]; omega
 · have h3 : b < 3 + S.2.2.1 := h3
   have hn := h.n
   have hg := hv.log h2 (by show b < 3 + l.S.2.2.1; omega)
   refine ⟨fun i x hx => (by cases hx), fun _ q hq => ?_⟩
   show q < S.2.2.2.2.2 ∧ q ≠ S.2.2.2.2.2 + (0 : Nat)
   have hU := h.U
   have hh := h.h
   by_cases hex : ∃ i : Nat, i < l.R.length ∧ At l.n b k (l.h + i)
   · obtain ⟨i, hi, hat⟩ := hex
     have hx : l.R[i]? = some l.R[i] := by simp [hi]
     have he := hg.1 i _ hx hat
     rw [he] at hq
     have hR := hl.R
     have hn1 := hl.n1
     have h5 := rec_back (hl.may (i := (i : Int)) ⟨by omega, by omega⟩) (hl.rok _ (List.mem_of_getElem? hx))
     have h6 := take_one hq (by rw [h5])
     omega
   · have := (hg.2 (fun i hi h' => hex ⟨i, hi, h'⟩) q hq).1
     omega
 · have hu : usableS l.P b := by rw [← h.P]; exact h2
   refine ⟨(hv.home hu).1, fun o ho => .inr ?_⟩
   rw [sec_get _ _ _ ho, hc b hu]; rfl
theorem usable_hi {D : DM} (hl : l.ok D.blocks.length) {b : Int} (h : usableS l.P b) : 2 ≤ b ∧ (b = 2 ∨ 3 + l.n ≤ b) := by
 obtain ⟨g1, _⟩ := hl.g
 have := usable_ge g1 h
 have hn := hl.n1
 have e : (supG l.S).2.1 = l.n := rfl
 omega
theorem note_ok {D : DM} {N : Nat} (hl : l.ok D.blocks.length) (hD : DB N D) (ho : D.off = false) (hw : D.wait = []) (ha : Al D l.sector) (hc : ∀ b, usableS l.P b → rdD D b = l.C b) (hx : Nx l S) :
   ((noteD D S).1 = 0 ∧ (noteD D S).2.off = false ∧ (noteD D S).2.wait = [] ∧ Al (noteD D S).2 (l.nx S).sector ∧ ∀ b, 2 ≤ b → rdD (noteD D S).2 b = rdD D b) ∨
   ((noteD D S).1 = 5 ∧ (noteD D S).2.off = true ∧ (noteD D S).2.wait = [] ∧ (Al (noteD D S).2 l.sector ∨ Al (noteD D S).2 (l.nx S).sector)) := by
 have hlb := hl.lb
 have hn1 := hl.n1
 have hsl := hx.slot hl.S
 have hs0 : 0 ≤ slotS S ∧ slotS S < 2 := by rcases slot_01 S with h | h <;> omega
 have hi : 0 ≤ slotS S ∧ slotS S < D.blocks.length := by omega
 have hnu : ∀ {b}, usableS l.P b → slotS S ≠ b := fun hb => by have := (usable_hi hl hb).1; omega

 have fin : ∀ E : DM, E.ok → E.blocks.length = D.blocks.length → E.wait = [] → (∀ (b : Int) (k : Nat), 0 ≤ b → b < D.blocks.length → k < 4 → sec (rdD E b) k = sec (rdD D b) k ∨ (slotS S = b ∧ sec (rdD E b) k = sec (bytesS S) k)) →
     (Al E l.sector ∧ sec (rdD E (slotS S)) 0 = sec (rdD D (slotS S)) 0) ∨ (Al E (l.nx S).sector ∧ sec (rdD E (slotS S)) 0 = sec (bytesS S) 0) := fun E hE hlen hwE hsec => by
   have hz : ∀ k, 1 ≤ k → k < 4 → sec (rdD E (slotS S)) k = ZZ 64 := fun k h1 h2 => by
     rcases hsec _ k hi.1 hi.2 h2 with h | ⟨_, h⟩
     · rw [h]; exact ((ha.rd hi h2).old hsl).1 h1
     · rw [h]; exact super_sec S ⟨h1, h2⟩
   rcases hsec _ 0 hi.1 hi.2 (by decide) with h | ⟨_, h⟩
   · refine .inl ⟨Al.quiet hwE fun b k h0 h1 hk => ?_, h⟩
     rw [hlen] at h1
     have hv := ha.rd (b := b) ⟨h0, h1⟩ hk
     by_cases hb : slotS S = b
     · subst hb
       rcases Nat.eq_zero_or_pos k with rfl | hk0
       · rw [h]; exact hv
       · rw [hz k hk0 hk]
         rw [(hv.old hsl).1 hk0] at hv
         exact hv
     · rcases hsec b k h0 h1 hk with h2 | ⟨h2, _⟩
       · rw [h2]; exact hv
       · exact absurd h2 hb
   · refine .inr ⟨Al.quiet hwE fun b k h0 h1 hk => ?_, h⟩
     rw [hlen] at h1
     by_cases hb : slotS S = b
     · subst hb
       refine ⟨fun _ => ?_, fun h2 => ?_, fun h2 _ => ?_, fun h2 => ?_⟩
       · rcases Nat.eq_zero_or_pos k with rfl | hk0
         · exact h
         · rw [hz k hk0 hk]; exact (super_sec S ⟨hk0, hk⟩).symm
       · have h2 : slotS S = 1 - slotS S := h2
         omega
       · omega
       · rw [hx.P] at h2
         exact absurd rfl (hnu h2)
     · rcases hsec b k h0 h1 hk with h2 | ⟨h2, _⟩
       · rw [h2]
         exact hx.sector hl hc hD.ok h0 h1 hk (ha.rd ⟨h0, h1⟩ hk) fun h => hb h.symm
       · exact absurd h2 hb
 unfold noteD
 rw [if_neg (not_not_intro hx.s)]
 have hbl := bytesS_len S
 have hg1 := writeD_dg hD (slotS S) (bytesS S)
 have hsv : ∀ E : DM, E.wait = [] → E.blocks.length = D.blocks.length → (∀ (b : Int) (k : Nat) (v : List UInt8), 0 ≤ b → k < 4 → Sv E b k v → Sv (writeD D (slotS S) (bytesS S)).2 b k v) → ∀ (b : Int) (k : Nat), 0 ≤ b → b < D.blocks.length → k < 4 → sec (rdD E b) k = sec (rdD D b) k ∨ (slotS S = b ∧ sec (rdD E b) k = sec (bytesS S) k) := fun E _ hlen hE b k h0 h1 hk => by
   rcases write_sv hD.ok h0 hk (hE b k _ h0 hk (rd_sv ⟨h0, by rw [hlen]; exact h1⟩ k)) with h | h
   · exact .inl (sv_quiet hw h)
   · exact .inr h
 rcases write_cases hD.ok ho hi hbl with ⟨h1, h2, h3⟩ | ⟨h1, h2, h3⟩
 · rw [if_neg (not_not_intro h1)]
   have hfl := (flushD_dg hg1.db).len.trans hg1.len
   have hfo := (flushD_dg hg1.db).db.ok
   rcases flush_cases hg1.db.ok h2 with ⟨f1, f2, f3, f4⟩ | ⟨f1, f2, f3⟩
   · refine .inl ⟨f1, f2, f3, ?_, fun b hb => ?_⟩
     · rcases fin _ hfo hfl f3 (hsv _ f3 hfl fun b k v h0 hk h => flush_sv hg1.db.ok h0 hk h) with ⟨_, h⟩ | ⟨h, _⟩
       ·
         refine (fin _ hfo hfl f3 fun b k h0 h1' hk => ?_).elim (fun h' => ?_) fun h' => h'.1
         · rw [f4 b h0, h3]
           by_cases hb : slotS S = b
           · rw [if_pos hb]; exact .inr ⟨hb, rfl⟩
           · rw [if_neg hb]; exact .inl rfl
         · rw [f4 _ hi.1, h3, if_pos rfl] at h
           exfalso
           have h4 := ((ha.rd hi (k := 0) (by decide)).old hsl).2 rfl S hx.s h.symm
           have := hx.e
           omega
       · exact h
     · rw [f4 b (by omega), h3, if_neg (by omega)]
   · refine .inr ⟨f1, f2, f3, ?_⟩
     exact (fin _ hfo hfl f3 (hsv _ f3 hfl fun b k v h0 hk h => flush_sv hg1.db.ok h0 hk h)).imp (·.1) (·.1)
 · rw [if_pos (by rw [h1]; decide)]
   refine .inr ⟨h1, h2, h3, ?_⟩
   exact (fin _ hg1.db.ok hg1.len h3 (hsv _ h3 hg1.len fun _ _ _ _ _ h => h)).imp (·.1) (·.1)
end
end Go.Proofs

set_option maxRecDepth 20000
namespace Go.Proofs
open Go.Eng
def On (r : Int × DM) : Prop := r.1 = 0 ∧ r.2.off = false
def Off (r : Int × DM) : Prop := r.1 = 5 ∧ r.2.off = true ∧ r.2.wait = []
section
variable {l : Law}
theorem home_ok {len : Nat} (hl : l.ok len) {b : Int} (hb : usableS l.P b) {v : List UInt8} (hv : v = l.C b) {D : DM} (hlen : D.blocks.length = len) : ∀ k, k < 4 → l.sector b k (sec v k) := by
 subst hlen
 have h2 := usable_hi hl hb
 intro k hk
 refine ⟨fun h => ?_, fun h => ?_, fun h h3 => ?_, fun _ => ⟨by rw [hv]; exact sec_len (hl.clen b hb) hk, fun o ho => .inr ?_⟩⟩
 · have := slot_01 l.S; omega
 · have := slot_01 l.S; omega
 · omega
 · rw [sec_get _ _ _ ho, hv]
theorem redo_ok {len : Nat} (hl : l.ok len) : ∀ (ks : List Int) (D : DM) (N : Nat), (∀ k ∈ ks, usableS l.P k) → DB N D → D.blocks.length = len → D.off = false → Al D l.sector →
   (On (redoB l.L ks D) ∧ (redoB l.L ks D).2.wait = [] ∧ Al (redoB l.L ks D).2 l.sector ∧ ∀ b, 0 ≤ b → rdD (redoB l.L ks D).2 b = if b ∈ ks then l.C b else rdD D b) ∨ (Off (redoB l.L ks D) ∧ Al (redoB l.L ks D).2 l.sector)
 | [], D, N, _, hD, hlen, ho, ha => by
   rw [redoB]
   have h1 := ha.flush hD
   rcases flush_cases hD.ok ho with ⟨f1, f2, f3, f4⟩ | ⟨f1, f2, f3⟩
   · exact .inl ⟨⟨f1, f2⟩, f3, h1, fun b hb => by rw [if_neg (by simp), f4 b hb]⟩
   · exact .inr ⟨⟨f1, f2, f3⟩, h1⟩
 | k :: ks, D, N, hu, hD, hlen, ho, ha => by
   subst hlen
   have hk := hu k (by simp)
   have hr := hl.ub hk
   have hp : placeE D k = 0 := by unfold placeE; rw [ho, if_neg (by simp), if_neg (by omega)]
   have hrl := rdD_len hD.ok hr.1 hr.2
   have he : redoEV (rdD D k) l.L = 0 := redoE_of hrl hl.lok
   have hv := redone hl hD.ok ha hk
   rw [redoB, if_neg (not_not_intro hp), if_neg (not_not_intro he), hv]
   by_cases h : l.C k = rdD D k
   · rw [if_pos h]
     rcases redo_ok hl ks D N (fun j hj => hu j (by simp [hj])) hD rfl ho ha with ⟨h1, h2, h3, h4⟩ | h1
     · refine .inl ⟨h1, h2, h3, fun b hb => ?_⟩
       rw [h4 b hb]
       by_cases hbk : b = k
       · subst hbk
         by_cases hm : b ∈ ks
         · simp [hm]
         · simp [hm, h]
       · simp [hbk]
     · exact .inr h1
   · rw [if_neg h]
     have hal := ha.write hD.ok hD.bd (i := k) (l := l.C k) (home_ok hl hk rfl (D := D) rfl)
     have hg := writeD_dg hD k (l.C k)
     rcases write_cases hD.ok ho hr (hl.clen k hk) with ⟨w1, w2, w3⟩ | ⟨w1, w2, w3⟩
     · rw [if_neg (not_not_intro w1)]
       rcases redo_ok hl ks _ (N + 2) (fun j hj => hu j (by simp [hj])) hg.db hg.len w2 hal with ⟨h1, h2, h3, h4⟩ | h1
       · refine .inl ⟨h1, h2, h3, fun b hb => ?_⟩
         rw [h4 b hb, w3]
         by_cases hbk : b = k
         · subst hbk
           simp
         · simp [hbk, show ¬ k = b from fun h => hbk h.symm]
       · exact .inr h1
     · rw [if_pos (by rw [w1]; decide)]
       exact .inr ⟨⟨w1, w2, w3⟩, hal⟩
abbrev Law.up (l : Law) : Sup := (lapS l.S (l.h + l.R.length)).1
theorem up_ok {len : Nat} (hl : l.ok len) (he : l.S.1 < 1152921504606846976) (hh : l.h + 2048 ≤ 1152921504606846976) : Nx l l.up ∧ (lapS l.S (l.h + l.R.length)).2 = 0 ∧ l.up.2.2.2.2.2 = l.h + l.R.length + 4 * l.n := by
 obtain ⟨_, h1, h2, h3, h4⟩ := supE_ok hl.S
 have hR := hl.R
 have hn := hl.n1
 have hU := hl.U
 have e1 : l.h = l.S.2.2.2.2.2 := rfl
 have e2 : l.n = l.S.2.2.1 := rfl
 have hlap : lapV (l.h + l.R.length) l.S.2.2.1 = l.h + l.R.length + 4 * l.n := by
   unfold lapV
   rw [if_neg (by omega)]
 have hne : nextE l.S (l.h + l.R.length + 4 * l.n) = 0 := by
   unfold nextE
   rw [if_neg (not_not_intro hl.S), if_neg (by omega), if_neg (by omega)]
 have hS : lapS l.S (l.h + l.R.length) = ((l.S.1 + 1, l.S.2.1, l.S.2.2.1, l.S.2.2.2.1, l.S.2.2.2.2.1, l.h + l.R.length + 4 * l.n), 0) := by
   unfold lapS nextS
   rw [hlap, if_pos hne]
 refine ⟨?_, by rw [hS], by unfold Law.up; rw [hS]⟩
 unfold Law.up
 rw [hS]
 refine ⟨?_, rfl, rfl, by dsimp only; omega, by dsimp only; omega⟩
 rw [supE_g (s := (l.S.1 + 1, l.S.2.1, l.S.2.2.1, l.S.2.2.2.1, l.S.2.2.2.2.1, l.h + l.R.length + 4 * l.n)) (supE_ok hl.S).1, if_pos]
 exact ⟨by dsimp only; omega, by dsimp only; omega, by dsimp only; omega, by dsimp only; omega⟩
theorem open_ok {D : DM} {N : Nat} (hl : l.ok D.blocks.length) (hD : DB N D) (ho : D.off = false) (ha : Al D l.sector) (he : l.S.1 < 1152921504606846976) (hh : l.h + 2048 ≤ 1152921504606846976) :
   ((On (openT D) ∧ (openT D).2.wait = [] ∧ Al (openT D).2 (l.nx l.up).sector ∧ (∀ b, usableS l.P b → rdD (openT D).2 b = l.C b) ∧ ∀ b, 2 ≤ b → ¬ usableS l.P b → rdD (openT D).2 b = rdD D b) ∨
   (Off (openT D) ∧ (Al (openT D).2 l.sector ∨ Al (openT D).2 (l.nx l.up).sector))) ∧ DG D (openT D).2 N 2060 := by
 obtain ⟨hx, hx0, hxh⟩ := up_ok hl he hh
 have hlb := hl.lb
 have hn := hl.n1
 have hR := hl.R
 obtain ⟨_, h1, h2, h3, h4⟩ := supE_ok hl.S
 have e1 : l.h = l.S.2.2.2.2.2 := rfl
 have e2 : l.n = l.S.2.2.1 := rfl
 have hsc := scanned hl ha
 have hor : ∀ t : Int, 0 ≤ t → t ≤ 1152921504606846976 → openR D 3 l.n t = 0 := fun t h0 h1 => by
   unfold openR
   rw [if_neg (by unfold badO; omega), ho, if_neg (by decide)]
 have hlap : lapE D l.S (l.h + l.R.length) = 0 := by
   unfold lapE
   have hnx := scan_next hl ha (t := l.up.2.2.2.2.2) (by rw [hxh]; omega)
   have h5 := hor l.up.2.2.2.2.2 (by rw [hxh]; omega) (by rw [hxh]; omega)
   rw [if_neg (not_not_intro hx0)]
   change (if openR D 3 l.n l.up.2.2.2.2.2 ≠ 0 then _ else _) = (0 : Int)
   rw [if_neg (not_not_intro h5)]
   change (if 0 < (scanO D 3 l.n l.up.2.2.2.2.2).length then (50 : Int) else 0) = 0
   rw [hnx]
   rfl
 have hus : (com l.R).1.all (fun v => decide (usableS (ofG (supG l.S)).1 v.2.1)) = true := by
   rw [List.all_eq_true]
   intro v hv
   rw [hl.g.2.2.2]
   exact decide_eq_true (hl.use v hv)
 have hT : openT D = if (redoD l.L D).1 ≠ 0 then redoD l.L D else noteD (redoD l.L D).2 l.up := by
   unfold openT
   rw [ho, if_neg (by decide), chosen_is hl hD.ok ho ha]
   dsimp only
   rw [if_neg (by decide), hl.g.2.2.2]
   dsimp only
   rw [if_neg (by decide)]
   have h6 := hor l.h (by omega) (by omega)
   change (if openR D 3 l.n l.h ≠ 0 then _ else _) = _
   rw [if_neg (not_not_intro h6)]
   have hus' := hus
   rw [hl.g.2.2.2] at hus'
   dsimp only at hus'
   change (if (com (scanO D 3 l.n l.h)).1.all (fun v => decide (usableS (planT (supG l.S)) v.2.1)) = false then _ else if lapE D l.S (l.h + (scanO D 3 l.n l.h).length) ≠ 0 then _ else if (redoD (com (scanO D 3 l.n l.h)).1 D).1 ≠ 0 then _ else noteD (redoD (com (scanO D 3 l.n l.h)).1 D).2 (lapS l.S (l.h + (scanO D 3 l.n l.h).length)).1) = _
   rw [hsc, hus', if_neg (by decide), if_neg (not_not_intro hlap)]
 have hmem : ∀ k ∈ blocksV l.L, usableS l.P k := fun k hk => by
   obtain ⟨v, hv, _, rfl⟩ := mem_setB.1 ((sortI_perm _).subset hk)
   exact hl.use v hv
 have hkl : (blocksV l.L).length ≤ 1024 := by
   have h5 := setB_len l.L
   have h6 : l.L.length ≤ l.R.length := com_size l.R
   unfold blocksV
   rw [(sortI_perm _).length_eq]
   omega
 have hdg := redoB_dg l.L (blocksV l.L) hD
 have hr := redo_ok hl (blocksV l.L) D N hmem hD rfl ho ha
 rw [show redoB l.L (blocksV l.L) D = redoD l.L D from rfl] at hr
 change DG D (redoD l.L D).2 N _ at hdg
 rw [hT]
 generalize hE : redoD l.L D = E at hr hdg
 rcases hr with ⟨⟨r1, r2⟩, r3, r4, r5⟩ | ⟨⟨r1, r2, r3⟩, r4⟩
 · rw [if_neg (not_not_intro r1)]
   have hC : ∀ b, usableS l.P b → rdD E.2 b = l.C b := fun b hb => by
     have h0 := hl.ub hb
     have h7 : rdD E.2 b = if b ∈ blocksV l.L then l.C b else rdD D b := r5 b h0.1
     rw [h7]
     by_cases hm : b ∈ blocksV l.L
     · rw [if_pos hm]
     · rw [if_neg hm, ← redone hl hD.ok ha hb, redoV_other b _ _ hl.lok hm]
   have hD2 : ∀ b, 2 ≤ b → ¬ usableS l.P b → rdD E.2 b = rdD D b := fun b hb hu => by
     have h7 : rdD E.2 b = if b ∈ blocksV l.L then l.C b else rdD D b := r5 b (by omega)
     rw [h7, if_neg fun hm => hu (hmem b hm)]
   have hl2 : l.ok E.2.blocks.length := by rw [hdg.len]; exact hl
   have hng := noteD_dg hdg.db l.up
   refine ⟨?_, (hdg.trans hng).mono (by omega)⟩
   rcases note_ok hl2 hdg.db r2 r3 r4 hC hx with ⟨n1, n2, n3, n4, n5⟩ | ⟨n1, n2, n3, n4⟩
   · refine .inl ⟨⟨n1, n2⟩, n3, n4, fun b hb => ?_, fun b hb hu => ?_⟩
     · rw [n5 b (usable_hi hl hb).1, hC b hb]
     · rw [n5 b hb, hD2 b hb hu]
   · exact .inr ⟨⟨n1, n2, n3⟩, n4⟩
 · rw [if_pos (by rw [r1]; decide)]
   exact ⟨.inr ⟨⟨r1, r2, r3⟩, .inl r4⟩, hdg.mono (by omega)⟩
end
end Go.Proofs

set_option maxRecDepth 20000
namespace Go.Proofs
open Go.Eng
theorem CC.move {N : Nat} {P : PlanT} {C : CM} {D E : DM} (h : CC N P C D) (hl : E.blocks.length = D.blocks.length) (hr : ∀ b, usableS P b → rdD E b = rdD D b) : CC N P C E :=
 ⟨by rw [hl]; exact h.ok, h.room, h.clean, fun x hx hd => by rw [hr _ (h.use x hx)]; exact h.coh x hx hd, h.ask, h.use⟩
theorem TM.ok.n1 {T : TM} (ht : T.ok) : 8 ≤ T.n ∧ T.n ≤ 256 := (ofG_ok ht.g).1.1
theorem TM.ok.us {T : TM} (ht : T.ok) {b : Int} (h : usableS T.P b) : 2 ≤ b ∧ (b = 2 ∨ 3 + T.n ≤ b) := by
 obtain ⟨g1, _, _, g4⟩ := ofG_ok ht.g
 rw [ht.P, g4] at h
 have := usable_ge g1 h
 have hn := ht.n1
 have e : (supG T.S).2.1 = T.n := rfl
 omega
theorem TM.ok.lb {T : TM} (ht : T.ok) : 3 + T.n < T.D.blocks.length := by
 obtain ⟨g1, g2, _, _⟩ := ofG_ok ht.g
 have := plan_gt g1
 have e : (supG T.S).2.1 = T.n := rfl
 have e2 : (supG T.S).1 = T.S.2.1 := rfl
 have := ht.len
 omega
theorem appX_cases {D : DM} {N : Nat} {n h : Int} {R ys : List Rv} (hD : DB N D) (ho : D.off = false) (hn : 1 ≤ n ∧ n + 3 ≤ D.blocks.length) (hh : 0 ≤ h) :
   ((Ap n D (appX D 3 n h R ys).2 (h + R.length) ys (appX D 3 n h R ys).1 ∧ (∀ x ∈ ys, okV x = true)) ∨ (((appX D 3 n h R ys).1 = 60 ∨ (appX D 3 n h R ys).1 = 70 ∨ (appX D 3 n h R ys).1 = 3) ∧ (appX D 3 n h R ys).2 = D)) ∧ DG D (appX D 3 n h R ys).2 N (2 * ys.length) := by
 unfold appX
 by_cases h1 : ys.all okV = false
 · rw [if_pos h1]; exact ⟨.inr ⟨.inl rfl, rfl⟩, .refl hD _⟩
 rw [if_neg h1]
 by_cases h2 : (ys.length : Int) > 4 * n - R.length
 · rw [if_pos h2]; exact ⟨.inr ⟨.inr (.inl rfl), rfl⟩, .refl hD _⟩
 rw [if_neg h2]
 by_cases h3 : (ys.length : Int) > 1152921504606846976 - (h + R.length)
 · rw [if_pos h3]; exact ⟨.inr ⟨.inr (.inr rfl), rfl⟩, .refl hD _⟩
 rw [if_neg h3]
 have h1 : ∀ x ∈ ys, okV x = true := by simpa using h1
 have := appD_ap (N0 := D.blocks.length) hn ys.length D (h + R.length) ys N hD rfl ho (Nat.le_refl _) fun i x hx => rec_ok.2 ⟨by
   have := (split_at hx).2
   unfold mayL; omega, h1 x (List.mem_of_getElem? hx)⟩
 exact ⟨.inl ⟨this.1, h1⟩, this.2⟩
theorem Ap.rd {D D' : DM} {n q : Int} {ys : List Rv} (h : Ap n D D' q ys 0) (hD : D.ok) (hD' : D'.ok) (hl : D'.blocks.length = D.blocks.length) (hn : 1 ≤ n) {b : Int} (hb : 0 ≤ b ∧ b < D.blocks.length) (hb2 : b < 3 ∨ 3 + n ≤ b) : rdD D' b = rdD D b := by
 rcases h.res with ⟨_, _, h3⟩ | ⟨h3, _⟩
 · refine sec_ext (rdD_len hD' hb.1 (by omega)) (rdD_len hD hb.1 hb.2) fun k hk => ?_
   rcases h3 b k hb.1 hk with ⟨h4, _⟩ | ⟨i, x, _, h4, _⟩
   · exact h4
   · have := at_blk hk hn h4; omega
 · cases h3
def TM.app (T : TM) (ys : List Rv) : Int × TM :=
 let A := appX T.D 3 T.n T.h T.R ys
 if A.1 = 0 then ((flushD A.2).1, ({ T with D := (flushD A.2).2, R := T.R ++ ys } : TM).told (flushD A.2).1)
 else if A.1 = 3 then (6, { T with D := A.2 }) else (A.1, ({ T with D := A.2 } : TM).told A.1)
section
variable {x dp N M : Nat} {T : TM} {w w0 : World} {F0 : Nat → Prop} {L : List HA}
theorem told_dead {T : TM} {e : Int} (h : (T.told e).dead = false) : T.dead = false ∧ e ≠ 5 := by
 have h : (T.dead || e == 5) = false := h
 cases hx : T.dead <;> simp_all
theorem appC {p : Sl} {ys : List Rc} {K : Int → Pr} (h : St F0 w0 w (TxA x dp N T :: DiskA dp T.D :: SlA 5 p (rcs ys) :: bts ys :: L)) (ht : T.ok) (hD : DB M T.D) (hM : M ≤ 900000) (hd : T.dead = false) (ho : T.D.off = false) (hy : ys.length ≤ 2000)
   (hK : ∀ w', St F0 w0 w' (TxA x dp N (T.app (ys.map rv)).2 :: DiskA dp (T.app (ys.map rv)).2.D :: SlA 5 p (rcs ys) :: bts ys :: L) → K (T.app (ys.map rv)).1 w') : callF Tryz.prog 64 [P0 x, slV p] [.c (.int .i64)] K w := by
 refine callF_of (post := K) (F64_calls _ _ _ _ ?_) fun _ _ h => h
 unfold F64
 obtain ⟨I, hp, s0⟩ := h.tOpen
 have cc := hp.cc hd
 rw [deref_some']
 refine s0.L 0 rfl (p := some ⟨I.b, 0, none⟩) rfl ?_
 rw [deref_some']
 refine s0.L 1 rfl (p := some ⟨I.g, 0, none⟩) rfl ?_
 have s1 : St F0 w0 w (BoxA I.g (ringC dp 3 T.n T.h I.s) :: SlA 5 I.s (rcs I.xs) :: bts I.xs :: DiskA dp T.D :: SlA 5 p (rcs ys) :: bts ys :: BoxA x (storeC I.b dp T.S T.P T.busy T.dead I.m) :: BoxA I.b [P0 I.g, P0 I.c] :: CacheA I.c dp I.C :: MapA intKT I.m (I.pl.map Pg.kv) :: bigA (I.pl.map Pg.A) :: L) := s0.sel [2, 3, 4, 8, 9, 10, 0, 1, 5, 6, 7] 11
 obtain ⟨G, H, g2, g3, g4, _, gc⟩ := St.call (ringO I.g dp 3 T.n T.h I.s I.xs ++ [DiskA dp T.D]) s1
 have hn := ht.n1
 have hlb := ht.lb
 have hR := ht.R
 have hxl : I.xs.length = T.R.length := by rw [← hp.xs, List.length_map]
 have hple := (s1.sel [4] 11).sl.le
 have hpl := (s1.sel [4, 5] 11).rl.len
 have hh := ht.h
 refine callF_of (V115 g2 hD (by omega) (by omega) (by omega) (by have : T.h ≤ 1152921504606846976 := hh.2; omega) (by omega) (RdL.own g3 g4) hple (by omega)) ?_
 rw [hp.xs]
 obtain ⟨hcs, hdg⟩ := appX_cases (D := T.D) (N := M) (n := T.n) (h := T.h) (R := T.R) (ys := ys.map rv) hD ho ⟨by omega, by omega⟩ hh.1
 rw [List.length_map] at hdg
 unfold TM.app at hK
 dsimp only at hK
 generalize appX T.D 3 T.n T.h T.R (ys.map rv) = A at hcs hdg hK
 rintro e w1 ⟨t, zs, he, hz, s2⟩
 have s2 := gc _ _ s2
 have s3 : St F0 w0 w1 (BoxA x (storeC I.b dp T.S T.P T.busy T.dead I.m) :: BoxA I.b [P0 I.g, P0 I.c] :: BoxA I.g (ringC dp 3 T.n T.h t) :: SlA 5 t (rcs zs) :: bts zs :: CacheA I.c dp I.C :: MapA intKT I.m (I.pl.map Pg.kv) :: bigA (I.pl.map Pg.A) :: DiskA dp A.2 :: SlA 5 p (rcs ys) :: bts ys :: L) := St.sel [6, 7, 0, 1, 2, 8, 9, 10, 3, 4, 5] 11 s2
 subst he
 have us := fun (b : Int) (hb : usableS T.P b) => ht.us hb
 have mv : ∀ {E : DM}, E.blocks.length = A.2.blocks.length → (∀ b, 0 ≤ b → rdD E b = rdD A.2 b) → A.1 ≠ 5 → CC N T.P I.C E := fun {E} hl hr hne => by
   refine cc.move (hl.trans hdg.len) fun b hb => ?_
   have hu := usable_lt ht hb
   rw [hr b hu.1]
   rcases hcs with ⟨h1, _⟩ | ⟨_, h1⟩
   · have h0 : A.1 = 0 := by
       rcases h1.res with ⟨h2, _⟩ | ⟨h2, _⟩
       · exact h2
       · exact absurd h2 hne
     rw [h0] at h1
     exact h1.rd hD.ok hdg.db.ok hdg.len (by omega) hu (by have := us b hb; omega)
   · rw [h1]
 by_cases h0 : A.1 = 0
 · refine br_t (by simpa using h0) ?_
   rw [if_pos h0] at hK hz
   have hoff : A.2.off = false := by
     rcases hcs with ⟨h1, _⟩ | ⟨h1, _⟩
     · rcases h1.res with ⟨_, h2, _⟩ | ⟨h2, _⟩
       · exact h2
       · rw [h0] at h2; cases h2
     · rw [h0] at h1
       rcases h1 with h1 | h1 | h1 <;> cases h1
   rw [deref_some']
   refine s3.L 0 rfl (p := some ⟨I.b, 0, none⟩) rfl ?_
   rw [deref_some']
   refine s3.L 1 rfl (p := some ⟨I.g, 0, none⟩) rfl ?_
   obtain ⟨G, H, g2, _, _, _, gc⟩ := St.call [BoxA I.g (ringC dp 3 T.n T.h t), DiskA dp A.2] (s3.sel [2, 8, 0, 1, 3, 4, 5, 6, 7] 9)
   refine callF_of (V116 g2 hdg.db (by omega)) ?_
   rintro f w2 ⟨rfl, s4⟩
   have s4 := gc _ _ s4
   have hfc := flush_cases hdg.db.ok hoff
   have hfl := (flushD_dg hdg.db).len
   generalize flushD A.2 = E at s4 hfc hfl hK

   have s7 : St F0 w0 w2 (BoxA x (storeC I.b dp T.S T.P T.busy T.dead I.m) :: BoxA I.b [P0 I.g, P0 I.c] :: BoxA I.g (ringC dp 3 T.n T.h t) :: SlA 5 t (rcs zs) :: bts zs :: CacheA I.c dp I.C :: MapA intKT I.m (I.pl.map Pg.kv) :: bigA (I.pl.map Pg.A) :: DiskA dp E.2 :: SlA 5 p (rcs ys) :: bts ys :: L) := St.sel [2, 3, 0, 4, 5, 6, 7, 8, 1] 9 s4
   obtain ⟨G, H, g1, g2, _, _, _, gc⟩ := s7.call1
   refine callF_of (V109 (e := E.1) g2) ?_
   rintro r w3 ⟨he, s8⟩
   rw [he]
   refine hK w3 (St.tClose (T := ({ T with D := E.2, R := T.R ++ ys.map rv } : TM).told E.1) (i := { I with s := t, xs := zs }) (gc _ _ s8) ⟨hz, hp.pl, fun hdd => ?_⟩)
   have hne := (told_dead hdd).2
   rcases hfc with ⟨_, _, _, f4⟩ | ⟨f1, _⟩
   · exact mv hfl f4 (by rw [h0]; decide)
   · exact absurd f1 hne
 · refine br_f (by simpa using h0) ?_
   rw [if_neg h0] at hK hz
   by_cases h3 : A.1 = 3
   · refine br_t (by simpa using h3) ?_
     rw [if_pos h3] at hK
     exact hK w1 (St.tClose (T := { T with D := A.2 }) (i := { I with s := t, xs := zs }) s3 ⟨hz, hp.pl, fun _ => mv rfl (fun _ _ => rfl) (by rw [h3]; decide)⟩)
   · refine br_f (by simpa using h3) ?_
     rw [if_neg h3] at hK
     obtain ⟨G, H, g1, g2, _, _, _, gc⟩ := s3.call1
     refine callF_of (V109 (e := A.1) g2) ?_
     rintro r w3 ⟨he, s8⟩
     rw [he]
     exact hK w3 (St.tClose (T := ({ T with D := A.2 } : TM).told A.1) (i := { I with s := t, xs := zs }) (gc _ _ s8) ⟨hz, hp.pl, fun hdd => mv rfl (fun _ _ => rfl) (told_dead hdd).2⟩)
end
end Go.Proofs

set_option maxRecDepth 20000
namespace Go.Proofs
open Go.Eng
def homeD (f : Int → List UInt8) : List Int → DM → Int × DM
 | [], D => (0, D)
 | k :: ks, D => if (writeD D k (f k)).1 ≠ 0 then writeD D k (f k) else homeD f ks (writeD D k (f k)).2
section
variable {x dp N M : Nat} {T : TM} {w w0 : World} {F0 : Nat → Prop} {L : List HA}
theorem homeC {p : Sl} {xs : List Rc} {K : Int → Pr} (h : St F0 w0 w (TxA x dp N T :: DiskA dp T.D :: L)) (hr : RL w p xs) (ht : T.ok) (hD : DB M T.D) (hM : M ≤ 990000) (hN : N ≤ 100000000) (hd : T.dead = false) (ho : T.D.off = false) (hx : xs.length ≤ 2000)
   (hk : ∀ k ∈ blocksV (xs.map rv), ∃ q ∈ T.pg, q.1 = k)
   (hK : ∀ w', St F0 w0 w' (TxA x dp (N + 2000) (({ T with D := (homeD T.page (blocksV (xs.map rv)) T.D).2 } : TM).told (homeD T.page (blocksV (xs.map rv)) T.D).1) :: DiskA dp (homeD T.page (blocksV (xs.map rv)) T.D).2 :: L) → K (homeD T.page (blocksV (xs.map rv)) T.D).1 w') :
   callF Tryz.prog 66 [P0 x, slV p] [.c (.int .i64)] K w := by
 refine callF_of (post := K) (F66_calls _ _ _ _ ?_) fun _ _ h => h
 unfold F66
 have hpl := hr.len
 refine ⟨trivial, St.nw h fun r w1 s1 g1 _ => ⟨trivial, St.nw s1 fun r1 w2 s2 g2 _ => ?_⟩⟩
 have s2 : St F0 w0 w2 (BoxA r1 [iv 0] :: BoxA r [P0 x] :: TxA x dp N T :: DiskA dp T.D :: L) := s2
 refine callF_of (V117 p xs w2 (hr.grow (Grow.trans g1 g2)) (by omega)) ?_
 rintro _ w3 ⟨b, t, rfl, k3⟩
 have s3 : St F0 w0 w3 (BoxA b [slV t] :: SlA 1 t (ints (blocksV (xs.map rv))) :: BoxA r1 [iv 0] :: BoxA r [P0 x] :: TxA x dp N T :: DiskA dp T.D :: L) := s2.call0 k3
 have hbl := blocks_len xs
 obtain ⟨ks, hks⟩ : ∃ ks, blocksV (xs.map rv) = ks := ⟨_, rfl⟩
 rw [hks] at s3 hbl hk hK
 have hln : ∀ {D' : DM} {M' : Nat}, DG T.D D' M M' → D'.blocks.length = T.D.blocks.length := fun h => h.len
 refine rng_st (shs := [.c (.int .i64)]) (IterI.L (iter_values ⟨b, 0, none⟩ t ks (by omega))) (F0 := F0) (w0 := w0)
   (fun e : Nat × DM => BoxA b [slV t] :: SlA 1 t (ints ks) :: BoxA r1 [iv 0] :: BoxA r [P0 x] :: TxA x dp (N + e.1) { T with D := e.2 } :: DiskA dp e.2 :: L)
   (fun j e => e.1 = j ∧ j ≤ ks.length ∧ DG T.D e.2 M (2 * j) ∧ e.2.off = false ∧ homeD T.page ks T.D = homeD T.page (ks.drop j) e.2)
   (fun e : Nat × Int × DM => BoxA b [slV t] :: SlA 1 t (ints ks) :: BoxA r1 [iv e.2.1] :: BoxA r [P0 x] :: TxA x dp (N + e.1) (({ T with D := e.2.2 } : TM).told e.2.1) :: DiskA dp e.2.2 :: L)
   (fun q e => q = none ∧ e.1 ≤ ks.length ∧ homeD T.page ks T.D = e.2) (0, T.D) ⟨rfl, by omega, .refl hD _, ho, rfl⟩ s3 ?_ ?_ ?_ ?_
 · intro j s W T' _ hs
   have hs : St F0 w0 W (BoxA b [slV t] :: SlA 1 t (ints ks) :: (BoxA r1 [iv 0] :: BoxA r [P0 x] :: TxA x dp (N + s.1) { T with D := s.2 } :: DiskA dp s.2 :: L ++ T')) := hs
   exact ⟨hs.box.row 0 _ rfl, owns_ints (hs.bring 1).sl⟩
 · rintro l m Ro _ z ⟨j, D'⟩ W bg nx lv hx' ⟨rfl, hjl, hdg, hoff, hX⟩ hs hbg hnx hlv
   refine hbg _ _ _ hs fun W2 _ s5 => ?_
   have s5 : St F0 w0 W2 (BoxA b [slV t] :: SlA 1 t (ints ks) :: BoxA r1 [iv 0] :: BoxA r [P0 x] :: TxA x dp (N + j) { T with D := D' } :: DiskA dp D' :: (L ++ [ObjA l (Ro .busy), ObjA m ddO])) := s5
   dsimp only at hjl hdg hoff hX hx'
   have hlt : j < ks.length := (List.getElem?_eq_some_iff.1 hx').1
   have hxe : ks[j] = z := (List.getElem?_eq_some_iff.1 hx').2
   rw [List.drop_eq_getElem_cons hlt, hxe, homeD] at hX
   obtain ⟨q, hq, hqz⟩ := hk z (by rw [← hxe]; exact List.getElem_mem hlt)
   have hu : usableS T.P z := by rw [← hqz]; exact (ht.pg q hq).1
   have hr2 := usable_lt ht hu
   have hlen : D'.blocks.length = T.D.blocks.length := hdg.len
   rw [drw_def]
   have s6 := (s5.sel [4, 0, 1, 2, 3, 5] 6).drew
   obtain ⟨I, hp, s7⟩ := s6.tOpen
   generalize W2.drew = W3 at s7
   have cc : CC (N + j) T.P I.C D' := hp.cc hd
   have s7 : St F0 w0 W3 (BoxA x (storeC I.b dp T.S T.P T.busy T.dead I.m) :: BoxA I.b [P0 I.g, P0 I.c] :: BoxA I.g (ringC dp 3 T.n T.h I.s) :: SlA 5 I.s (rcs I.xs) :: bts I.xs :: CacheA I.c dp I.C :: MapA intKT I.m (I.pl.map Pg.kv) :: bigA (I.pl.map Pg.A) :: BoxA b [slV t] :: SlA 1 t (ints ks) :: BoxA r1 [iv 0] :: BoxA r [P0 x] :: DiskA dp D' :: (L ++ [ObjA l (Ro .busy), ObjA m ddO])) := s7
   refine s7.L 11 rfl (p := (some ⟨x, 0, none⟩ : Option Addr)) rfl ?_
   rw [deref_some']
   refine s7.L 0 rfl (p := some ⟨I.b, 0, none⟩) rfl ?_
   rw [deref_some']
   refine s7.L 1 rfl (p := some ⟨I.c, 0, none⟩) rfl ?_
   refine s7.L 11 rfl (p := (some ⟨x, 0, none⟩ : Option Addr)) rfl ?_
   rw [deref_some']
   refine s7.L 0 rfl (p := some I.m) rfl ?_
   refine St.mapAt (T := intKT) (s7.bring 6) (k := z) (fun v hv => ?_) fun hv => ?_
   rotate_left
   · rcases lkp_pg z I.pl with ⟨_, h1⟩ | ⟨_, p, _, _, h3, _⟩
     · rw [hp.pl, List.find?_eq_none] at h1
       exact absurd (by simpa using hqz) (h1 q hq)
     · rw [h3] at hv; cases hv
   rcases lkp_pg z I.pl with ⟨h1, _⟩ | ⟨jj, p, h1, h2, h3, h4⟩
   · rw [h1] at hv; cases hv
   rw [h3, Option.some.injEq] at hv
   refine ⟨p.s, hv.symm, ?_⟩
   have hpg : T.page z = p.b := by
     unfold TM.page
     have : (List.map Pg.m I.pl) = T.pg := hp.pl
     rw [← this, h4]; rfl
   have hnl : p.b.length = 256 := by rw [← hpg]; exact TM.page_len ht hu
   rw [hpg] at hX

   have s8 := ((s7.bring 7).pick (i := jj) (A := p.A) (by simp [h1]))
   have s8 : St F0 w0 W3 (SlA 1 p.s (p.b.map ub) :: bigA ((I.pl.map Pg.A).eraseIdx jj) :: BoxA x (storeC I.b dp T.S T.P T.busy T.dead I.m) :: BoxA I.b [P0 I.g, P0 I.c] :: BoxA I.g (ringC dp 3 T.n T.h I.s) :: SlA 5 I.s (rcs I.xs) :: bts I.xs :: CacheA I.c dp I.C :: MapA intKT I.m (I.pl.map Pg.kv) :: BoxA b [slV t] :: SlA 1 t (ints ks) :: BoxA r1 [iv 0] :: BoxA r [P0 x] :: DiskA dp D' :: (L ++ [ObjA l (Ro .busy), ObjA m ddO])) := s8
   have s9 := s8.sel [7, 13, 0, 1, 2, 3, 4, 5, 6, 8, 9, 10, 11, 12] 14
   have hdb := hdg.db
   refine cacheWr s9 cc hdb (by omega) (by omega) hoff (by omega) hu hnl fun C1 W4 s10 hcl => ?_
   refine br_f rfl ?_
   have s10 : St F0 w0 W4 (CacheA I.c dp C1 :: DiskA dp D' :: SlA 1 p.s (p.b.map ub) :: bigA ((I.pl.map Pg.A).eraseIdx jj) :: BoxA x (storeC I.b dp T.S T.P T.busy T.dead I.m) :: BoxA I.b [P0 I.g, P0 I.c] :: BoxA I.g (ringC dp 3 T.n T.h I.s) :: SlA 5 I.s (rcs I.xs) :: bts I.xs :: MapA intKT I.m (I.pl.map Pg.kv) :: BoxA b [slV t] :: SlA 1 t (ints ks) :: BoxA r1 [iv 0] :: BoxA r [P0 x] :: (L ++ [ObjA l (Ro .busy), ObjA m ddO])) := s10
   refine s10.L 13 rfl (p := (some ⟨x, 0, none⟩ : Option Addr)) rfl ?_
   rw [deref_some']
   refine s10.L 4 rfl (p := some ⟨I.b, 0, none⟩) rfl ?_
   rw [deref_some']
   refine s10.L 5 rfl (p := some ⟨I.c, 0, none⟩) rfl ?_
   refine callF_of hcl ?_
   rintro _ W5 ⟨rfl, C2, hc2, s11⟩
   have s11 : St F0 w0 W5 (CacheA I.c dp C2 :: DiskA dp (writeD D' z p.b).2 :: SlA 1 p.s (p.b.map ub) :: bigA ((I.pl.map Pg.A).eraseIdx jj) :: BoxA x (storeC I.b dp T.S T.P T.busy T.dead I.m) :: BoxA I.b [P0 I.g, P0 I.c] :: BoxA I.g (ringC dp 3 T.n T.h I.s) :: SlA 5 I.s (rcs I.xs) :: bts I.xs :: MapA intKT I.m (I.pl.map Pg.kv) :: BoxA b [slV t] :: SlA 1 t (ints ks) :: BoxA r1 [iv 0] :: BoxA r [P0 x] :: (L ++ [ObjA l (Ro .busy), ObjA m ddO])) := s11
   have hjl2 := (split_at h1).2
   have s12 := St.unpick (A := SlA 1 p.s (p.b.map ub)) (i := jj) (s11.sel [2, 3, 0, 1, 4, 5, 6, 7, 8, 9, 10, 11, 12, 13] 14) (by simpa using hjl2)
   have e1 : (I.pl.map Pg.A).set jj (SlA 1 p.s (p.b.map ub)) = I.pl.map Pg.A := by
     refine List.ext_getElem? fun a => ?_
     rw [List.getElem?_set]
     split
     · rename_i hja
       subst hja
       rw [if_pos (by simpa using hjl2), List.getElem?_map, h1]; rfl
     · rfl
   rw [e1] at s12
   have s13 : St F0 w0 W5 (BoxA x (storeC I.b dp T.S T.P T.busy T.dead I.m) :: BoxA I.b [P0 I.g, P0 I.c] :: BoxA I.g (ringC dp 3 T.n T.h I.s) :: SlA 5 I.s (rcs I.xs) :: bts I.xs :: CacheA I.c dp C2 :: MapA intKT I.m (I.pl.map Pg.kv) :: bigA (I.pl.map Pg.A) :: BoxA b [slV t] :: SlA 1 t (ints ks) :: BoxA r1 [iv 0] :: BoxA r [P0 x] :: DiskA dp (writeD D' z p.b).2 :: (L ++ [ObjA l (Ro .busy), ObjA m ddO])) := s12.sel [3, 4, 5, 6, 7, 1, 8, 0, 9, 10, 11, 12, 2] 13
   have hwg := writeD_dg hdb z p.b
   have hwc := write_cases hdb.ok hoff (show 0 ≤ z ∧ z < D'.blocks.length by rw [hlen]; exact hr2) hnl
   generalize hW : writeD D' z p.b = E at s13 hc2 hwg hwc hX ⊢
   refine br_of (fun hne => ?_) fun heq => ?_
   · have hne : E.1 ≠ 0 := by simpa using hne
     rw [if_pos hne] at hX
     refine s13.L 11 rfl (p := (some ⟨x, 0, none⟩ : Option Addr)) rfl ?_
     obtain ⟨G, H, _, g2, _, _, _, gc⟩ := s13.call1
     refine callF_of (V109 (e := E.1) g2) ?_
     rintro r2 W6 ⟨he, s14⟩
     rw [he]
     have s15 := gc _ _ s14
     have h5 : E.1 = 5 := by rcases hwc with ⟨h, _⟩ | ⟨h, _⟩; exact absurd h hne; exact h
     have s16 := St.tClose (N := N + j) (T := ({ T with D := E.2 } : TM).told E.1) (i := { I with C := C2 }) s15 ⟨hp.xs, hp.pl, fun hdd => absurd h5 (told_dead hdd).2⟩
     refine s16.S 3 rfl (by simp) trivial fun W7 s17 => ?_
     exact hlv none (j, E) W7 ⟨rfl, by dsimp only; omega, hX⟩ (s17.sel [1, 2, 3, 4, 0, 5] 6)
   · have h0 : E.1 = 0 := by simpa using heq
     rw [if_neg (not_not_intro h0)] at hX
     have s16 := St.tClose (N := N + j + 1) (T := { T with D := E.2 }) (i := { I with C := C2 }) s13 ⟨hp.xs, hp.pl, fun _ => hc2 h0⟩
     refine hnx (j + 1, E.2) W5 ⟨rfl, hlt, (hdg.trans hwg).mono (by omega), ?_, hX⟩ (s16.sel [1, 2, 3, 4, 0, 5] 6)
     rcases hwc with ⟨_, h, _⟩ | ⟨h, _⟩
     · exact h
     · rw [h0] at h; cases h
 · rintro m ⟨j, D'⟩ W ⟨rfl, _, hdg, hoff, hX⟩ hs
   dsimp only at hdg hoff hX
   rw [List.drop_length, homeD] at hX
   rw [hX] at hK
   have hs : St F0 w0 W (BoxA b [slV t] :: SlA 1 t (ints ks) :: BoxA r1 [iv 0] :: BoxA r [P0 x] :: TxA x dp (N + ks.length) { T with D := D' } :: DiskA dp D' :: (L ++ [ObjA m ddO])) := hs
   refine hs.S 2 rfl (by simp) trivial fun W2 s4 => ?_
   refine takesAt (V := BoxA b [slV t] :: SlA 1 t (ints ks) :: BoxA r1 [iv 0] :: BoxA r [P0 x] :: TxA x dp (N + ks.length) { T with D := D' } :: DiskA dp D' :: L) (T := []) s4 fun W3 s5 => ?_
   rw [List.append_nil] at s5
   refine s5.L 2 rfl (p := (0 : Int)) rfl ?_
   have e0 : ({ T with D := D' } : TM).told 0 = { T with D := D' } := by unfold TM.told; simp
   refine hK W3 ?_
   show St F0 w0 W3 (TxA x dp (N + 2000) (({ T with D := D' } : TM).told 0) :: DiskA dp D' :: L)
   rw [e0]
   exact (s5.sel [4, 5] 6).tMono (by omega)
 · rintro m q ⟨j, e⟩ W ⟨rfl, hj, hX⟩ hs
   dsimp only at hj hX
   rw [hX] at hK
   have hs : St F0 w0 W (BoxA b [slV t] :: SlA 1 t (ints ks) :: BoxA r1 [iv e.1] :: BoxA r [P0 x] :: TxA x dp (N + j) (({ T with D := e.2 } : TM).told e.1) :: DiskA dp e.2 :: (L ++ [ObjA m ddO])) := hs
   refine takesAt (V := BoxA b [slV t] :: SlA 1 t (ints ks) :: BoxA r1 [iv e.1] :: BoxA r [P0 x] :: TxA x dp (N + j) (({ T with D := e.2 } : TM).told e.1) :: DiskA dp e.2 :: L) (T := []) hs fun W3 s5 => ?_
   rw [List.append_nil] at s5
   refine s5.L 2 rfl (p := e.1) rfl ?_
   exact hK W3 ((s5.sel [4, 5] 6).tMono (by omega))
end
end Go.Proofs

set_option maxRecDepth 20000
namespace Go.Proofs
open Go.Eng
def TM.cpt (T : TM) : Int × TM :=
 if T.R = [] then (0, T) else
 if (flushD T.D).1 ≠ 0 then ((flushD T.D).1, ({ T with D := (flushD T.D).2 } : TM).told (flushD T.D).1) else
 if (nextS T.S (T.h + T.R.length)).2 ≠ 0 then (6, { T with D := (flushD T.D).2 }) else
 if (noteD (flushD T.D).2 (nextS T.S (T.h + T.R.length)).1).1 ≠ 0 then ((noteD (flushD T.D).2 (nextS T.S (T.h + T.R.length)).1).1, ({ T with D := (noteD (flushD T.D).2 (nextS T.S (T.h + T.R.length)).1).2 } : TM).told (noteD (flushD T.D).2 (nextS T.S (T.h + T.R.length)).1).1)
 else (0, { T with D := (noteD (flushD T.D).2 (nextS T.S (T.h + T.R.length)).1).2, S := (nextS T.S (T.h + T.R.length)).1, R := [] })
theorem note_rd {D : DM} {N : Nat} {S : Sup} (hD : DB N D) (ho : D.off = false) (hl : 2 ≤ D.blocks.length) : (noteD D S).1 = 5 ∨ ∀ b, 2 ≤ b → rdD (noteD D S).2 b = rdD D b := by
 have hs := slot_01 S
 unfold noteD
 split
 · exact .inr fun _ _ => rfl
 · rcases write_cases hD.ok ho (i := slotS S) (by omega) (bytesS_len S) with ⟨h1, h2, h3⟩ | ⟨h1, _⟩
   · rw [if_neg (not_not_intro h1)]
     have hg := writeD_dg hD (slotS S) (bytesS S)
     rcases flush_cases hg.db.ok h2 with ⟨_, _, _, f4⟩ | ⟨f1, _⟩
     · exact .inr fun b hb => by rw [f4 b (by omega), h3, if_neg (by omega)]
     · exact .inl f1
   · rw [if_pos (by rw [h1]; decide)]; exact .inl h1
section
variable {x dp N M : Nat} {T : TM} {w w0 : World} {F0 : Nat → Prop} {L : List HA}
theorem heldC {K : Int → Pr} (h : St F0 w0 w (TxA x dp N T :: L)) (ht : T.ok) (hK : ∀ w', St F0 w0 w' (TxA x dp N T :: L) → K T.R.length w') : callF Tryz.prog 19 [P0 x] [.c (.int .i64)] K w := by
 refine callF_of (post := K) (F19_calls _ _ _ ?_) fun _ _ h => h
 unfold F19
 obtain ⟨I, hp, s0⟩ := h.tOpen
 refine callF_of (V56 s0.box) ?_
 rintro _ _ ⟨rfl, rfl⟩
 refine br_f rfl ?_
 rw [drw_def]
 have s1 := s0.drew
 have s2 := h.drew
 clear s0 h
 generalize w.drew = W at s1 s2 ⊢
 simp only [deref_some']
 refine s1.L 0 rfl (p := some ⟨I.b, 0, none⟩) rfl ?_
 refine s1.L 1 rfl (p := some ⟨I.g, 0, none⟩) rfl ?_
 have hR := ht.R
 have hn := ht.n1
 have hh := ht.h
 have hx := (s1.sel [3, 4] 8).rl.len
 have hxl : I.xs.length = T.R.length := by rw [← hp.xs, List.length_map]
 have c57 : ∀ {W' : World} {k : Int → Pr}, Grow W W' → (∀ W2, Grow W W2 → k (T.h + T.R.length) W2) → callF Tryz.prog 57 [RP I.g] [.c (.int .i64)] k W' := fun {W' k} g hk => by
   refine callF_of (V57 ((s1.bring 2).box.grow g) (by omega) (by omega)) ?_
   rintro r W2 ⟨hr, g2⟩
   rw [hr, show T.h + (I.s.len : Int) = T.h + T.R.length by omega]
   exact hk W2 (Grow.trans g g2)
 refine jn_of (fun c W' => c = (T.h + T.R.length, some ⟨I.g, 0, none⟩) ∧ Grow W W') ?_ ?_
 · have ld0 : ∀ {W' : World} {k : Option Addr → Pr}, Grow W W' → k (some ⟨I.b, 0, none⟩) W' → ldP (bA x 0) k W' := fun g hk => (s1.grow g).L 0 rfl (p := some ⟨I.b, 0, none⟩) rfl hk
   have ld1 : ∀ {W' : World} {k : Option Addr → Pr}, Grow W W' → k (some ⟨I.g, 0, none⟩) W' → ldP (bA I.b 0) k W' := fun g hk => (s1.grow g).L 1 rfl (p := some ⟨I.g, 0, none⟩) rfl hk
   refine ⟨?_, ?_⟩
   · refine c57 (Mod.refl _ W) fun W2 g => ?_
     refine ld0 g ?_
     refine ld1 g ?_
     exact ⟨rfl, g⟩
   · refine ld0 (Mod.refl _ W) ?_
     refine ⟨?_, ?_⟩
     · refine c57 (Mod.refl _ W) fun W2 g => ?_
       refine ld1 g ?_
       exact ⟨rfl, g⟩
     · refine ld1 (Mod.refl _ W) ?_
       refine c57 (Mod.refl _ W) fun W2 g => ?_
       exact ⟨rfl, g⟩
 rintro _ W2 ⟨rfl, g⟩
 refine callF_of (V58 ((s1.bring 2).box.grow g)) ?_
 rintro _ _ ⟨rfl, rfl⟩
 rw [w64_of ⟨by omega, by omega⟩, show T.h + (T.R.length : Int) - T.h = T.R.length by omega]
 exact hK W2 (s2.grow g)
theorem nextS_ok {s : Sup} {h : Int} (he : (nextS s h).2 = 0) : nextS s h = ((s.1 + 1, s.2.1, s.2.2.1, s.2.2.2.1, s.2.2.2.2.1, h), 0) ∧ s.2.2.2.2.2 ≤ h ∧ h ≤ 1152921504606846976 ∧ supE s = 0 := by
 unfold nextS at he ⊢
 by_cases h0 : nextE s h = 0
 · rw [if_pos h0]
   unfold nextE at h0
   by_cases h1 : supE s ≠ 0
   · rw [if_pos h1] at h0; exact absurd h0 h1
   · rw [if_neg h1] at h0
     by_cases h2 : h < s.2.2.2.2.2 ∨ h > 1152921504606846976
     · rw [if_pos h2] at h0; cases h0
     · exact ⟨rfl, by omega, by omega, Classical.not_not.1 h1⟩
 · rw [if_neg h0] at he; exact absurd he h0
theorem cptC {K : Int → Pr} (h : St F0 w0 w (TxA x dp N T :: DiskA dp T.D :: L)) (ht : T.ok) (hD : DB M T.D) (hM : M ≤ 900000) (hd : T.dead = false) (ho : T.D.off = false)
   (hK : ∀ w', St F0 w0 w' (TxA x dp N T.cpt.2 :: DiskA dp T.cpt.2.D :: L) → K T.cpt.1 w') : callF Tryz.prog 63 [P0 x] [.c (.int .i64)] K w := by
 refine callF_of (post := K) (F63_calls _ _ _ ?_) fun _ _ h => h
 unfold F63
 have hR := ht.R
 have hn := ht.n1
 have hh := ht.h
 have hlb := ht.lb
 unfold TM.cpt at hK
 refine heldC h ht fun w1 s1 => ?_
 by_cases hr0 : T.R = []
 · rw [if_pos hr0] at hK
   exact br_t (by simp [hr0]) (hK w1 s1)
 rw [if_neg hr0] at hK
 have hr1 : T.R.length ≠ 0 := fun h => hr0 (List.eq_nil_of_length_eq_zero h)
 refine br_f (by simpa using hr1) ?_
 obtain ⟨I, hp, s2⟩ := s1.tOpen
 have cc := hp.cc hd
 rw [deref_some']
 refine s2.L 0 rfl (p := some ⟨dp, 0, none⟩) rfl ?_
 refine flC' (s2.sel [8, 0, 1, 2, 3, 4, 5, 6, 7] 9) hD (by omega) fun w2 s3 => ?_
 have hfg := flushD_dg hD
 have hfc := flush_cases hD.ok ho
 generalize flushD T.D = E at s3 hK hfg hfc ⊢
 have us := fun (b : Int) (hb : usableS T.P b) => ht.us hb
 have s3 : St F0 w0 w2 (BoxA x (storeC I.b dp T.S T.P T.busy T.dead I.m) :: BoxA I.b [P0 I.g, P0 I.c] :: BoxA I.g (ringC dp 3 T.n T.h I.s) :: SlA 5 I.s (rcs I.xs) :: bts I.xs :: CacheA I.c dp I.C :: MapA intKT I.m (I.pl.map Pg.kv) :: bigA (I.pl.map Pg.A) :: DiskA dp E.2 :: L) := St.sel [1, 2, 3, 4, 5, 6, 7, 8, 0] 9 s3
 have tell : ∀ {W : World} {G : DM} {e : Int} (s : St F0 w0 W (BoxA x (storeC I.b dp T.S T.P T.busy T.dead I.m) :: BoxA I.b [P0 I.g, P0 I.c] :: BoxA I.g (ringC dp 3 T.n T.h I.s) :: SlA 5 I.s (rcs I.xs) :: bts I.xs :: CacheA I.c dp I.C :: MapA intKT I.m (I.pl.map Pg.kv) :: bigA (I.pl.map Pg.A) :: DiskA dp G :: L)), (e ≠ 5 → CC N T.P I.C G) →
     (∀ w', St F0 w0 w' (TxA x dp N (({ T with D := G } : TM).told e) :: DiskA dp G :: L) → K e w') → callF Tryz.prog 109 [P0 x, iv e] [.c (.int .i64)] K W := fun {W G e} s hc hk => by
   obtain ⟨G', H, _, g2, _, _, _, gc⟩ := s.call1
   refine callF_of (V109 (e := e) g2) ?_
   rintro r w3 ⟨he, s8⟩
   rw [he]
   exact hk w3 (St.tClose (T := ({ T with D := G } : TM).told e) (i := I) (gc _ _ s8) ⟨hp.xs, hp.pl, fun hdd => hc (told_dead hdd).2⟩)
 by_cases hE : E.1 ≠ 0
 · rw [if_pos hE] at hK
   refine br_t (by simpa using hE) (tell s3 (fun h5 => ?_) hK)
   rcases hfc with ⟨f1, _⟩ | ⟨f1, _⟩
   · exact absurd f1 hE
   · exact absurd f1 h5
 rw [if_neg hE] at hK
 refine br_f (by simpa using hE) ?_
 obtain ⟨fo, frd⟩ : E.2.off = false ∧ ∀ b, 0 ≤ b → rdD E.2 b = rdD T.D b := by
   rcases hfc with ⟨_, f2, _, f4⟩ | ⟨f1, _⟩
   · exact ⟨f2, f4⟩
   · rw [f1] at hE; exact absurd (by decide) hE
 have hx := (s3.sel [3, 4] 8).rl.len
 have hxl : I.xs.length = T.R.length := by rw [← hp.xs, List.length_map]
 rw [deref_some']
 refine s3.L 0 rfl (p := some ⟨I.b, 0, none⟩) rfl ?_
 rw [deref_some']
 refine s3.L 1 rfl (p := some ⟨I.g, 0, none⟩) rfl ?_
 refine callF_of (V57 (s3.bring 2).box (by omega) (by omega)) ?_
 rintro tl w3 ⟨htl, g3⟩
 rw [show T.h + (I.s.len : Int) = T.h + T.R.length by omega] at htl
 subst htl
 have s4 := s3.grow g3
 rw [deref_some']
 have hbx := s4.box
 have hSr : Row w3 ((⟨x, 0, none⟩ : Addr).add 2) (valA [.int .i64, .int .i64, .int .i64, .int .i64, .int .i64, .int .i64] T.S) := (hbx.row.drop 2).take 6
 refine ldA_of (p := T.S) (readsAt_row.2 hSr) ?_
 refine callF_of (V113 T.S (T.h + T.R.length) w3) ?_
 rintro C w4 ⟨hC, g4⟩
 rw [← hC] at hK
 refine (s4.grow g4).nvs rfl (na_p C.1) fun r w5 s5 => ?_
 have mvE : CC N T.P I.C E.2 := cc.move hfg.len fun b hb => frd b (usable_lt ht hb).1
 by_cases hC0 : C.2 ≠ 0
 · rw [if_pos hC0] at hK
   exact br_t (by simpa using hC0) (hK w5 (St.tClose (T := { T with D := E.2 }) (i := I) s5.drop ⟨hp.xs, hp.pl, fun _ => mvE⟩))
 rw [if_neg hC0] at hK
 refine br_f (by simpa using hC0) ?_
 have hC0 : C.2 = 0 := Classical.not_not.1 hC0
 obtain ⟨hS, hb1, hb2, hsu⟩ := nextS_ok (s := T.S) (h := T.h + T.R.length) (by rw [← hC]; exact hC0)
 rw [← hC] at hS
 rw [drw_def]
 have s6 := s5.drew
 generalize w5.drew = w6 at s6
 have s6 : St F0 w0 w6 (BoxA r (pcells C.1) :: BoxA x (storeC I.b dp T.S T.P T.busy T.dead I.m) :: BoxA I.b [P0 I.g, P0 I.c] :: BoxA I.g (ringC dp 3 T.n T.h I.s) :: SlA 5 I.s (rcs I.xs) :: bts I.xs :: CacheA I.c dp I.C :: MapA intKT I.m (I.pl.map Pg.kv) :: bigA (I.pl.map Pg.A) :: DiskA dp E.2 :: L) := s6
 rw [deref_some']
 refine s6.L 1 rfl (p := some ⟨dp, 0, none⟩) rfl ?_
 refine s6.LA 0 rfl (p := C.1) rfl ?_
 obtain ⟨G, H, g2, _, _, _, gc⟩ := St.call [DiskA dp E.2] (s6.sel [9, 0, 1, 2, 3, 4, 5, 6, 7, 8] 10)
 refine callF_of (V77 (s := C.1) g2 hfg.db (by omega)) ?_
 rintro _ w7 ⟨rfl, s7⟩
 have s7 := gc _ _ s7
 have hng := noteD_dg hfg.db C.1
 have hnr := note_rd (S := C.1) hfg.db fo (by rw [hfg.len]; omega)
 generalize noteD E.2 C.1 = Z at s7 hK hng hnr ⊢
 have s8 : St F0 w0 w7 (BoxA x (storeC I.b dp T.S T.P T.busy T.dead I.m) :: BoxA I.b [P0 I.g, P0 I.c] :: BoxA I.g (ringC dp 3 T.n T.h I.s) :: SlA 5 I.s (rcs I.xs) :: bts I.xs :: CacheA I.c dp I.C :: MapA intKT I.m (I.pl.map Pg.kv) :: bigA (I.pl.map Pg.A) :: DiskA dp Z.2 :: BoxA r (pcells C.1) :: L) := St.sel [2, 3, 4, 5, 6, 7, 8, 9, 0, 1] 10 s7
 have mvZ : Z.1 ≠ 5 → CC N T.P I.C Z.2 := fun h5 => mvE.move hng.len fun b hb => by
   rcases hnr with h | h
   · exact absurd h h5
   · exact h b (us b hb).1
 by_cases hZ : Z.1 ≠ 0
 · rw [if_pos hZ] at hK
   exact br_t (by simpa using hZ) (tell (s8.sel [0, 1, 2, 3, 4, 5, 6, 7, 8] 10) mvZ hK)
 rw [if_neg hZ] at hK
 refine br_f (by simpa using hZ) ?_
 have hZ : Z.1 = 0 := Classical.not_not.1 hZ
 refine s8.LA 9 rfl (p := C.1) rfl ?_
 rw [deref_some']
 refine s8.S 0 rfl (by simp) trivial fun _ s9 => ?_
 refine s9.S 0 rfl (by simp) trivial fun _ s10 => ?_
 refine s10.S 0 rfl (by simp) trivial fun _ s11 => ?_
 refine s11.S 0 rfl (by simp) trivial fun _ s12 => ?_
 refine s12.S 0 rfl (by simp) trivial fun _ s13 => ?_
 refine s13.S 0 rfl (by simp) trivial fun w14 s14 => ?_
 have s14 : St F0 w0 w14 (BoxA x (storeC I.b dp C.1 T.P T.busy T.dead I.m) :: BoxA I.b [P0 I.g, P0 I.c] :: BoxA I.g (ringC dp 3 T.n T.h I.s) :: SlA 5 I.s (rcs I.xs) :: bts I.xs :: CacheA I.c dp I.C :: MapA intKT I.m (I.pl.map Pg.kv) :: bigA (I.pl.map Pg.A) :: DiskA dp Z.2 :: BoxA r (pcells C.1) :: L) := s14
 rw [deref_some']
 refine s14.L 0 rfl (p := some ⟨I.b, 0, none⟩) rfl ?_
 rw [deref_some']
 refine s14.L 1 rfl (p := some ⟨I.g, 0, none⟩) rfl ?_
 obtain ⟨G, H, g2, _, _, _, gc⟩ := St.call (ringO I.g dp 3 T.n T.h I.s I.xs) (s14.sel [2, 3, 4, 0, 1, 5, 6, 7, 8] 10)
 refine callF_of (V114 (q := T.h + T.R.length) g2 (by omega) (by have : T.h ≤ 1152921504606846976 := hh.2; omega)) ?_
 rintro y w15 ⟨t, ⟨_, _, rfl, s15⟩ | ⟨hno, _⟩⟩
 rotate_left
 · exact absurd ⟨by omega, by omega⟩ hno
 have s16 := gc _ _ s15
 have e : I.xs.drop (T.h + (T.R.length : Int) - T.h).toNat = [] := List.drop_eq_nil_of_le (by omega)
 rw [e] at s16
 have s17 : St F0 w0 w15 (BoxA x (storeC I.b dp C.1 T.P T.busy T.dead I.m) :: BoxA I.b [P0 I.g, P0 I.c] :: BoxA I.g (ringC dp 3 T.n (T.h + T.R.length) t) :: SlA 5 t (rcs []) :: bts [] :: CacheA I.c dp I.C :: MapA intKT I.m (I.pl.map Pg.kv) :: bigA (I.pl.map Pg.A) :: DiskA dp Z.2 :: L) := St.sel [3, 4, 0, 1, 2, 5, 6, 7, 8] 9 s16
 refine hK w15 (St.tClose (T := { T with D := Z.2, S := C.1, R := [] }) (i := { I with s := t, xs := [] }) ?_ ⟨rfl, hp.pl, fun _ => mvZ (by rw [hZ]; decide)⟩)
 have e1 : ({ T with D := Z.2, S := C.1, R := [] } : TM).n = T.n := by show C.1.2.2.1 = T.S.2.2.1; rw [hS]
 have e2 : ({ T with D := Z.2, S := C.1, R := [] } : TM).h = T.h + T.R.length := by show C.1.2.2.2.2.2 = _; rw [hS]
 rw [e1, e2]
 exact s17
end
end Go.Proofs

set_option maxRecDepth 20000
namespace Go.Proofs
open Go.Eng
theorem patV_mem {T : TM} (ht : T.ok) {v : Rv} (hv : v ∈ T.patV) : okV v = true ∧ v.1 = 1 ∧ ∃ p ∈ T.pg, p.1 = v.2.1 := by
 obtain ⟨i, hi, hc⟩ := List.mem_flatMap.1 hv
 obtain ⟨p, hp, rfl⟩ := (changed_mem hi).2
 have hu := (ht.pg p hp).1
 have hr := usable_lt ht hu
 have h := cut_ok (TM.page_len ht hu) ⟨hr.1, by have := ht.D.le; omega⟩ v hc
 exact ⟨h.1, h.2.1, p, hp, h.2.2.symm⟩
structure TM.up (T : TM) : Prop where
 ok : T.ok
 dead : T.dead = false
 off : T.D.off = false
theorem TM.told0 {T : TM} : T.told 0 = T := by unfold TM.told; simp
theorem TM.ok.toD {T : TM} (ht : T.ok) {E : DM} (hE : E.ok) (hl : E.blocks.length = T.D.blocks.length) : ({ T with D := E } : TM).ok := ⟨hE, ht.P, ht.g, by rw [← ht.len]; show (E.blocks.length : Int) = _; rw [hl], ht.h, ht.R, ht.ok, ht.nod, ht.pg, ht.idle⟩
theorem cpt_cases {T : TM} (hT : T.up) {M : Nat} (hD : DB M T.D) :
   ((T.cpt.1 = 0 ∧ T.cpt.2.up) ∨ (T.cpt.1 = 6 ∧ T.cpt.2.up) ∨ (T.cpt.1 = 5 ∧ T.cpt.2.dead = true ∧ T.cpt.2.D.off = true ∧ T.cpt.2.D.wait = [])) ∧ DG T.D T.cpt.2.D M 4 ∧ T.cpt.2.pg = T.pg ∧ T.cpt.2.P = T.P ∧ T.cpt.2.busy = T.busy ∧ supG T.cpt.2.S = supG T.S := by
 obtain ⟨ht, hd, ho⟩ := hT
 have hlb := ht.lb
 have hn := ht.n1
 unfold TM.cpt
 by_cases h0 : T.R = []
 · rw [if_pos h0]; exact ⟨.inl ⟨rfl, ht, hd, ho⟩, .refl hD _, rfl, rfl, rfl, rfl⟩
 rw [if_neg h0]
 have hfg := flushD_dg hD
 have hfc := flush_cases hD.ok ho
 generalize flushD T.D = E at hfg hfc ⊢
 rcases hfc with ⟨f1, f2, _⟩ | ⟨f1, f2, f3⟩
 rotate_left
 · rw [if_pos (by rw [f1]; decide)]
   exact ⟨.inr (.inr ⟨f1, by rw [f1]; show (T.dead || _) = true; simp, f2, f3⟩), hfg.mono (by omega), rfl, rfl, rfl, rfl⟩
 rw [if_neg (not_not_intro f1)]
 by_cases hC : (nextS T.S (T.h + T.R.length)).2 ≠ 0
 · rw [if_pos hC]
   exact ⟨.inr (.inl ⟨rfl, ht.toD hfg.db.ok hfg.len, hd, f2⟩), hfg.mono (by omega), rfl, rfl, rfl, rfl⟩
 rw [if_neg hC]
 obtain ⟨hS, hb1, hb2, hsu⟩ := nextS_ok (Classical.not_not.1 hC)
 have hng := noteD_dg hfg.db (nextS T.S (T.h + T.R.length)).1
 have hsE : supE (nextS T.S (T.h + T.R.length)).1 = 0 ∨ (nextS T.S (T.h + T.R.length)).2 ≠ 0 := by
   refine .inl ?_
   have hne : nextE T.S (T.h + T.R.length) = 0 := by
     have h2 := Classical.not_not.1 hC
     unfold nextS at h2
     by_cases h : nextE T.S (T.h + T.R.length) = 0
     · exact h
     · rw [if_neg h] at h2; exact h2
   unfold nextE at hne
   rw [if_neg (not_not_intro hsu), if_neg (by omega)] at hne
   have h1 : T.S.1 ≠ 1152921504606846976 := fun h => by rw [if_pos h] at hne; cases hne
   obtain ⟨g0, k1, k2, k3, k4⟩ := supE_ok hsu
   have hh := ht.h
   have e1 : T.h = T.S.2.2.2.2.2 := rfl
   rw [hS]
   rw [supE_g (s := (T.S.1 + 1, T.S.2.1, T.S.2.2.1, T.S.2.2.2.1, T.S.2.2.2.2.1, T.h + T.R.length)) g0, if_pos]
   exact ⟨by dsimp only; omega, by dsimp only; omega, by dsimp only; omega, by dsimp only; omega⟩
 have hsE := hsE.resolve_right hC
 have hnc : ((noteD E.2 (nextS T.S (T.h + T.R.length)).1).1 = 0 ∧ (noteD E.2 (nextS T.S (T.h + T.R.length)).1).2.off = false) ∨ ((noteD E.2 (nextS T.S (T.h + T.R.length)).1).1 = 5 ∧ (noteD E.2 (nextS T.S (T.h + T.R.length)).1).2.off = true ∧ (noteD E.2 (nextS T.S (T.h + T.R.length)).1).2.wait = []) := by
   have hs := slot_01 (nextS T.S (T.h + T.R.length)).1
   unfold noteD
   rw [if_neg (not_not_intro hsE)]
   have hl := hfg.len
   rcases write_cases hfg.db.ok f2 (i := slotS (nextS T.S (T.h + T.R.length)).1) (by omega) (bytesS_len _) with ⟨h1, h2, h3⟩ | ⟨h1, h2, h3⟩
   · rw [if_neg (not_not_intro h1)]
     rcases flush_cases (writeD_dg hfg.db _ _).db.ok h2 with ⟨g1, g2, _⟩ | h
     · exact .inl ⟨g1, g2⟩
     · exact .inr h
   · rw [if_pos (by rw [h1]; decide)]; exact .inr ⟨h1, h2, h3⟩
 have hg : supG (nextS T.S (T.h + T.R.length)).1 = supG T.S := by rw [hS]
 have hdg := (hfg.trans hng).mono (K := 4) (by omega)
 have hSh : (nextS T.S (T.h + T.R.length)).1.2.2.2.2.2 = T.h + T.R.length := by rw [hS]
 generalize (nextS T.S (T.h + T.R.length)).1 = S' at hng hnc hg hdg hSh ⊢
 generalize noteD E.2 S' = Z at hng hnc hdg ⊢
 rcases hnc with ⟨g1, g2⟩ | ⟨g1, g2, g3⟩
 · rw [if_neg (not_not_intro g1)]
   have hh := ht.h
   refine ⟨.inl ⟨rfl, ⟨hdg.db.ok, by rw [ht.P]; show _ = (ofG (supG S')).1; rw [hg], by show (ofG (supG S')).2 = 0; rw [hg]; exact ht.g, ?_, ?_, ?_, rfl, ht.nod, ht.pg, ht.idle⟩, hd, g2⟩, hdg, rfl, rfl, rfl, hg⟩
   · show (Z.2.blocks.length : Int) = S'.2.1
     rw [hdg.len, ht.len]; exact (congrArg (·.1) hg).symm
   · show 0 ≤ S'.2.2.2.2.2 ∧ S'.2.2.2.2.2 ≤ _
     omega
   · have e : S'.2.2.1 = T.n := congrArg (·.2.1) hg
     show ((0 : Nat) : Int) ≤ 4 * S'.2.2.1
     omega
 · rw [if_pos (by rw [g1]; decide)]
   exact ⟨.inr (.inr ⟨g1, by rw [g1]; show (T.dead || _) = true; simp, g2, g3⟩), hdg, rfl, rfl, rfl, rfl⟩
theorem app_cases {T : TM} (hT : T.up) {M : Nat} (hD : DB M T.D) (ys : List Rv) :
   (((T.app ys).1 = 0 ∧ (T.app ys).2.up ∧ (T.app ys).2.R = T.R ++ ys) ∨ ((T.app ys).1 ≠ 0 ∧ (T.app ys).1 ≠ 5 ∧ (T.app ys).2 = T) ∨ ((T.app ys).1 = 5 ∧ (T.app ys).2.dead = true ∧ (T.app ys).2.D.off = true ∧ (T.app ys).2.D.wait = [])) ∧ DG T.D (T.app ys).2.D M (2 * ys.length + 1) ∧ (T.app ys).2.pg = T.pg ∧ (T.app ys).2.P = T.P ∧ (T.app ys).2.busy = T.busy ∧ (T.app ys).2.S = T.S := by
 obtain ⟨ht, hd, ho⟩ := hT
 have hlb := ht.lb
 have hn := ht.n1
 have hh := ht.h
 obtain ⟨hcs, hdg⟩ := appX_cases (D := T.D) (N := M) (n := T.n) (h := T.h) (R := T.R) (ys := ys) hD ho ⟨by omega, by omega⟩ hh.1
 have hroom : (appX T.D 3 T.n T.h T.R ys).1 = 0 → (ys.length : Int) ≤ 4 * T.n - T.R.length := fun h => by
   unfold appX at h
   split at h
   · cases h
   · split at h
     · cases h
     · omega
 unfold TM.app
 dsimp only
 generalize appX T.D 3 T.n T.h T.R ys = A at hcs hdg hroom ⊢
 by_cases h0 : A.1 = 0
 · rw [if_pos h0]
   obtain ⟨hoff, hys⟩ : A.2.off = false ∧ ∀ x ∈ ys, okV x = true := by
     rcases hcs with ⟨h1, h3⟩ | ⟨h1, _⟩
     · refine ⟨?_, h3⟩
       rcases h1.res with ⟨_, h2, _⟩ | ⟨h2, _⟩
       · exact h2
       · rw [h0] at h2; cases h2
     · rw [h0] at h1
       rcases h1 with h1 | h1 | h1 <;> cases h1
   have hfg := flushD_dg hdg.db
   have hd2 := hdg.trans hfg
   rcases flush_cases hdg.db.ok hoff with ⟨f1, f2, _⟩ | ⟨f1, f2, f3⟩
   · rw [f1, TM.told0]
     have hr := hroom h0
     refine ⟨.inl ⟨rfl, ⟨⟨hd2.db.ok, ht.P, ht.g, ?_, hh, ?_, ?_, ht.nod, ht.pg, ht.idle⟩, hd, f2⟩, rfl⟩, hd2, rfl, rfl, rfl, rfl⟩
     · show ((flushD A.2).2.blocks.length : Int) = _
       rw [hd2.len]; exact ht.len
     · show ((T.R ++ ys).length : Int) ≤ 4 * T.n
       rw [List.length_append]; omega
     · show (T.R ++ ys).all okV = true
       rw [List.all_append, ht.ok, Bool.true_and, List.all_eq_true]
       exact hys
   · exact ⟨.inr (.inr ⟨f1, by rw [f1]; show (T.dead || _) = true; simp, f2, f3⟩), hd2, rfl, rfl, rfl, rfl⟩
 · rw [if_neg h0]
   have h3 : (A.1 = 5 ∧ A.2.off = true ∧ A.2.wait = []) ∨ ((A.1 = 60 ∨ A.1 = 70 ∨ A.1 = 3) ∧ A.2 = T.D) := by
     rcases hcs with ⟨h1, _⟩ | h
     · rcases h1.res with ⟨h2, _⟩ | h
       · exact absurd h2 h0
       · exact .inl h
     · exact .inr h
   have hd2 := hdg.mono (K := 2 * ys.length + 1) (by omega)
   rcases h3 with ⟨h5, h6, h7⟩ | ⟨h5, h6⟩
   · rw [if_neg (by rw [h5]; decide)]
     exact ⟨.inr (.inr ⟨h5, by rw [h5]; show (T.dead || _) = true; simp, h6, h7⟩), hd2, rfl, rfl, rfl, rfl⟩
   · have e : ({ T with D := A.2 } : TM) = T := by rw [h6]
     by_cases h8 : A.1 = 3
     · rw [if_pos h8]
       refine ⟨.inr (.inl ⟨show (6 : Int) ≠ 0 by decide, show (6 : Int) ≠ 5 by decide, e⟩), hd2, rfl, rfl, rfl, rfl⟩
     · rw [if_neg h8]
       have hn5 : A.1 ≠ 5 := by rcases h5 with h | h | h <;> rw [h] <;> decide
       refine ⟨.inr (.inl ⟨h0, hn5, ?_⟩), hd2, rfl, rfl, rfl, rfl⟩
       show ({ T with D := A.2 } : TM).told A.1 = T
       rw [e]
       unfold TM.told
       rw [beq_eq_false_iff_ne.2 hn5, Bool.or_false]
def TM.commit (T : TM) : Int × TM :=
 if mayE T.dead T.D ≠ 0 then (mayE T.dead T.D, T.mark) else if T.busy = false then (100, T) else
 if T.patV.length = 0 then (0, T.ends) else if (T.patV.length : Int) ≥ 4 * T.n then (101, T.ends) else
 let X := if (T.patV.length : Int) + 1 > 4 * T.n - T.R.length then T.cpt else (0, T)
 if X.1 ≠ 0 then (X.1, X.2.ends) else
 let A := X.2.app (T.patV ++ [cmt T.patV.length])
 if A.1 ≠ 0 then (A.1, A.2.ends) else
 ((homeD A.2.page (blocksV T.patV) A.2.D).1, (({ A.2 with D := (homeD A.2.page (blocksV T.patV) A.2.D).2 } : TM).told (homeD A.2.page (blocksV T.patV) A.2.D).1).ends)
section
variable {x dp N M : Nat} {T : TM} {w w0 : World} {F0 : Nat → Prop} {L : List HA}
theorem roomC {K : Int → Pr} {I : TH} (s1 : St F0 w0 w (BoxA x (storeC I.b dp T.S T.P T.busy T.dead I.m) :: BoxA I.b [P0 I.g, P0 I.c] :: BoxA I.g (ringC dp 3 T.n T.h I.s) :: SlA 5 I.s (rcs I.xs) :: bts I.xs :: CacheA I.c dp I.C :: MapA intKT I.m (I.pl.map Pg.kv) :: bigA (I.pl.map Pg.A) :: L)) (hp : TxP N T I) (ht : T.ok) (hK : ∀ w', Grow w w' → K (4 * T.n - T.R.length) w') : callF Tryz.prog 62 [P0 I.g] [.c (.int .i64)] K w := by
 have hR := ht.R
 have hn := ht.n1
 have hx := (s1.sel [3, 4] 8).rl.len
 have hxl : I.xs.length = T.R.length := by rw [← hp.xs, List.length_map]
 refine callF_of (V62 (s1.bring 2).box (by omega) (by omega)) ?_
 rintro r W2 ⟨hr, g2⟩
 rw [hr, show 4 * T.n - (I.s.len : Int) = 4 * T.n - T.R.length by omega]
 exact hK W2 g2
theorem rv_cmt (m : Nat) : rv (⟨2, 0, 0, ⟨none, 0, 0⟩, m⟩, []) = cmt m := rfl
theorem commitC {K : Int → Pr} (h : St F0 w0 w (TxA x dp N T :: DiskA dp T.D :: L)) (ht : T.ok) (hD : DB M T.D) (hM : M ≤ 890000) (hN : N ≤ 10000000)
   (hK : ∀ w', St F0 w0 w' (TxA x dp (N + 5000) T.commit.2 :: DiskA dp T.commit.2.D :: L) → K T.commit.1 w') : callF Tryz.prog 20 [P0 x] [.c (.int .i64)] K w := by
 refine callF_of (post := K) (F20_calls _ _ _ ?_) fun _ _ h => h
 unfold F20
 unfold TM.commit at hK
 dsimp only at hK
 have hwl := hD.bd.wait
 have hn := ht.n1
 refine mayC h ht.D fun w1 s1 => ?_
 refine br_of (fun h => ?_) fun h => ?_
 · rw [if_pos (by simpa using h)] at hK
   exact hK w1 (s1.tMono (by omega))
 have h : mayE T.dead T.D = 0 := by simpa using h
 rw [if_neg (not_not_intro h)] at hK
 obtain ⟨hd, ho, hm⟩ := may0 h
 rw [hm] at s1
 obtain ⟨I, hp, s2⟩ := s1.tOpen
 rw [deref_some']
 refine s2.L 0 rfl (p := T.busy) rfl ?_
 clear s2 hp I
 refine br_of (fun h => ?_) fun h => ?_
 · rw [if_pos (by simpa using h)] at hK
   exact hK w1 (s1.tMono (by omega))
 rw [if_neg (by simpa using h)] at hK
 refine patC s1 ht hd ho (by omega) (by omega) fun t ys w2 hys s3 => br_f rfl ?_
 have hyl : ys.length = T.patV.length := by rw [← hys, List.length_map]
 have htl := s3.sl.len
 rw [rcs_len] at htl
 have hP := fun v hv => patV_mem ht (v := v) hv
 generalize hV : T.patV = V at hys hyl hK hP
 have fin : ∀ {W : World} {T' : TM} {N' : Nat} {k : Pr}, St F0 w0 W (SlA 5 t (rcs ys) :: bts ys :: TxA x dp N' T' :: DiskA dp T'.D :: L) → N' ≤ N + 5000 → T'.pg = T.pg → (∀ w', St F0 w0 w' (TxA x dp (N + 5000) T'.ends :: DiskA dp T'.ends.D :: L) → k w') → callD Tryz.prog .returning 60 [P0 x] k W := fun {W T' N' k} s hn hpg hk => by
   refine endsD (s.sel [2, 3] 4) (by rw [hpg]; exact ht.nod) fun w' s' => hk w' ?_
   exact s'.tMono hn
 by_cases h0 : V.length = 0
 · rw [if_pos h0] at hK
   refine br_t ?_ (fin s3 (by omega) rfl hK)
   rw [beq_iff_eq]; dsimp only; omega
 rw [if_neg h0] at hK
 refine br_f ?_ ?_
 · rw [beq_eq_false_iff_ne]; dsimp only; omega
 obtain ⟨I, hp, s4⟩ := (s3.sel [2, 0, 1, 3] 4).tOpen
 rw [deref_some']
 refine s4.L 0 rfl (p := T.n) rfl ?_
 rw [w64_of (n := 4 * T.n) ⟨by omega, by omega⟩]
 dsimp only
 by_cases h1 : (V.length : Int) ≥ 4 * T.n
 · rw [if_pos h1] at hK
   exact br_t (decide_eq_true (by omega)) (fin s3 (by omega) rfl hK)
 rw [if_neg h1] at hK
 refine br_f (decide_eq_false (by omega)) ?_
 have hTup : T.up := ⟨ht, hd, ho⟩
 obtain ⟨X, hX⟩ : ∃ X, (if (V.length : Int) + 1 > 4 * T.n - T.R.length then T.cpt else (0, T)) = X := ⟨_, rfl⟩
 rw [hX] at hK
 have hXc : ((X.1 = 0 ∧ X.2.up) ∨ X.1 ≠ 0) ∧ DG T.D X.2.D M 4 ∧ X.2.pg = T.pg ∧ X.2.P = T.P ∧ supG X.2.S = supG T.S := by
   rw [← hX]
   split
   · obtain ⟨h2, h3, h4, h5, _, h6⟩ := cpt_cases hTup hD
     exact ⟨h2.imp id (fun h => by rcases h with h | h <;> rw [h.1] <;> decide), h3, h4, h5, h6⟩
   · exact ⟨.inl ⟨rfl, hTup⟩, .refl hD _, rfl, rfl, rfl⟩
 obtain ⟨hX1, hXd, hXpg, hXP, hXg⟩ := hXc
 refine jn_of (fun _ W => X.1 = 0 ∧ St F0 w0 W (SlA 5 t (rcs ys) :: bts ys :: TxA x dp (N + 2048) X.2 :: DiskA dp X.2.D :: L)) ?_ ?_
 · rw [deref_some']
   refine s4.L 0 rfl (p := some ⟨I.b, 0, none⟩) rfl ?_
   rw [deref_some']
   refine s4.L 1 rfl (p := some ⟨I.g, 0, none⟩) rfl ?_
   refine roomC s4 hp ht fun w3 g3 => ?_
   have s5 := s3.grow g3
   rw [w64_of (n := (t.len : Int) + 1) ⟨by omega, by omega⟩]
   by_cases h2 : (V.length : Int) + 1 > 4 * T.n - T.R.length
   · rw [if_pos h2] at hX
     refine br_t (decide_eq_true (by omega)) ?_
     refine cptC (s5.sel [2, 3, 0, 1] 4) ht hD (by omega) hd ho fun w4 s6 => ?_
     rw [hX] at s6 ⊢
     have s6 : St F0 w0 w4 (SlA 5 t (rcs ys) :: bts ys :: TxA x dp (N + 2048) X.2 :: DiskA dp X.2.D :: L) := St.sel [2, 3, 0, 1] 4 s6
     refine br_of (fun h => ?_) fun h => ?_
     · rw [if_pos (by simpa using h)] at hK
       exact fin s6 (by omega) hXpg hK
     · exact ⟨by simpa using h, s6⟩
   · rw [if_neg h2] at hX
     refine br_f (decide_eq_false (by omega)) ?_
     subst hX
     exact ⟨rfl, s5⟩
 rintro _ w3 ⟨hX0, s5⟩
 rw [if_neg (not_not_intro hX0)] at hK
 have hXu : X.2.up := by rcases hX1 with h | h; exact h.2; exact absurd hX0 h
 clear hX1 hX s4 hp I
 have rl := s5.rl
 refine callF_of (C56 t ys w3 rl (by omega)) ?_
 rintro u w4 ⟨hu, g4⟩
 have s6 := s5.mksl g4 hu
 refine St.nw s6 fun r w5 s7 _ _ => ?_
 have s7 : St F0 w0 w5 (BoxA r (Rw.cells ⟨2, 0, 0, ⟨none, 0, 0⟩, t.len⟩) :: SlA 5 u (rcs ys) :: SlA 5 t (rcs ys) :: bts ys :: TxA x dp (N + 2048) X.2 :: DiskA dp X.2.D :: L) := s7
 have hul := (s7.bring 1).sl.len
 rw [rcs_len] at hul
 refine (s7.bring 1).app (new := Rw.cells ⟨2, 0, 0, ⟨none, 0, 0⟩, t.len⟩) (fun _ => rfl) (fun h => by cases h) (readsAt_row.2 s7.box.row) (by simp [Rw.cells, NotAgg]) rfl (by decide) (by dsimp only; omega) fun q w6 s8 _ => ?_
 have e1 : rcs ys ++ Rw.cells ⟨2, 0, 0, ⟨none, 0, 0⟩, t.len⟩ = rcs (ys ++ [(⟨2, 0, 0, ⟨none, 0, 0⟩, t.len⟩, [])]) := by rw [rcs_append, rcs_one]
 rw [e1] at s8
 have s9 := ((s8.sel [3, 0, 2, 4, 5] 6).nosl 1).push
 have e2 : (ys.map fun x => bytA (x.1.s, x.2)) ++ [SlA 1 ⟨none, 0, 0⟩ []] = (ys ++ [((⟨2, 0, 0, ⟨none, 0, 0⟩, t.len⟩, []) : Rc)]).map fun x => bytA (x.1.s, x.2) := by rw [List.map_append]; rfl
 rw [e2] at s9
 obtain ⟨zs, hzs⟩ : ∃ zs : List Rc, ys ++ [((⟨2, 0, 0, ⟨none, 0, 0⟩, t.len⟩, []) : Rc)] = zs := ⟨_, rfl⟩
 rw [hzs] at s9
 have hzv : zs.map rv = V ++ [cmt V.length] := by
   rw [← hzs, List.map_append, hys]
   show V ++ [rv (⟨2, 0, 0, ⟨none, 0, 0⟩, t.len⟩, [])] = _
   rw [show t.len = V.length by omega]
   exact congrArg (fun c => V ++ [c]) (rv_cmt V.length)
 have s9 : St F0 w0 w6 (bts zs :: SlA 5 q (rcs zs) :: SlA 5 t (rcs ys) :: TxA x dp (N + 2048) X.2 :: DiskA dp X.2.D :: L) := s9
 have hzl : zs.length ≤ 2000 := by rw [← hzs, List.length_append, List.length_singleton]; omega
 have hac := app_cases hXu hXd.db (V ++ [cmt V.length])
 refine appC (s9.sel [3, 4, 1, 0, 2] 5) hXu.ok hXd.db (by omega) hXu.dead hXu.off hzl fun w7 s10 => ?_
 rw [hzv] at s10 ⊢
 generalize X.2.app (V ++ [cmt V.length]) = A at s10 hK hac ⊢
 obtain ⟨ha1, hag, hapg, haP, _, haS⟩ := hac
 have s10 : St F0 w0 w7 (TxA x dp (N + 2048) A.2 :: DiskA dp A.2.D :: SlA 5 q (rcs zs) :: bts zs :: SlA 5 t (rcs ys) :: L) := s10
 have fin2 : ∀ {W : World} {T' : TM} {N' : Nat} {k : Pr} {L' : List HA}, St F0 w0 W (TxA x dp N' T' :: DiskA dp T'.D :: (L' ++ L)) → N' ≤ N + 5000 → T'.pg = T.pg → (∀ w', St F0 w0 w' (TxA x dp (N + 5000) T'.ends :: DiskA dp T'.ends.D :: L) → k w') → callD Tryz.prog .returning 60 [P0 x] k W := fun {W T' N' k L'} s hn hpg hk => by
   have s' : St F0 w0 W (L' ++ (TxA x dp N' T' :: DiskA dp T'.D :: L)) := s.perm (by
     have h1 : (TxA x dp N' T' :: DiskA dp T'.D :: (L' ++ L)).Perm ((TxA x dp N' T' :: DiskA dp T'.D :: L') ++ L) := .refl _
     have h2 : (L' ++ (TxA x dp N' T' :: DiskA dp T'.D :: L)).Perm ((L' ++ [TxA x dp N' T', DiskA dp T'.D]) ++ L) := by rw [List.append_assoc]; exact .refl _
     exact (h1.trans ((List.perm_append_comm (l₁ := [TxA x dp N' T', DiskA dp T'.D]) (l₂ := L')).append_right L)).trans h2.symm)
   refine endsD s'.dropL (by rw [hpg]; exact ht.nod) fun w' s' => hk w' ?_
   exact s'.tMono hn
 by_cases hA : A.1 ≠ 0
 · rw [if_pos hA] at hK
   exact br_t (by simpa using hA) (fin2 (L' := [SlA 5 q (rcs zs), bts zs, SlA 5 t (rcs ys)]) s10 (by omega) (hapg.trans hXpg) hK)
 rw [if_neg hA] at hK
 refine br_f (by simpa using hA) ?_
 have hA := Classical.not_not.1 hA
 have hAu : A.2.up := by
   rcases ha1 with h | h | h
   · exact h.2.1
   · exact absurd hA h.1
   · rw [hA] at h; exact absurd h.1 (by decide)
 have rl2 : RL w7 t ys := by
   refine ⟨(s10.sel [4, 3] 5).ss, fun c hc => ?_⟩
   obtain ⟨i, hi⟩ := List.getElem?_of_mem hc
   exact (s10.bring 3).bsI (i := i) (x := c) (by rw [← hzs, List.getElem?_append_left (split_at hi).2]; exact hi)
 have hal : (V ++ [cmt V.length]).length = V.length + 1 := by simp
 rw [hal] at hag
 refine homeC s10 rl2 hAu.ok hag.db (by omega) (by omega) hAu.dead hAu.off (by omega) (fun k hk => ?_) fun w8 s11 => ?_
 · rw [hys] at hk
   obtain ⟨v, hv, _, rfl⟩ := mem_setB.1 ((sortI_perm _).subset hk)
   rw [hapg, hXpg]
   exact (hP v hv).2.2
 · rw [hys] at s11 ⊢
   exact fin2 (L' := [SlA 5 q (rcs zs), bts zs, SlA 5 t (rcs ys)]) (T' := (({ A.2 with D := (homeD A.2.page (blocksV V) A.2.D).2 } : TM).told (homeD A.2.page (blocksV V) A.2.D).1)) s11 (by omega) (hapg.trans hXpg) hK
end
end Go.Proofs

set_option maxRecDepth 20000
namespace Go.Proofs
open Go.Eng
def few (S : Sup) (k : Nat) : Prop := S.1 ≤ k ∧ S.2.2.2.2.2 ≤ 2048 * (k : Int)
def Good (D : DM) (g : Geo) (k : Nat) (C : Int → List UInt8) : Prop := ∃ l : Law, l.ok D.blocks.length ∧ Al D l.sector ∧ supG l.S = g ∧ few l.S k ∧ l.C = C
theorem Good.mono {D : DM} {g : Geo} {k m : Nat} {C : Int → List UInt8} (h : Good D g k C) (hm : k ≤ m) : Good D g m C := by
 obtain ⟨l, h1, h2, h3, h4, h5⟩ := h
 exact ⟨l, h1, h2, h3, ⟨by have := h4.1; omega, by have := h4.2; omega⟩, h5⟩
abbrev TM.law (T : TM) (C : Int → List UInt8) : Law := ⟨T.S, T.R, T.h + T.R.length, C⟩
structure Live (T : TM) (k : Nat) (C : Int → List UInt8) : Prop where
 up : T.up
 ok : (T.law C).ok T.D.blocks.length
 al : Al T.D (T.law C).sector
 wh : Whole T.R (T.law C).L
 rd : ∀ b, usableS T.P b → rdD T.D b = C b
 few : few T.S k
theorem Live.plan {T : TM} {k : Nat} {C : Int → List UInt8} (h : Live T k C) : (T.law C).P = T.P := by
 rw [h.up.ok.P, (ofG_ok h.up.ok.g).2.2.2]
theorem Live.good {T : TM} {k : Nat} {C : Int → List UInt8} (h : Live T k C) : Good T.D (supG T.S) k C := ⟨T.law C, h.ok, h.al, rfl, h.few, rfl⟩
theorem Live.mono {T : TM} {k m : Nat} {C : Int → List UInt8} (h : Live T k C) (hm : k ≤ m) : Live T m C := { h with few := ⟨by have := h.few.1; omega, by have := h.few.2; omega⟩ }
theorem Al.same {D E : DM} {A : Int → Nat → List UInt8 → Prop} (h : Al D A) (hb : E.blocks = D.blocks) (hw : E.wait = D.wait) : Al E A := fun b k v h0 h1 hk hs => h b k v h0 (by rw [← hb]; exact h1) hk (by unfold Sv at hs ⊢; rw [← hb, ← hw]; exact hs)
theorem rd_same {D E : DM} (hb : E.blocks = D.blocks) (hw : E.wait = D.wait) (b : Int) : rdD E b = rdD D b := by unfold rdD; rw [hb, hw]
theorem redo_flat {b : Int} {f : Int → List Rv} (hf : ∀ i, ∀ v ∈ f i, v.2.1 = i) : ∀ (l : List Int) (x : List UInt8), l.Nodup → redoV b x (l.flatMap f) = if b ∈ l then redoV b x (f b) else x
 | [], x, _ => by simp [redoV]
 | i :: l, x, hn => by
   rw [List.nodup_cons] at hn
   have skip : ∀ (vs : List Rv) (x : List UInt8), (∀ v ∈ vs, v.2.1 ≠ b) → redoV b x vs = x := by
     intro vs
     induction vs with
     | nil => exact fun _ _ => rfl
     | cons v vs ih =>
       intro x h
       rw [redoV_cons, if_neg (h v (by simp)), ih x fun u hu => h u (by simp [hu])]
   rw [List.flatMap_cons, redoV_append]
   by_cases hib : i = b
   · subst hib
     rw [redo_flat hf l _ hn.2, if_neg hn.1, if_pos (by simp)]
   · rw [skip (f i) x fun v hv h => hib ((hf i v hv).symm.trans h), redo_flat hf l _ hn.2]
     simp [show b ≠ i from fun h => hib h.symm]
theorem cutV_blk (i : Int) (o n : List UInt8) : ∀ v ∈ cutV i o n, v.2.1 = i := by
 intro v hv
 obtain ⟨k, _, hk⟩ := List.mem_flatMap.1 hv
 unfold pieceV at hk
 split at hk
 · simp only [List.mem_singleton] at hk; subst hk; rfl
 · cases hk
theorem TM.changed_nodup {T : TM} (ht : T.ok) : T.changed.Nodup := by
 unfold TM.changed
 split
 · exact (sortI_perm _).nodup_iff.2 ht.nod
 · exact List.nodup_nil
theorem redo_pat {T : TM} {k : Nat} {C : Int → List UInt8} (h : Live T k C) {b : Int} (hb : usableS T.P b) : redoV b (C b) T.patV = T.page b := by
 have ht := h.up.ok
 have hr := usable_lt ht hb
 unfold TM.patV
 rw [redo_flat (fun i => cutV_blk i _ _) _ _ (TM.changed_nodup ht)]
 have hlen : (C b).length = 256 := by rw [← h.rd b hb]; exact rdD_len ht.D hr.1 hr.2
 by_cases hm : b ∈ T.changed
 · rw [if_pos hm, h.rd b hb]
   exact redo_cut b hlen (TM.page_len ht hb) hlen fun i => .inl rfl
 · rw [if_neg hm]
   unfold TM.page
   cases hf : T.pg.find? (·.1 == b) with
   | none => exact (h.rd b hb).symm
   | some p =>
     exfalso
     have hp := List.mem_of_find?_eq_some hf
     have hpb : p.1 = b := by simpa using List.find?_some hf
     refine hm ?_
     unfold TM.changed
     have hbu : T.busy = true := by
       cases hbb : T.busy with
       | true => rfl
       | false => rw [ht.idle hbb] at hp; cases hp
     rw [hbu, if_pos rfl]
     exact (sortI_perm _).symm.subset (List.mem_map.2 ⟨p, hp, hpb⟩)
theorem least {p : Nat → Prop} (h : ∃ i, p i) : ∃ j, p j ∧ ∀ i, i < j → ¬ p i := by
 obtain ⟨i, hi⟩ := h
 induction i using Nat.strongRecOn with
 | _ i ih =>
   by_cases hx : ∃ j, j < i ∧ p j
   · obtain ⟨j, h1, h2⟩ := hx
     exact ih j h1 h2
   · exact ⟨i, hi, fun j hj hp => hx ⟨j, hj, hp⟩⟩
def Law.grow (l : Law) (ys : List Rv) (m : Nat) (C : Int → List UInt8) : Law := ⟨l.S, l.R ++ ys, l.h + l.R.length + m, C⟩
section
variable {l : Law} {P : List Rv} {C' : Int → List UInt8}
structure Fit (l : Law) (P : List Rv) (C' : Int → List UInt8) : Prop where
 wh : Whole l.R l.L
 U : l.U = l.h + l.R.length
 ok : ∀ v ∈ P, okV v = true ∧ v.1 = 1 ∧ usableS l.P v.2.1
 room : (P.length : Int) + 1 ≤ 4 * l.n - l.R.length
 len : ∀ b, usableS l.P b → (C' b).length = 256
 redo : ∀ b, usableS l.P b → redoV b (l.C b) P = C' b
variable {len : Nat}
theorem Fit.part (hf : Fit l P C') (hl : l.ok len) {j : Nat} (hj : j ≤ P.length) : (l.grow ((P ++ [cmt P.length]).take j) (P.length + 1) l.C).ok len ∧ (l.grow ((P ++ [cmt P.length]).take j) (P.length + 1) l.C).L = l.L := by
 have hn := hl.n1
 have hroom := hf.room
 have e : (P ++ [cmt P.length]).take j = P.take j := by rw [List.take_append_of_le_length hj]
 rw [e]
 have hL : (l.grow (P.take j) (P.length + 1) l.C).L = l.L := hf.wh.part fun v hv => let h := hf.ok v (List.mem_of_mem_take hv); ⟨h.1, h.2.1⟩
 refine ⟨⟨hl.S, hl.len, ?_, ?_, ?_, ?_, hl.clen, ?_⟩, hL⟩
 · show ((l.R ++ P.take j).length : Int) ≤ 4 * l.n
   rw [List.length_append, List.length_take]; omega
 · intro v hv
   rcases List.mem_append.1 hv with h | h
   · exact hl.rok v h
   · exact (hf.ok v (List.mem_of_mem_take h)).1
 · intro v hv
   rw [hL] at hv
   exact hl.use v hv
 · show l.h + l.R.length + ((P.length + 1 : Nat) : Int) ≤ l.h + 4 * l.n
   push_cast; omega
 · intro b hb
   rw [hL]
   exact hl.fix b hb
theorem Fit.full (hf : Fit l P C') (hl : l.ok len) : (l.grow (P ++ [cmt P.length]) (P.length + 1) C').ok len ∧ (l.grow (P ++ [cmt P.length]) (P.length + 1) C').L = l.L ++ P ∧ Whole (l.R ++ (P ++ [cmt P.length])) (l.L ++ P) := by
 have hn := hl.n1
 have hroom := hf.room
 have hw : Whole (l.R ++ (P ++ [cmt P.length])) (l.L ++ P) := hf.wh.snoc (fun v hv => let h := hf.ok v hv; ⟨h.1, h.2.1⟩) (by omega)
 have hL : (l.grow (P ++ [cmt P.length]) (P.length + 1) C').L = l.L ++ P := hw.eq
 have hfit : fits (l.L ++ P) := fits_ok fun v hv => by
   rcases List.mem_append.1 hv with h | h
   · exact hl.lok v h
   · exact (hf.ok v h).1
 refine ⟨⟨hl.S, hl.len, ?_, ?_, ?_, ?_, hf.len, ?_⟩, hL, hw⟩
 · show ((l.R ++ (P ++ [cmt P.length])).length : Int) ≤ 4 * l.n
   simp only [List.length_append, List.length_singleton]; omega
 · intro v hv
   rcases List.mem_append.1 hv with h | h
   · exact hl.rok v h
   · rcases List.mem_append.1 h with h | h
     · exact (hf.ok v h).1
     · rw [List.mem_singleton] at h; subst h; exact cmt_ok (by omega)
 · intro v hv
   rw [hL] at hv
   rcases List.mem_append.1 hv with h | h
   · exact hl.use v h
   · exact (hf.ok v h).2.2
 · show l.h + l.R.length + ((P.length + 1 : Nat) : Int) ≤ l.h + 4 * l.n
   push_cast; omega
 · intro b hb
   rw [hL]
   show redoV b (C' b) (l.L ++ P) = C' b
   have h1 : redoV b (l.C b) (l.L ++ P) = C' b := by rw [redoV_append, hl.fix b hb, hf.redo b hb]
   rw [← h1]
   have hcl := hl.clen b hb
   have hc' : (redoV b (l.C b) (l.L ++ P)).length = 256 := redoV_len b _ _ hcl hfit
   refine redoV_twice b _ _ hcl hfit
theorem Fit.mix (hf : Fit l P C') {D E : DM} (hl : l.ok D.blocks.length) (ha : Al D l.sector) (hlen : E.blocks.length = D.blocks.length) (hw : E.wait = [])
   (hsv : ∀ (b : Int) (k : Nat) (v : List UInt8), 0 ≤ b → k < 4 → Sv E b k v → Sv D b k v ∨ ∃ (i : Nat) (x : Rv), (P ++ [cmt P.length])[i]? = some x ∧ At l.n b k (l.h + l.R.length + i) ∧ v = secX (l.h + l.R.length + i) x) :
   (∃ l' : Law, l'.ok E.blocks.length ∧ Al E l'.sector ∧ l'.S = l.S ∧ (l'.C = l.C ∨ l'.C = C')) ∧
   ((∀ (i : Nat) x (b : Int) (k : Nat), (P ++ [cmt P.length])[i]? = some x → k < 4 → At l.n b k (l.h + l.R.length + i) → sec (rdD E b) k = secX (l.h + l.R.length + i) x) → Al E (l.grow (P ++ [cmt P.length]) (P.length + 1) C').sector) := by
 have hlb := hl.lb
 have hn := hl.n1
 have hR := hl.R
 have hroom := hf.room
 obtain ⟨ys, hys⟩ : ∃ ys, P ++ [cmt P.length] = ys := ⟨_, rfl⟩
 have hyl : ys.length = P.length + 1 := by rw [← hys]; simp
 have hyok : ∀ x ∈ ys, okV x = true := fun x hx => by
   rw [← hys] at hx
   rcases List.mem_append.1 hx with h | h
   · exact (hf.ok x h).1
   · rw [List.mem_singleton] at h; subst h; exact cmt_ok (by omega)
 have hpart := fun j hj => hf.part hl (j := j) hj
 have hfull := hf.full hl
 rw [hys] at hsv hfull ⊢
 simp only [hys] at hpart
 obtain ⟨t, ht⟩ : ∃ t, l.h + (l.R.length : Int) = t := ⟨_, rfl⟩
 rw [ht] at hsv ⊢
 have hU : l.U = t := hf.U.trans ht
 have mayT : ∀ i : Nat, i < ys.length → mayL (t + i) := fun i hi => by
   have := hl.may (i := l.R.length + i) ⟨by omega, by omega⟩
   rw [← ht]
   rwa [show l.h + ((l.R.length : Int) + i) = l.h + l.R.length + i by omega] at this

 have step : ∀ (j : Nat) (Cj : Int → List UInt8), j ≤ ys.length → (∀ (i : Nat) x (b : Int) (k : Nat), i < j → ys[i]? = some x → k < 4 → At l.n b k (t + i) → sec (rdD E b) k = secX (t + i) x) →
     (∀ x (b : Int) (k : Nat), ys[j]? = some x → k < 4 → At l.n b k (t + j) → sec (rdD E b) k ≠ secX (t + j) x) →
     (∀ b, usableS l.P b → ∀ (k : Nat) (v : List UInt8), k < 4 → l.home b k v → (l.grow (ys.take j) (P.length + 1) Cj).home b k v) → Al E (l.grow (ys.take j) (P.length + 1) Cj).sector := by
   intro j Cj hj hpre hstop hhome
   refine Al.quiet hw fun b k h0 h1 hk => ?_
   rw [hlen] at h1
   have hs := hsv b k _ h0 hk (rd_sv (D := E) ⟨h0, by rw [hlen]; exact h1⟩ k)
   have nolog : (b < 3 ∨ 3 + l.n ≤ b) → Sv D b k (sec (rdD E b) k) := fun h => by
     rcases hs with h2 | ⟨i, x, _, hat, _⟩
     · exact h2
     · have := at_blk hk (by omega) hat; omega
   refine ⟨fun h => ?_, fun h => ?_, fun h h3 => ?_, fun h => ?_⟩
   · have h : b = slotS l.S := h
     have := slot_01 l.S
     exact (ha b k _ h0 h1 hk (nolog (by omega))).sup h
   · have h : b = 1 - slotS l.S := h
     have := slot_01 l.S
     exact (ha b k _ h0 h1 hk (nolog (by omega))).old h
   · have h3 : b < 3 + l.n := h3
     refine ⟨fun i x hx hat => ?_, fun hno q hq => ?_⟩
     · have hx : (l.R ++ ys.take j)[i]? = some x := hx
       have hat : At l.n b k (l.h + i) := hat
       show sec (rdD E b) k = secX (l.h + i) x
       by_cases hi : i < l.R.length
       · rw [List.getElem?_append_left hi] at hx
         rcases hs with h2 | ⟨i', y, hy, hat', _⟩
         · exact ((ha b k _ h0 h1 hk h2).log h h3).1 i x hx hat
         · have := (split_at hy).2
           have := at_one hat hat' (by omega) (by omega)
           omega
       · rw [List.getElem?_append_right (by omega), List.getElem?_take] at hx
         split at hx
         · rename_i hij
           have e : l.h + (i : Int) = t + ((i - l.R.length : Nat) : Int) := by omega
           rw [e] at hat ⊢
           exact hpre _ x b k hij hx hk hat
         · cases hx
     · show q < l.h + l.R.length + ((P.length + 1 : Nat) : Int) ∧ q ≠ l.h + ((l.R ++ ys.take j).length : Nat)
       have hll : (l.R ++ ys.take j).length = l.R.length + j := by rw [List.length_append, List.length_take]; omega
       rw [hll]
       have hno1 : ∀ i : Nat, i < l.R.length → ¬ At l.n b k (l.h + i) := fun i hi => hno i (by show i < (l.R ++ ys.take j).length; omega)
       rcases hs with h2 | ⟨i', y, hy, hat', hv⟩
       · have h4 := ((ha b k _ h0 h1 hk h2).log h h3).2 hno1 q hq
         refine ⟨?_, by omega⟩
         show q < l.h + l.R.length + ((P.length + 1 : Nat) : Int)
         omega
       · have hi' := (split_at hy).2
         rw [hv] at hq
         have h5 := rec_back (mayT i' hi') (hyok y (List.mem_of_getElem? hy))
         have h6 := take_one hq (by rw [h5])
         refine ⟨?_, fun h7 => ?_⟩
         · show q < l.h + l.R.length + ((P.length + 1 : Nat) : Int)
           omega
         · have : i' = j := by omega
           subst this
           exact hstop y b k hy hk hat' hv
   · have h : usableS l.P b := h
     have h2 := usable_hi hl h
     exact hhome b h k _ hk ((ha b k _ h0 h1 hk (nolog (by omega))).home h)
 have hP : fits P := fits_ok fun v hv => (hf.ok v hv).1
 have hfullHome : ∀ b, usableS l.P b → ∀ (k : Nat) (v : List UInt8), k < 4 → l.home b k v → (l.grow (ys.take ys.length) (P.length + 1) C').home b k v := fun b hb k v hk hv => by
   rw [List.take_length]
   refine ⟨hv.1, fun o ho => ?_⟩
   rw [hfull.2.1]
   rcases hv.2 o ho with ⟨u, hu, h⟩ | h
   · exact .inl ⟨u, List.mem_append_left _ hu, h⟩
   · by_cases hc : cov b P (64 * k + o)
     · obtain ⟨u, hu, h⟩ := hc
       exact .inl ⟨u, List.mem_append_right _ hu, h⟩
     · refine .inr ?_
       show v[o]? = (C' b)[64 * k + o]?
       rw [← hf.redo b hb, redoV_out b _ P _ (hl.clen b hb) hP hc]
       exact h
 have hfullAl : (∀ (i : Nat) x (b : Int) (k : Nat), ys[i]? = some x → k < 4 → At l.n b k (t + i) → sec (rdD E b) k = secX (t + i) x) → Al E (l.grow ys (P.length + 1) C').sector := fun h => by
   have := step ys.length C' (Nat.le_refl _) (fun i x b k _ => h i x b k) (fun x b k hx => by simp at hx) hfullHome
   rwa [List.take_length] at this
 refine ⟨?_, hfullAl⟩
 by_cases hall : ∀ (i : Nat) x (b : Int) (k : Nat), ys[i]? = some x → k < 4 → At l.n b k (t + i) → sec (rdD E b) k = secX (t + i) x
 · exact ⟨_, by rw [hlen]; exact hfull.1, hfullAl hall, rfl, .inr rfl⟩
 · have hex : ∃ i : Nat, ¬ ∀ x (b : Int) (k : Nat), ys[i]? = some x → k < 4 → At l.n b k (t + i) → sec (rdD E b) k = secX (t + i) x := Classical.not_forall.1 hall
   obtain ⟨j, hj, hmin⟩ : ∃ j : Nat, (¬ ∀ x (b : Int) (k : Nat), ys[j]? = some x → k < 4 → At l.n b k (t + j) → sec (rdD E b) k = secX (t + j) x) ∧ ∀ i, i < j → ∀ x (b : Int) (k : Nat), ys[i]? = some x → k < 4 → At l.n b k (t + i) → sec (rdD E b) k = secX (t + i) x := by
     obtain ⟨j, h1, h2⟩ := least hex
     exact ⟨j, h1, fun i hi => Classical.not_not.1 (h2 i hi)⟩
   have hj2 : ∃ x0 b0 k0, ys[j]? = some x0 ∧ k0 < 4 ∧ At l.n b0 k0 (t + j) ∧ sec (rdD E b0) k0 ≠ secX (t + j) x0 := by
     refine Classical.byContradiction fun hn => hj fun x b k h1 h2 h3 => Classical.byContradiction fun h4 => hn ⟨x, b, k, h1, h2, h3, h4⟩
   obtain ⟨x0, b0, k0, e1, e2, e3, e4⟩ := hj2
   have hjl := (split_at e1).2
   have hp := hpart j (by omega)
   refine ⟨_, by rw [hlen]; exact hp.1, step j l.C (by omega) (fun i x b k hi => hmin i hi x b k) (fun x b k hx hk hat => ?_) (fun b hb k v hk hv => ⟨hv.1, fun o ho => ?_⟩), rfl, .inl rfl⟩
   · rw [e1] at hx; cases hx
     obtain ⟨h1, h2⟩ := (at_iff hk).1 hat
     obtain ⟨h3, h4⟩ := (at_iff e2).1 e3
     have hb : b = b0 := h1.trans h3.symm
     have hkk : k = k0 := by omega
     subst hb hkk
     exact e4
   · rw [hp.2]
     exact hv.2 o ho
end
end Go.Proofs

set_option maxRecDepth 20000
namespace Go.Proofs
open Go.Eng
theorem law_len {l : Law} {n m : Nat} (h : l.ok n) (e : m = n) : l.ok m := e ▸ h
theorem Law.congr {l : Law} {len : Nat} {C : Int → List UInt8} (hl : l.ok len) (h : ∀ b, usableS l.P b → C b = l.C b) : ({ l with C := C } : Law).ok len ∧ ∀ b k v, l.sector b k v → ({ l with C := C } : Law).sector b k v :=
 ⟨⟨hl.S, hl.len, hl.R, hl.rok, hl.use, hl.U, fun b hb => by show (C b).length = 256; rw [h b hb]; exact hl.clen b hb, fun b hb => by show redoV b (C b) l.L = C b; rw [h b hb]; exact hl.fix b hb⟩,
  fun b k v hv => ⟨hv.sup, hv.old, hv.log, fun hb => ⟨(hv.home hb).1, fun o ho => by show _ ∨ v[o]? = (C b)[64 * k + o]?; rw [h b hb]; exact (hv.home hb).2 o ho⟩⟩⟩
theorem Live.congr {T : TM} {k : Nat} {C C' : Int → List UInt8} (h : Live T k C) (hc : ∀ b, usableS T.P b → C' b = C b) : Live T k C' := by
 have h1 := Law.congr h.ok (C := C') fun b hb => hc b (by rw [← h.plan]; exact hb)
 exact ⟨h.up, h1.1, h.al.mono h1.2, h.wh, fun b hb => by rw [h.rd b hb, hc b hb], h.few⟩
theorem Live.part {T T' : TM} {k : Nat} {C : Int → List UInt8} (h : Live T k C) (hu : T'.up) (hb : T'.D.blocks = T.D.blocks) (hw : T'.D.wait = T.D.wait) (hS : T'.S = T.S) (hR : T'.R = T.R) (hP : T'.P = T.P) : Live T' k C := by
 have e : T'.law C = T.law C := by unfold TM.law TM.h; rw [hS, hR]
 refine ⟨hu, by rw [e, hb]; exact h.ok, by rw [e]; exact h.al.same hb hw, by rw [e, hR]; exact h.wh, fun b hbb => by rw [rd_same hb hw]; exact h.rd b (by rw [← hP]; exact hbb), by rw [hS]; exact h.few⟩
theorem TM.ends_up {T : TM} (h : T.up) : T.ends.up := ⟨⟨h.ok.D, h.ok.P, h.ok.g, h.ok.len, h.ok.h, h.ok.R, h.ok.ok, List.nodup_nil, (fun p hp => by cases hp), fun _ => rfl⟩, h.dead, h.off⟩
theorem Live.ends {T : TM} {k : Nat} {C : Int → List UInt8} (h : Live T k C) : Live T.ends k C := h.part (TM.ends_up h.up) rfl rfl rfl rfl rfl
theorem live_cpt {T : TM} {k M : Nat} {C : Int → List UInt8} (h : Live T k C) (hk : k ≤ 1000000000) (hD : DB M T.D) :
   (T.cpt.1 = 0 ∧ Live T.cpt.2 (k + 1) C ∧ T.cpt.2.R = []) ∨ (T.cpt.1 = 5 ∧ T.cpt.2.dead = true ∧ T.cpt.2.D.off = true ∧ T.cpt.2.D.wait = [] ∧ Good T.cpt.2.D (supG T.S) (k + 1) C) := by
 obtain ⟨hc1, hdg, hpg, hP, _, hg⟩ := cpt_cases h.up hD
 have ht := h.up.ok
 have hn := ht.n1
 have hR := ht.R
 have hh := ht.h
 have hf := h.few
 have e1 : T.h = T.S.2.2.2.2.2 := rfl
 revert hc1 hdg hpg hP hg
 unfold TM.cpt
 by_cases h0 : T.R = []
 · rw [if_pos h0]
   exact fun _ _ _ _ _ => .inl ⟨rfl, h.mono (by omega), h0⟩
 rw [if_neg h0]
 have hfg := flushD_dg hD
 have hal := h.al.flush hD
 rcases flush_cases ht.D h.up.off with ⟨f1, f2, f3, f4⟩ | ⟨f1, f2, f3⟩
 rotate_left
 · rw [if_pos (by rw [f1]; decide)]
   intro _ _ _ _ _
   refine .inr ⟨f1, by rw [f1]; show (T.dead || _) = true; simp, f2, f3, Good.mono ?_ (Nat.le_succ k)⟩
   exact ⟨T.law C, law_len h.ok hfg.len, hal, rfl, hf, rfl⟩
 rw [if_neg (not_not_intro f1)]
 have hsu := h.ok.S
 have hne : nextE T.S (T.h + T.R.length) = 0 := by
   unfold nextE
   rw [if_neg (not_not_intro hsu), if_neg (by have := hf.2; omega), if_neg (by have := hf.1; omega)]
 have hS : nextS T.S (T.h + T.R.length) = ((T.S.1 + 1, T.S.2.1, T.S.2.2.1, T.S.2.2.2.1, T.S.2.2.2.2.1, T.h + T.R.length), 0) := by unfold nextS; rw [if_pos hne]
 rw [if_neg (not_not_intro (by rw [hS]))]
 obtain ⟨S', hS'⟩ : ∃ S', (nextS T.S (T.h + T.R.length)).1 = S' := ⟨_, rfl⟩
 have hS2 : S' = (T.S.1 + 1, T.S.2.1, T.S.2.2.1, T.S.2.2.2.1, T.S.2.2.2.2.1, T.h + T.R.length) := by rw [← hS', hS]
 rw [hS']
 have hsE : supE S' = 0 := by
   obtain ⟨g0, k1, k2, k3, k4⟩ := supE_ok hsu
   have := hf.1
   have := hf.2
   have k1 : 1 ≤ T.S.1 := k1
   rw [hS2, supE_g (s := (T.S.1 + 1, T.S.2.1, T.S.2.2.1, T.S.2.2.2.1, T.S.2.2.2.2.1, T.h + T.R.length)) g0, if_pos]
   exact ⟨by dsimp only; omega, by dsimp only; omega, by dsimp only; omega, by dsimp only; omega⟩
 have hx : Nx (T.law C) S' := ⟨hsE, by rw [hS2], by rw [hS2], by rw [hS2]; exact Int.le_refl _, by rw [hS2]; exact Int.le_refl _⟩
 have hl2 : (T.law C).ok (flushD T.D).2.blocks.length := by rw [show (flushD T.D).2.blocks.length = T.D.blocks.length from hfg.len]; exact h.ok
 have hfew : few S' (k + 1) := by
   have := hf.1
   have := hf.2
   rw [hS2]
   exact ⟨by show T.S.1 + 1 ≤ _; push_cast; omega, by show T.h + T.R.length ≤ _; push_cast; omega⟩
 have hrd : ∀ b, usableS (T.law C).P b → rdD (flushD T.D).2 b = (T.law C).C b := fun b hb => by
   rw [h.plan] at hb
   rw [f4 b (usable_lt ht hb).1]
   exact h.rd b hb
 have hng := noteD_dg hfg.db S'
 have hno := note_ok hl2 hfg.db f2 f3 hal hrd hx
 have hZl : (noteD (flushD T.D).2 S').2.blocks.length = T.D.blocks.length := hng.len.trans hfg.len
 generalize noteD (flushD T.D).2 S' = Z at hno hng hZl ⊢
 rcases hno with ⟨n1, n2, n3, n4, n5⟩ | ⟨n1, n2, n3, n4⟩
 · rw [if_neg (not_not_intro n1)]
   intro hc1 _ _ _ _
   have hup : ({ T with D := Z.2, S := S', R := [] } : TM).up := by
     rcases hc1 with ⟨_, h⟩ | ⟨h, _⟩ | ⟨h, _⟩
     · exact h
     · cases h
     · cases h
   have el : ({ T with D := Z.2, S := S', R := [] } : TM).law C = (T.law C).nx S' := by
     unfold TM.law Law.nx TM.h
     simp
   refine .inl ⟨rfl, ⟨hup, by rw [el, hZl]; exact hx.ok h.ok, by rw [el]; exact n4, whole_nil, fun b hb => ?_, hfew⟩, rfl⟩
   show rdD Z.2 b = C b
   have hu : usableS T.P b := hb
   have hu2 : usableS (T.law C).P b := by rw [h.plan]; exact hu
   rw [n5 b (ht.us hu).1, hrd b hu2]
 · rw [if_pos (by rw [n1]; decide)]
   intro _ _ _ _ _
   refine .inr ⟨n1, by rw [n1]; show (T.dead || _) = true; simp, n2, n3, ?_⟩
   rcases n4 with n4 | n4
   · exact Good.mono ⟨T.law C, law_len h.ok hZl, n4, rfl, hf, rfl⟩ (Nat.le_succ k)
   · exact ⟨(T.law C).nx S', law_len (hx.ok h.ok) hZl, n4, hx.g, hfew, rfl⟩
end Go.Proofs

set_option maxRecDepth 20000
namespace Go.Proofs
open Go.Eng
theorem live_app {T : TM} {k M : Nat} {C C' : Int → List UInt8} {P : List Rv} (h : Live T k C) (hk : k ≤ 1000000000) (hD : DB M T.D) (hf : Fit (T.law C) P C') :
   ((T.app (P ++ [cmt P.length])).1 = 0 ∧ (T.app (P ++ [cmt P.length])).2.up ∧ Al (T.app (P ++ [cmt P.length])).2.D (((T.app (P ++ [cmt P.length])).2).law C').sector ∧ (((T.app (P ++ [cmt P.length])).2).law C').ok T.D.blocks.length ∧ Whole (T.app (P ++ [cmt P.length])).2.R ((((T.app (P ++ [cmt P.length])).2).law C').L) ∧
     ∀ b, usableS T.P b → rdD (T.app (P ++ [cmt P.length])).2.D b = C b) ∨
   ((T.app (P ++ [cmt P.length])).1 = 5 ∧ (T.app (P ++ [cmt P.length])).2.D.off = true ∧ (T.app (P ++ [cmt P.length])).2.D.wait = [] ∧ (Good (T.app (P ++ [cmt P.length])).2.D (supG T.S) k C ∨ Good (T.app (P ++ [cmt P.length])).2.D (supG T.S) k C')) := by
 have ht := h.up.ok
 have hn := ht.n1
 have hlb := ht.lb
 have hR := ht.R
 have hh := ht.h
 have hfew := h.few
 have e1 : T.h = T.S.2.2.2.2.2 := rfl
 have hroom : (P.length : Int) + 1 ≤ 4 * T.n - T.R.length := hf.room
 obtain ⟨ys, hys⟩ : ∃ ys, P ++ [cmt P.length] = ys := ⟨_, rfl⟩
 have hyl : ys.length = P.length + 1 := by rw [← hys]; simp
 have hyok : ∀ x ∈ ys, okV x = true := fun x hx => by
   rw [← hys] at hx
   rcases List.mem_append.1 hx with h | h
   · exact (hf.ok x h).1
   · rw [List.mem_singleton] at h; subst h; exact cmt_ok (by omega)
 have hmix := fun (E : DM) => hf.mix (D := T.D) (E := E) h.ok h.al
 have hfull := hf.full h.ok
 obtain ⟨ha1, hag, hapg, haP, hab, haS⟩ := app_cases h.up hD ys
 obtain ⟨hcs, hdg⟩ := appX_cases (D := T.D) (N := M) (n := T.n) (h := T.h) (R := T.R) (ys := ys) hD h.up.off ⟨by omega, by omega⟩ hh.1
 rw [hys] at hmix hfull ⊢
 have hAp : Ap T.n T.D (appX T.D 3 T.n T.h T.R ys).2 (T.h + T.R.length) ys (appX T.D 3 T.n T.h T.R ys).1 := by
   rcases hcs with ⟨h1, _⟩ | ⟨h1, _⟩
   · exact h1
   · exfalso
     have hall : ys.all okV = true := by rw [List.all_eq_true]; exact hyok
     have := hfew.2
     have hX : appX T.D 3 T.n T.h T.R ys = appD T.n 3 ys.length T.D (T.h + T.R.length) ys := by
       unfold appX
       rw [if_neg (by rw [hall]; decide), if_neg (by omega), if_neg (by omega)]
     have h2 := (appD_ap (n := T.n) (N0 := T.D.blocks.length) ⟨by omega, by omega⟩ ys.length T.D (T.h + T.R.length) ys M hD rfl h.up.off (Nat.le_refl _) fun i x hx => rec_ok.2 ⟨by
       have := (split_at hx).2
       unfold mayL; omega, hyok x (List.mem_of_getElem? hx)⟩).1.res
     rw [hX] at h1
     rcases h2 with h2 | h2 <;> rcases h1 with h1 | h1 | h1 <;> omega

 have hsvA : ∀ (b : Int) (k : Nat) (v : List UInt8), 0 ≤ b → k < 4 → Sv (appX T.D 3 T.n T.h T.R ys).2 b k v → Sv T.D b k v ∨ ∃ (i : Nat) (x : Rv), ys[i]? = some x ∧ At T.n b k (T.h + T.R.length + i) ∧ v = secX (T.h + T.R.length + i) x := hAp.sv
 revert ha1 hag hapg haP hab haS
 unfold TM.app
 dsimp only
 generalize appX T.D 3 T.n T.h T.R ys = A at hAp hsvA hdg ⊢
 have gd : ∀ {E : DM}, E.blocks.length = T.D.blocks.length → E.wait = [] → (∀ (b : Int) (k : Nat) (v : List UInt8), 0 ≤ b → k < 4 → Sv E b k v → Sv A.2 b k v) → Good E (supG T.S) k C ∨ Good E (supG T.S) k C' := fun {E} hl hw hE => by
   obtain ⟨⟨l', g1, g2, g3, g4⟩, _⟩ := hmix E hl hw fun b k v h0 hk hs => hsvA b k v h0 hk (hE b k v h0 hk hs)
   rcases g4 with g4 | g4
   · exact .inl ⟨l', g1, g2, by rw [g3], by rw [g3]; exact hfew, g4⟩
   · exact .inr ⟨l', g1, g2, by rw [g3], by rw [g3]; exact hfew, g4⟩
 rcases hAp.res with ⟨a0, a1, a2⟩ | ⟨a0, a1, a2⟩
 rotate_left
 · rw [if_neg (by rw [a0]; decide), if_neg (by rw [a0]; decide)]
   intro _ _ _ _ _ _
   exact .inr ⟨a0, a1, a2, gd hdg.len a2 fun _ _ _ _ _ h => h⟩
 rw [if_pos a0]
 have hfg := flushD_dg hdg.db
 have hl2 := hfg.len.trans hdg.len
 have hsf : ∀ (b : Int) (k : Nat) (v : List UInt8), 0 ≤ b → k < 4 → Sv (flushD A.2).2 b k v → Sv A.2 b k v := fun b k v h0 hk h => flush_sv hdg.db.ok h0 hk h
 rcases flush_cases hdg.db.ok a1 with ⟨f1, f2, f3, f4⟩ | ⟨f1, f2, f3⟩
 rotate_left
 · intro _ _ _ _ _ _
   exact .inr ⟨f1, f2, f3, gd hl2 f3 hsf⟩
 rw [f1, TM.told0]
 intro ha1 _ _ _ _ _
 have hup : ({ T with D := (flushD A.2).2, R := T.R ++ ys } : TM).up := by
   rcases ha1 with h | h | h
   · exact h.2.1
   · exact absurd rfl h.1
   · exact absurd h.1 (by decide)
 have el : ({ T with D := (flushD A.2).2, R := T.R ++ ys } : TM).law C' = (T.law C).grow ys (P.length + 1) C' := by
   refine congrArg (fun u => (⟨T.S, T.R ++ ys, u, C'⟩ : Law)) ?_
   show T.h + ((T.R ++ ys).length : Int) = T.h + T.R.length + ((P.length + 1 : Nat) : Int)
   rw [List.length_append]
   push_cast
   omega
 obtain ⟨_, hAl⟩ := hmix _ hl2 f3 fun b k v h0 hk hs => hsvA b k v h0 hk (hsf b k v h0 hk hs)
 refine .inl ⟨rfl, hup, ?_, by rw [el]; exact hfull.1, by rw [el, hfull.2.1]; exact hfull.2.2, fun b hb => ?_⟩
 · rw [el]
   refine hAl fun i x b k hx hk hat => ?_
   have hat : At T.n b k (T.h + T.R.length + i) := hat
   have hb := at_blk hk (by omega) hat
   show sec (rdD (flushD A.2).2 b) k = secX (T.h + T.R.length + i) x
   rw [f4 b (by omega)]
   rcases a2 b k (by omega) hk with ⟨_, h2⟩ | ⟨i', y, h2, h3, h4⟩
   · exact absurd hat (h2 i (split_at hx).2)
   · have := (split_at hx).2
     have := (split_at h2).2
     have h5 := at_one hat h3 (by omega) (by omega)
     have h6 : i = i' := by omega
     subst h6
     rw [hx] at h2; cases h2
     exact h4
 · show rdD (flushD A.2).2 b = C b
   have hu := usable_lt ht hb
   rw [f4 b hu.1]
   have := hAp
   rw [a0] at this
   rw [this.rd ht.D hdg.db.ok hdg.len (by omega) hu (by have := ht.us hb; omega)]
   exact h.rd b hb
theorem live_home {l : Law} {f : Int → List UInt8} {len : Nat} (hl : l.ok len) : ∀ (ks : List Int) (D : DM) (N : Nat), (∀ k ∈ ks, usableS l.P k ∧ f k = l.C k) → DB N D → D.blocks.length = len → D.off = false → Al D l.sector →
   ((On (homeD f ks D) ∧ Al (homeD f ks D).2 l.sector ∧ ∀ b, rdD (homeD f ks D).2 b = if b ∈ ks then l.C b else rdD D b) ∨ (Off (homeD f ks D) ∧ Al (homeD f ks D).2 l.sector)) ∧ DG D (homeD f ks D).2 N (2 * ks.length)
 | [], D, N, _, hD, _, ho, ha => ⟨.inl ⟨⟨rfl, ho⟩, ha, fun b => by simp [homeD]⟩, .refl hD _⟩
 | k :: ks, D, N, hu, hD, hlen, ho, ha => by
   subst hlen
   obtain ⟨hk, hfk⟩ := hu k (by simp)
   have hr := hl.ub hk
   have hal := ha.write hD.ok hD.bd (i := k) (l := f k) (home_ok hl hk hfk (D := D) rfl)
   have hg := writeD_dg hD k (f k)
   rw [homeD]
   rcases write_cases hD.ok ho hr (show (f k).length = 256 by rw [hfk]; exact hl.clen k hk) with ⟨w1, w2, w3⟩ | ⟨w1, w2, w3⟩
   · rw [if_neg (not_not_intro w1)]
     obtain ⟨h1, h2⟩ := live_home hl ks _ (N + 2) (fun j hj => hu j (by simp [hj])) hg.db hg.len w2 hal
     refine ⟨?_, (hg.trans h2).mono (by rw [List.length_cons]; omega)⟩
     rcases h1 with ⟨h1, h2, h3⟩ | h1
     · refine .inl ⟨h1, h2, fun b => ?_⟩
       rw [h3 b, w3]
       by_cases hbk : b = k
       · subst hbk
         simp [hfk]
       · simp [hbk, show ¬ k = b from fun h => hbk h.symm]
     · exact .inr h1
   · rw [if_pos (by rw [w1]; decide)]
     exact ⟨.inr ⟨⟨w1, w2, w3⟩, hal⟩, hg.mono (by rw [List.length_cons]; omega)⟩
theorem page_pg {T T' : TM} {b : Int} (h : T'.pg = T.pg) (hb : ∃ p ∈ T.pg, p.1 = b) : T'.page b = T.page b := by
 obtain ⟨p, hp, rfl⟩ := hb
 unfold TM.page
 rw [h]
 cases hf : T.pg.find? (·.1 == p.1) with
 | some q => rfl
 | none =>
   rw [List.find?_eq_none] at hf
   exact absurd (by simp) (hf p hp)
end Go.Proofs

set_option maxRecDepth 20000
namespace Go.Proofs
open Go.Eng
theorem live_commit {T : TM} {k M : Nat} {C : Int → List UInt8} (h : Live T k C) (hk : k ≤ 100000000) (hD : DB M T.D) (hb : T.busy = true) :
   ((T.commit.1 = 0 ∧ Live T.commit.2 (k + 1) T.page ∧ T.commit.2.busy = false) ∨
    (T.commit.1 = 101 ∧ T.commit.2 = T.ends ∧ 4 * T.n ≤ T.patV.length) ∨
    (T.commit.1 = 5 ∧ T.commit.2.D.off = true ∧ T.commit.2.D.wait = [] ∧ (Good T.commit.2.D (supG T.S) (k + 1) C ∨ Good T.commit.2.D (supG T.S) (k + 1) T.page))) ∧
   DG T.D T.commit.2.D M 4200 ∧ supG T.commit.2.S = supG T.S := by
 have ht := h.up.ok
 have hn := ht.n1
 have hmay : mayE T.dead T.D = 0 := by unfold mayE; rw [h.up.dead, h.up.off]; rfl
 have hP := fun v hv => patV_mem ht (v := v) hv
 have hpat := fun b hb => redo_pat h (b := b) hb
 unfold TM.commit
 rw [if_neg (not_not_intro hmay), if_neg (by rw [hb]; decide)]
 generalize hV : T.patV = V at hP hpat ⊢
 dsimp only
 by_cases h0 : V.length = 0
 · rw [if_pos h0]
   have : V = [] := List.eq_nil_of_length_eq_zero h0
   subst this
   exact ⟨.inl ⟨rfl, (h.ends.congr fun b hbu => (hpat b hbu).symm).mono (by omega), rfl⟩, .refl hD _, rfl⟩
 rw [if_neg h0]
 by_cases h1 : (V.length : Int) ≥ 4 * T.n
 · rw [if_pos h1]
   exact ⟨.inr (.inl ⟨rfl, rfl, by omega⟩), .refl hD _, rfl⟩
 rw [if_neg h1]
 obtain ⟨X, hX⟩ : ∃ X, (if (V.length : Int) + 1 > 4 * T.n - T.R.length then T.cpt else (0, T)) = X := ⟨_, rfl⟩
 rw [hX]
 have hXc : ((X.1 = 0 ∧ Live X.2 (k + 1) C ∧ (V.length : Int) + 1 ≤ 4 * T.n - X.2.R.length) ∨ (X.1 = 5 ∧ X.2.D.off = true ∧ X.2.D.wait = [] ∧ Good X.2.D (supG T.S) (k + 1) C)) ∧ DG T.D X.2.D M 4 ∧ X.2.pg = T.pg ∧ X.2.P = T.P ∧ supG X.2.S = supG T.S := by
   rw [← hX]
   split
   · obtain ⟨h2, h3, h4, h5, _, h6⟩ := cpt_cases h.up hD
     refine ⟨?_, h3, h4, h5, h6⟩
     rcases live_cpt h (by omega) hD with ⟨c1, c2, c3⟩ | ⟨c1, _, c2⟩
     · exact .inl ⟨c1, c2, by rw [c3]; simp; omega⟩
     · exact .inr ⟨c1, c2⟩
   · exact ⟨.inl ⟨rfl, h.mono (by omega), by show _ ≤ 4 * T.n - (T.R.length : Int); omega⟩, .refl hD _, rfl, rfl, rfl⟩
 clear hX
 obtain ⟨hX1, hXd, hXpg, hXP, hXg⟩ := hXc
 rcases hX1 with ⟨x0, xl, xr⟩ | ⟨x5, x6, x7, x8⟩
 rotate_left
 · rw [if_pos (by rw [x5]; decide)]
   exact ⟨.inr (.inr ⟨x5, x6, x7, .inl x8⟩), hXd.mono (by omega), hXg⟩
 rw [if_neg (not_not_intro x0)]
 have hnX : X.2.n = T.n := congrArg (·.2.1) hXg
 have hpl := xl.plan
 rw [hXP] at hpl
 have hf : Fit (X.2.law C) V T.page := by
   refine ⟨xl.wh, rfl, fun v hv => ?_, ?_, fun b hbu => ?_, fun b hbu => ?_⟩
   · obtain ⟨p1, p2, p, hp, hpv⟩ := hP v hv
     exact ⟨p1, p2, by rw [hpl, ← hpv]; exact (ht.pg p hp).1⟩
   · show (V.length : Int) + 1 ≤ 4 * X.2.n - X.2.R.length
     rw [hnX]; exact xr
   · rw [hpl] at hbu; exact TM.page_len ht hbu
   · rw [hpl] at hbu; exact hpat b hbu
 obtain ⟨_, hag, hapg, haP, _, haS⟩ := app_cases xl.up hXd.db (V ++ [cmt V.length])
 have hla := live_app xl (by omega) hXd.db hf
 have hal : (V ++ [cmt V.length]).length = V.length + 1 := by simp
 rw [hal] at hag
 generalize X.2.app (V ++ [cmt V.length]) = A at hag hapg haP haS hla ⊢
 have hdA := (hXd.trans hag)
 rcases hla with ⟨a0, a1, a2, a3, a4, a5⟩ | ⟨a5, a6, a7, a8⟩
 rotate_left
 · rw [if_pos (by rw [a5]; decide)]
   refine ⟨.inr (.inr ⟨a5, a6, a7, ?_⟩), hdA.mono (by omega), by show supG A.2.S = _; rw [haS]; exact hXg⟩
   rw [hXg] at a8
   exact a8
 rw [if_neg (not_not_intro a0)]
 have hks : ∀ b ∈ blocksV V, usableS (A.2.law T.page).P b ∧ A.2.page b = (A.2.law T.page).C b := fun b hbk => by
   obtain ⟨v, hv, _, rfl⟩ := mem_setB.1 ((sortI_perm _).subset hbk)
   obtain ⟨_, _, p, hp, hpv⟩ := hP v hv
   refine ⟨?_, page_pg (hapg.trans hXpg) ⟨p, hp, hpv⟩⟩
   have : (A.2.law T.page).P = T.P := by
     show planT (supG A.2.S) = T.P
     rw [haS, hXg, ht.P, (ofG_ok ht.g).2.2.2]
   rw [this, ← hpv]
   exact (ht.pg p hp).1
 have hkl : (blocksV V).length ≤ V.length := by
   unfold blocksV
   rw [(sortI_perm _).length_eq]
   exact setB_len V
 have hlenA : A.2.D.blocks.length = T.D.blocks.length := hdA.len
 obtain ⟨hh, hhg⟩ := live_home a3 (blocksV V) A.2.D _ hks hdA.db (hlenA.trans hXd.len.symm) a1.off a2
 generalize homeD A.2.page (blocksV V) A.2.D = H at hh hhg ⊢
 have hdg := (hdA.trans hhg).mono (K := 4200) (by omega)
 have hHl : H.2.blocks.length = X.2.D.blocks.length := (hhg.len.trans hlenA).trans hXd.len.symm
 refine ⟨?_, hdg, by show supG A.2.S = _; rw [haS]; exact hXg⟩
 rcases hh with ⟨⟨g1, g2⟩, g3, g4⟩ | ⟨⟨g1, g2, g3⟩, g4⟩
 · rw [g1, TM.told0]
   have hup : ({ A.2 with D := H.2 } : TM).up := ⟨a1.ok.toD hdg.db.ok (hHl.trans (hXd.len.trans hlenA.symm)), a1.dead, g2⟩
   have hlv : Live ({ A.2 with D := H.2 } : TM) (k + 1) T.page := by
     refine ⟨hup, law_len a3 hHl, g3, a4, fun b hbu => ?_, by show few A.2.S _; rw [haS]; exact xl.few⟩
     have hbu : usableS T.P b := by rw [← hXP, ← haP]; exact hbu
     show rdD H.2 b = T.page b
     rw [g4 b]
     by_cases hm : b ∈ blocksV V
     · rw [if_pos hm]
     · rw [if_neg hm, a5 b (by rw [hXP]; exact hbu), ← hpat b hbu, redoV_other b V _ (fun v hv => (hP v hv).1) hm]
   exact .inl ⟨rfl, hlv.ends, rfl⟩
 · refine .inr (.inr ⟨g1, g2, g3, .inr ⟨A.2.law T.page, law_len a3 hHl, g4, by show supG A.2.S = _; rw [haS]; exact hXg, by show few A.2.S _; rw [haS]; exact xl.few, rfl⟩⟩)
end Go.Proofs

set_option maxRecDepth 20000
namespace Go.Proofs
open Go.Eng
def C0 (D : DM) : Prop := D.armed = 0 ∧ D.off = false
theorem C0.goes {D : DM} (h : C0 D) : (goesD D).1 = false ∧ C0 (goesD D).2 := by
 unfold goesD
 rw [if_pos h.1]
 exact ⟨rfl, h.1, h.2⟩
theorem C0.write {D : DM} (h : C0 D) (i : Int) (l : List UInt8) : C0 (writeD D i l).2 := by
 unfold writeD
 split
 · exact h
 · split
   · exact h
   · exact (C0.goes (D := addW D i l) h).2
theorem C0.flush {D : DM} (h : C0 D) : C0 (flushD D).2 ∧ (flushD D).1 = 0 := by
 unfold flushD
 have hg := h.goes
 rw [h.2, if_neg (by decide), hg.1, if_neg (by decide)]
 exact ⟨hg.2, rfl⟩
structure Inv (Q : DM → Prop) : Prop where
 write : ∀ {D : DM}, Q D → ∀ i l, Q (writeD D i l).2
 flush : ∀ {D : DM}, Q D → Q (flushD D).2
section
variable {Q : DM → Prop} (v : Inv Q)
include v
theorem Inv.note {D : DM} (h : Q D) (S : Sup) : Q (noteD D S).2 := by
 unfold noteD
 split
 · exact h
 · split
   · exact v.write h _ _
   · exact v.flush (v.write h _ _)
theorem Inv.layD {D : DM} (h : Q D) (n b q : Int) (xs : List Rv) : Q (layD D n b q xs).2 := by
 unfold Go.Proofs.layD
 split
 · exact h
 · split
   · exact h
   · exact v.write h _ _
theorem Inv.appD {n st : Int} : ∀ (f : Nat) {D : DM} (_ : Q D) (q : Int) (ys : List Rv), Q (appD n st f D q ys).2
 | 0, D, h, _, _ => h
 | f + 1, D, h, q, ys => by
   rw [Go.Proofs.appD]
   split
   · exact h
   · split
     · exact v.layD h _ _ _ _
     · exact Inv.appD f (v.layD h _ _ _ _) _ _
theorem Inv.appX {D : DM} (h : Q D) (st n hh : Int) (R ys : List Rv) : Q (appX D st n hh R ys).2 := by
 unfold Go.Proofs.appX
 split
 · exact h
 · split
   · exact h
   · split
     · exact h
     · exact v.appD _ h _ _
theorem Inv.home {f : Int → List UInt8} : ∀ (ks : List Int) {D : DM} (_ : Q D), Q (homeD f ks D).2
 | [], _, h => h
 | k :: ks, D, h => by
   rw [homeD]
   split
   · exact v.write h _ _
   · exact Inv.home ks (v.write h _ _)
theorem Inv.redo {vs : List Rv} : ∀ (ks : List Int) {D : DM} (_ : Q D), Q (redoB vs ks D).2
 | [], _, h => v.flush h
 | k :: ks, D, h => by
   rw [redoB]
   split
   · exact h
   · split
     · exact h
     · split
       · exact Inv.redo ks h
       · split
         · exact v.write h _ _
         · exact Inv.redo ks (v.write h _ _)
theorem Inv.cpt {T : TM} (h : Q T.D) : Q T.cpt.2.D := by
 unfold TM.cpt
 split
 · exact h
 · split
   · exact v.flush h
   · split
     · exact v.flush h
     · split
       · exact v.note (v.flush h) _
       · exact v.note (v.flush h) _
theorem Inv.app {T : TM} (h : Q T.D) (ys : List Rv) : Q (T.app ys).2.D := by
 unfold TM.app
 dsimp only
 split
 · exact v.flush (v.appX h _ _ _ _ _)
 · split
   · exact v.appX h _ _ _ _ _
   · exact v.appX h _ _ _ _ _
theorem Inv.commit {T : TM} (h : Q T.D) : Q T.commit.2.D := by
 have hX : Q (if (T.patV.length : Int) + 1 > 4 * T.n - T.R.length then T.cpt else (0, T)).2.D := by
   split
   · exact v.cpt h
   · exact h
 unfold TM.commit
 split
 · exact h
 · split
   · exact h
   · split
     · exact h
     · split
       · exact h
       · dsimp only
         generalize (if (T.patV.length : Int) + 1 > 4 * T.n - T.R.length then T.cpt else (0, T)) = X at hX ⊢
         split
         · exact hX
         · split
           · exact v.app hX _
           · exact v.home _ (v.app hX _)
theorem Inv.openT {D : DM} (h : Q D) : Q (openT D).2 := by
 unfold Go.Proofs.openT
 dsimp only
 split
 · exact h
 · split
   · exact h
   · split
     · exact h
     · split
       · exact h
       · split
         · exact h
         · split
           · exact h
           · split
             · exact v.redo _ h
             · exact v.note (v.redo _ h) _
end
theorem C0.inv : Inv C0 := ⟨fun h i l => h.write i l, fun h => h.flush.1⟩
theorem C0.note {D : DM} (h : C0 D) (S : Sup) : C0 (noteD D S).2 := C0.inv.note h S
theorem C0.commit {T : TM} (h : C0 T.D) : C0 T.commit.2.D := C0.inv.commit h
theorem C0.openT {D : DM} (h : C0 D) : C0 (openT D).2 := C0.inv.openT h
theorem C0.on {r : Int × DM} (h : C0 r.2) : ¬ Off r := fun h' => by have := h.2; rw [h'.2.1] at this; cases this
def T0 (D : DM) : TM := ⟨(openT D).2, (lapS (chosenS D).1 ((chosenS D).1.2.2.2.2.2 + (scanO D 3 (chosenS D).1.2.2.1 (chosenS D).1.2.2.2.2.2).length)).1, (ofG (supG (chosenS D).1)).1, false, false, [], []⟩
theorem live_open {D : DM} {N k : Nat} {g : Geo} {C : Int → List UInt8} (h : Good D g k C) (hD : DB N D) (ho : D.off = false) (hk : k ≤ 100000000) :
   ((On (openT D) ∧ (openT D).2.wait = [] ∧ Live (T0 D) (k + 1) C ∧ supG (T0 D).S = g) ∨ (Off (openT D) ∧ Good (openT D).2 g (k + 1) C)) ∧ DG D (openT D).2 N 2060 := by
 obtain ⟨l, hl, ha, hg, hf, rfl⟩ := h
 have hf1 := hf.1
 have hf2 := hf.2
 have e1 : l.h = l.S.2.2.2.2.2 := rfl
 obtain ⟨hx, hx0, hxh⟩ := up_ok hl (by omega) (by omega)
 obtain ⟨ho1, hdg⟩ := open_ok hl hD ho ha (by omega) (by omega)
 have hR := hl.R
 have hn := hl.n1
 have hfew : few l.up (k + 1) := ⟨by rw [hx.e]; push_cast; omega, by rw [hxh]; push_cast; omega⟩
 have hgu : supG l.up = g := by rw [hx.g, hg]
 refine ⟨?_, hdg⟩
 rcases ho1 with ⟨o1, o2, o3, o4, o5⟩ | ⟨o1, o2⟩
 · refine .inl ⟨o1, o2, ?_⟩
   have hc := chosen_is hl hD.ok ho ha
   have hT : T0 D = ⟨(openT D).2, l.up, planT (supG l.S), false, false, [], []⟩ := by
     unfold T0
     rw [hc, hl.g.2.2.2]
     show (⟨(openT D).2, (lapS l.S (l.h + (scanO D 3 l.n l.h).length)).1, _, _, _, _, _⟩ : TM) = _
     rw [scanned hl ha]
   rw [hT]
   have hP : planT (supG l.S) = (ofG (supG l.up)).1 := by rw [hx.g, hl.g.2.2.2]
   have el : (⟨(openT D).2, l.up, planT (supG l.S), false, false, [], []⟩ : TM).law l.C = l.nx l.up := by
     unfold TM.law Law.nx TM.h
     simp
   have hsl := hx.ok (len := D.blocks.length) hl
   obtain ⟨_, _, _, u1, u2⟩ := supE_ok hx.s
   refine ⟨⟨⟨⟨hdg.db.ok, hP, by show (ofG (supG l.up)).2 = 0; rw [hx.g, hl.g.2.2.2], ?_, ⟨u1, u2⟩, ?_, rfl, List.nodup_nil, (fun p hp => by cases hp), fun _ => rfl⟩, rfl, o1.2⟩, ?_, ?_, whole_nil, o4, hfew⟩, hgu⟩
   · show ((openT D).2.blocks.length : Int) = l.up.2.1
     rw [hdg.len]; exact hsl.len
   · show ((0 : Nat) : Int) ≤ 4 * l.up.2.2.1
     have : l.up.2.2.1 = l.n := hx.n
     omega
   · rw [el]; exact law_len hsl hdg.len
   · rw [el]; exact o3
 · refine .inr ⟨o1, ?_⟩
   rcases o2 with o2 | o2
   · exact ⟨l, law_len hl hdg.len, o2, hg, ⟨by omega, by omega⟩, rfl⟩
   · exact ⟨l.nx l.up, law_len (hx.ok hl) hdg.len, o2, hgu, hfew, rfl⟩
theorem magic_not {s : Sup} : sec (bytesS s) 0 ≠ ZZ 64 := by
 intro h
 have h1 := congrArg (·[0]?) h
 simp only [sec_get _ _ _ (by decide : 0 < 64)] at h1
 have h2 : (bytesS s)[64 * 0 + 0]? = some 97 := by
   unfold bytesS sealM superL magicS
   simp only [List.append_assoc]
   rfl
 rw [h2] at h1
 exact absurd h1 (by decide)
theorem take_zz {q : Int} : (takeR (ZZ 64) q).2 ≠ 0 := by
 intro h
 obtain ⟨_, h2, h3, _⟩ := take_ok h
 have hc := (checkB_num (h2 : checkB _ _ _ _ _ = true)).1
 have h4 := congrArg (·[0]?) h3
 have h5 : (secX q (takeR (ZZ 64) q).1)[0]? = some (UInt8.ofNat (takeR (ZZ 64) q).1.1.toNat) := rfl
 have h6 : (ZZ 64)[0]? = some 0 := by decide
 rw [h5, h6, Option.some.injEq] at h4
 have h7 := congrArg UInt8.toNat h4
 rw [UInt8.toNat_ofNat'] at h7
 have h8 : (0 : UInt8).toNat = 0 := rfl
 omega
theorem zero_sec (k : Nat) (hk : k < 4) : sec zero256 k = ZZ 64 := by
 unfold sec zero256 ZZ
 rw [List.drop_replicate, List.take_replicate]
 congr 1; omega
theorem nought_ok : ∀ (f : Nat) (D : DM) (i : Int) (N : Nat), C0 D → DB N D → 0 ≤ i → i + f ≤ D.blocks.length → (noughtD f D i).1 = 0 ∧ C0 (noughtD f D i).2 ∧ (noughtD f D i).2.wait = [] ∧ ∀ b, 0 ≤ b → rdD (noughtD f D i).2 b = if i ≤ b ∧ b < i + f then zero256 else rdD D b
 | 0, D, i, N, hc, hD, _, _ => by
   rcases flush_cases hD.ok hc.2 with ⟨f1, f2, f3, f4⟩ | ⟨f1, _⟩
   · exact ⟨f1, hc.flush.1, f3, fun b hb => by rw [if_neg (by omega)]; exact f4 b hb⟩
   · have := hc.flush.2; rw [f1] at this; cases this
 | f + 1, D, i, N, hc, hD, h0, h1 => by
   have hz : zero256.length = 256 := by unfold zero256; exact List.length_replicate
   have hg := writeD_dg hD i zero256
   have hcw := hc.write i zero256
   rw [noughtD]
   rcases write_cases hD.ok hc.2 (by omega : 0 ≤ i ∧ i < D.blocks.length) hz with ⟨w1, w2, w3⟩ | ⟨_, w2, _⟩
   · rw [if_neg (not_not_intro w1)]
     obtain ⟨g1, g2, g3, g4⟩ := nought_ok f _ (i + 1) _ hcw hg.db (by omega) (by rw [hg.len]; omega)
     refine ⟨g1, g2, g3, fun b hb => ?_⟩
     rw [g4 b hb, w3]
     by_cases hib : i = b
     · subst hib
       rw [if_neg (by omega), if_pos rfl, if_pos (by omega)]
     · rw [if_neg hib]
       by_cases hr : i + 1 ≤ b ∧ b < i + 1 + f
       · rw [if_pos hr, if_pos (by omega)]
       · rw [if_neg hr, if_neg (by omega)]
   · rw [hcw.2] at w2; cases w2
theorem newD_c0 (n : Nat) : C0 (newD n) := ⟨rfl, rfl⟩
theorem newD_db {n : Nat} (h1 : 1 ≤ n) (h2 : n ≤ 2048) : DB 0 (newD n) := ⟨newD_ok h1 h2, ⟨⟨Int.le_refl 0, by show (0 : Int) ≤ _; decide⟩, ⟨Int.le_refl 0, Int.le_refl 0⟩, Nat.le_refl 0⟩⟩
theorem newD_rd' {n : Nat} {b : Int} (h : 0 ≤ b ∧ b < n) : rdD (newD n) b = zero256 := by
 rw [rd_none rfl]
 show ((List.replicate n zero256)[b.toNat]?).getD [] = zero256
 rw [List.getElem?_replicate, if_pos (by omega)]; rfl
theorem format_ok {g : Geo} (hg : geoE g = 0) : (formatD (newD g.1.toNat) g).1 = 0 ∧ C0 (formatD (newD g.1.toNat) g).2 ∧ Good (formatD (newD g.1.toNat) g).2 g 2 (fun _ => zero256) ∧ DG (newD g.1.toNat) (formatD (newD g.1.toNat) g).2 0 5000 := by
 have hof : ofG g = (planT g, 0) := by unfold ofG; rw [if_pos hg]
 obtain ⟨hr, hp1, hp2, _⟩ := ofG_ok (g := g) (by rw [hof])
 have hpg := plan_gt hr
 have hn := hr.1
 have hn1 : 8 ≤ g.2.1 := hr.1.1
 have hheap : 2 ≤ (planT g).2.2.2.2.1 ∧ (planT g).2.2.2.2.1 ≤ g.1 := by
   obtain ⟨g1, g2, g3⟩ := hr
   have h1 : 0 ≤ (g.2.2.2 + 31) / 32 := Int.ediv_nonneg (by omega) (by omega)
   have h2 : 0 ≤ (g.2.2.2 + 63) / 64 := Int.ediv_nonneg (by omega) (by omega)
   unfold planT at hp1 ⊢
   dsimp only at hp1 ⊢
   omega
 have hl0 : (newD g.1.toNat).blocks.length = g.1.toNat := by unfold newD; exact List.length_replicate
 have hD := newD_db (n := g.1.toNat) (by omega) (by omega)
 obtain ⟨a1, a2, a3, a4⟩ := nought_ok 2 (newD g.1.toNat) 0 0 (newD_c0 _) hD (by omega) (by rw [hl0]; omega)
 have hag := noughtD_dg 2 hD 0
 unfold formatD
 rw [if_neg (by rw [(newD_c0 g.1.toNat).2]; decide), if_neg (not_not_intro hg), if_neg (by rw [hl0]; omega)]
 dsimp only
 rw [if_neg (not_not_intro a1)]
 generalize noughtD 2 (newD g.1.toNat) 0 = A at a2 a3 a4 hag ⊢
 obtain ⟨b1, b2, b3, b4⟩ := nought_ok ((planT g).2.2.2.2.1 - 2).toNat A.2 2 _ a2 hag.db (by omega) (by rw [hag.len, hl0]; omega)
 have hbg := hag.trans (noughtD_dg ((planT g).2.2.2.2.1 - 2).toNat hag.db 2)
 rw [if_neg (not_not_intro b1)]
 generalize noughtD ((planT g).2.2.2.2.1 - 2).toNat A.2 2 = B at b2 b3 b4 hbg ⊢
 have hrdB : ∀ b : Int, 0 ≤ b → b < g.1 → rdD B.2 b = zero256 := fun b h0 h1 => by
   rw [b4 b h0]
   split
   · rfl
   · rw [a4 b h0]
     split
     · rfl
     · exact newD_rd' ⟨h0, by omega⟩
 have hS : (firstS g).1 = (2, g.1, g.2.1, g.2.2.1, g.2.2.2, 4 * g.2.1) := by unfold firstS; rw [if_pos hg]
 obtain ⟨S, hSS⟩ : ∃ S, (firstS g).1 = S := ⟨_, rfl⟩
 rw [hSS] at hS ⊢
 have hsE : supE S = 0 := by
   rw [hS, supE_g (s := (2, g.1, g.2.1, g.2.2.1, g.2.2.2, 4 * g.2.1)) hg, if_pos]
   exact ⟨show (1 : Int) ≤ 2 by decide, show (2 : Int) ≤ 1152921504606846976 by decide, by dsimp only; omega, by dsimp only; omega⟩
 have hsl : slotS S = 0 := by rw [hS]; rfl
 have hlB : B.2.blocks.length = g.1.toNat := hbg.len.trans hl0
 have hngd := noteD_dg hbg.db S
 have hdg := (hbg.trans hngd).mono (K := 5000) (by omega)
 have hcn := b2.note S
 have hno : (noteD B.2 S).1 = 0 ∧ (noteD B.2 S).2.wait = [] ∧ ∀ b, 0 ≤ b → rdD (noteD B.2 S).2 b = if b = 0 then bytesS S else rdD B.2 b := by
   unfold noteD
   rw [if_neg (not_not_intro hsE), hsl]
   have hcw := b2.write 0 (bytesS S)
   have hwg := writeD_dg hbg.db 0 (bytesS S)
   rcases write_cases hbg.db.ok b2.2 (by omega : (0 : Int) ≤ 0 ∧ (0 : Int) < B.2.blocks.length) (bytesS_len S) with ⟨w1, w2, w3⟩ | ⟨_, w2, _⟩
   · rw [if_neg (not_not_intro w1)]
     rcases flush_cases hwg.db.ok w2 with ⟨f1, f2, f3, f4⟩ | ⟨f1, _⟩
     · refine ⟨f1, f3, fun b hb => ?_⟩
       rw [f4 b hb, w3]
       by_cases h : b = 0
       · subst h; rfl
       · rw [if_neg h, if_neg fun h' => h h'.symm]
     · have := hcw.flush.2; rw [f1] at this; cases this
   · rw [hcw.2] at w2; cases w2
 refine ⟨hno.1, hcn, ⟨⟨S, [], S.2.2.2.2.2, fun _ => zero256⟩, ?_, ?_, by rw [hS], ?_, rfl⟩, hdg⟩
 · rw [hngd.len, hlB]
   refine ⟨hsE, by rw [hS]; show ((g.1.toNat : Nat) : Int) = g.1; omega, ?_, (fun v hv => by cases hv), (fun v hv => by cases hv), ?_, fun _ _ => List.length_replicate, fun _ _ => rfl⟩
   · show ((0 : Nat) : Int) ≤ 4 * S.2.2.1
     rw [hS]; show ((0 : Nat) : Int) ≤ 4 * g.2.1; omega
   · show S.2.2.2.2.2 ≤ S.2.2.2.2.2 + 4 * S.2.2.1
     rw [hS]; show 4 * g.2.1 ≤ 4 * g.2.1 + 4 * g.2.1; omega
 · refine Al.quiet hno.2.1 fun b k h0 h1 hk => ?_
   rw [hngd.len, hlB] at h1
   rw [hno.2.2 b h0]
   refine ⟨fun h => ?_, fun h => ?_, fun h h3 => ?_, fun h => ?_⟩
   · have h : b = slotS S := h
     rw [if_pos (by omega)]
   · have h : b = 1 - slotS S := h
     rw [if_neg (by omega), hrdB b h0 (by omega), zero_sec k hk]
     exact ⟨fun _ => rfl, fun _ s _ h => absurd h.symm magic_not⟩
   · rw [if_neg (by omega), hrdB b h0 (by omega), zero_sec k hk]
     exact ⟨fun i x hx => (by cases hx), fun _ q hq => absurd hq take_zz⟩
   · have h : usableS (planT (supG S)) b := h
     have h2 : b = 2 ∨ 3 ≤ b := by
       rw [hS] at h
       have := usable_ge hr h
       omega
     rw [if_neg (by omega), hrdB b h0 (by omega)]
     exact ⟨sec_len List.length_replicate hk, fun o ho => .inr (by rw [sec_get _ _ _ ho])⟩
 · rw [hS]
   refine ⟨by show (2 : Int) ≤ ((2 : Nat) : Int); omega, ?_⟩
   have : g.2.1 ≤ 256 := hr.1.2
   show 4 * g.2.1 ≤ 2048 * ((2 : Nat) : Int)
   omega
end Go.Proofs
